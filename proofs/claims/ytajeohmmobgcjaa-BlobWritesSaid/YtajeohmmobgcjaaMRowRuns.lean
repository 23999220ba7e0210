/- Rows: a slice of runs that came in. Rows: a slice of deeds that came in. Rows: a slice of puts that came in. -/
import Derived.Test.YtajeohmmobgcjaaMArgs
import Derived.Test.YtajeohmmobgcjaaMShape
import Derived.Test.YtajeohmmobgcjaaMDevL
import Derived.Test.YtajeohmmobgcjaaMPutsM
section
namespace Go.Proofs.Ytajeohmmobgcjaa
open Go.RowKit Go.WideShapes Go.ChangeShapes
set_option maxRecDepth 100000 in
theorem open_runs {H : Type} {enc : TypeId × Value → H} {w : World} {r : Reach} {b0 : Nat} {hd : Bool} {v : Value} {d : DataW H} {ps : List MemPlace}
    (hval : Value.okWide Try.prog w r b0 24 v) (h : DataW.Trod enc Try.prog w 0 (fun _ => true) hd 24 v d ps) (hsz : ∀ n ∈ d.weights Try.prog 24, n ≤ reachBytes) :
    ∃ ls : List Run, RunsM w w.heap.size v ls ∧ ls.length ≤ 140737488355328 := by
  have hr := reachBytes_lt
  have ce : Try.prog.cellsOf 40 = 2 := by kernel_rfl
  have bs : Try.prog.bytesOf 40 = 16 := by kernel_rfl
  obtain ⟨a0, len, cap, rfl⟩ := okWide_slice Try.underlying24 hval
  obtain ⟨fuel, hf⟩ := h
  rcases Go.Deep.open_slice Try.underlying24 hf with ⟨hcs, hx⟩ | ⟨a, len', cap', m, n, D, Pl, hcs, _, hl, hm, hmm, hx, hi⟩
  · simp [Value.cells] at hcs
    obtain ⟨rfl, rfl, rfl⟩ := hcs
    exact ⟨[], runs_nil _ _, by simp⟩
  · simp [Value.cells] at hcs
    obtain ⟨rfl, rfl, rfl⟩ := hcs
    simp only [Prod.mk.injEq] at hx
    obtain ⟨rfl, _⟩ := hx
    simp only [if_true] at hmm
    rw [ce] at hi
    have hel : ∀ i, i < len → ∃ p : Run, (w.cell? (a.add (i * 2)) = some (.int .i64 p.1) ∧ w.cell? ((a.add (i * 2)).add 1) = some (.int .i64 p.2)) ∧ r64 p := by
      intro i hil
      obtain ⟨cs', hc, htr⟩ := hi i (by omega)
      obtain ⟨xs, n', hn', hy, hlen, hxl, hfl⟩ := DataW.trod_struct Try.underlying40 htr
      obtain ⟨_, hcl, hat⟩ := World.cells?_some hc
      match cs', hcl with
      | [u0, u1], _ =>
        match xs, hxl with
        | [y0, y1], _ =>
          have g0 : DataW.trod enc Try.prog w 0 (fun _ => true) hd n' 3 [u0] = some y0 := hfl 0 _ rfl
          have g1 : DataW.trod enc Try.prog w 0 (fun _ => true) hd n' 3 [u1] = some y1 := hfl 1 _ rfl
          obtain ⟨z0, e0, _, f0⟩ := DataW.trod_int Try.underlying3 g0
          obtain ⟨z1, e1, _, f1⟩ := DataW.trod_int Try.underlying3 g1
          injection e0 with e0
          injection e1 with e1
          subst e0 e1
          have k0 := hat 0 (by omega)
          have k1 := hat 1 (by omega)
          exact ⟨(z0, z1), ⟨by simpa [Addr.add] using k0, k1⟩, bounds_i64 f0, bounds_i64 f1⟩
    have hlen : len ≤ 140737488355328 := by
      have h5 := hsz (((List.range len).map D).length * 16 + ((List.range (m - len)).map fun j => D (len + j)).length * 16) (by
        simp only [DataW.weights, Try.underlying24]
        rw [bs, ← Nat.add_mul]
        exact List.mem_cons_self)
      simp only [List.length_map, List.length_range] at h5
      omega
    obtain ⟨f, hfp⟩ : ∃ f : Nat → Run, ∀ i, i < len → (w.cell? (a.add (i * 2)) = some (.int .i64 (f i).1) ∧ w.cell? ((a.add (i * 2)).add 1) = some (.int .i64 (f i).2)) ∧ r64 (f i) := by
      refine ⟨fun i => if h : i < len then Classical.choose (hel i h) else (0, 0), fun i h => ?_⟩
      simp only [dif_pos h]
      exact Classical.choose_spec (hel i h)
    clear hel
    have hll : ((List.range len).map f).length = len := by simp
    refine ⟨(List.range len).map f, ⟨some a, cap, by rw [hll], by omega, (fun h => by cases h), fun h0 => ?_, fun p hp => ?_⟩, by omega⟩
    · rw [hll] at h0
      obtain ⟨⟨h1, _⟩, _⟩ := hfp 0 h0
      obtain ⟨b, off, sp⟩ := a
      cases sp with
      | none =>
        have hlt := World.block_lt_of_cell? w _ h1
        refine ⟨b, off, rfl, by simpa [Addr.add] using hlt, fun j q hj => ?_⟩
        obtain ⟨hj1, hj2⟩ := List.getElem?_eq_some_iff.1 hj
        rw [hll] at hj1
        have hj3 : f j = q := by simpa using hj2
        obtain ⟨⟨k0, k1⟩, _⟩ := hfp j hj1
        rw [hj3, add_plain] at k0 k1
        rw [add_plain] at k1
        exact ⟨k0, k1⟩
      | some q =>
        have h2 : w.cell? ⟨b, off, some q⟩ = some (.int .i64 (f 0).1) := by simpa [Addr.add] using h1
        rw [cell_spot] at h2
        cases h2
    · obtain ⟨i, hi2, rfl⟩ := List.mem_map.1 hp
      exact (hfp i (List.mem_range.1 hi2)).2
end Go.Proofs.Ytajeohmmobgcjaa
end
section
namespace Go.Proofs.Ytajeohmmobgcjaa
open Go.RowKit Go.WideShapes Go.ChangeShapes
section
variable {H : Type} {enc : TypeId × Value → H} {P : Program}
theorem weightsAll_mem {e : TypeId} : ∀ {l : List (DataW H)} {d : DataW H}, d ∈ l → ∀ n ∈ d.weights P e, n ∈ DataW.weightsAll P e l
  | [], _, h, _, _ => by cases h
  | x :: l, d, h, n, hn => by
    rw [DataW.weightsAll, List.mem_append]
    rcases List.mem_cons.1 h with rfl | h
    · exact .inl hn
    · exact .inr (weightsAll_mem h n hn)
/-- a cell that holds a slice of bytes -/
theorem bslice_of {t e : TypeId} {w : World} {sp : Nat → Bool} {hd : Bool} {fuel : Nat} {u : Value} {x : DataW H × List MemPlace} (ht : P.underlying t = some (.slice e)) (he : P.underlying e = some (.int .u8)) (hc : P.cellsOf e = 1)
    (h : DataW.trod enc P w 0 sp hd fuel t [u] = some x) :
    ∃ (A : Option Addr) (cap : Nat) (l : List UInt8), u = .slice A l.length cap ∧ BytesAt w w.heap.size u l ∧ (A = none → cap = 0) ∧ ((x.1 = .nil ∧ l = []) ∨ ∃ elems spare, x.1 = .slice elems spare ∧ elems.length = l.length) := by
  rcases open_ints ht he hc h with ⟨hcs, hx⟩ | ⟨a, len, cap, zs, hcs, _, hl, hm, hz, hx, hcell, hwz⟩
  · injection hcs with hcs
    subst hcs hx
    exact ⟨none, 0, [], rfl, ⟨none, 0, rfl, Nat.le_refl _, fun h => absurd h (by simp)⟩, (fun _ => rfl), .inl ⟨rfl, rfl⟩⟩
  · injection hcs with hcs
    subst hcs hx
    have hlz : len ≤ zs.length := by rw [hz]; split <;> omega
    let l : List UInt8 := (zs.take len).map fun z => UInt8.ofNat z.toNat
    have hll : l.length = len := by simp [l]; omega
    have hcl : ∀ j, j < len → w.cell? (a.add j) = some (.int .u8 ((l.getD j 0).toNat : Int)) := by
      intro j hj
      rw [hcell j (by omega)]
      have hmem : zs.getD j 0 ∈ zs := by
        rw [List.getD_eq_getElem?_getD, List.getElem?_eq_getElem (by omega)]
        exact List.getElem_mem _
      have hb := bounds_u8 (hwz _ hmem)
      have e : l.getD j 0 = UInt8.ofNat (zs.getD j 0).toNat := by
        simp only [l, List.getD_eq_getElem?_getD, List.getElem?_map, List.getElem?_take_of_lt hj]
        rw [List.getElem?_eq_getElem (by omega)]
        rfl
      rw [e, UInt8.toNat_ofNat']
      congr 2
      omega
    refine ⟨some a, cap, l, by rw [hll], ⟨some a, cap, by rw [hll], by omega, fun h0 => ?_⟩, (fun h => by cases h), .inr ⟨_, _, rfl, ?_⟩⟩
    · have h1 := hcl 0 (by omega)
      have hlt := World.block_lt_of_cell? w _ h1
      obtain ⟨b, off, m⟩ := a
      cases m with
      | none =>
        refine ⟨b, off, rfl, by simpa [Addr.add] using hlt, fun j hj => ?_⟩
        have h2 := hcl j (by omega)
        rwa [add_plain] at h2
      | some m => exact absurd (show w.cell? ⟨b, off, some m⟩ = _ from h1) (by rw [cell_spot]; simp)
    · rw [hll]
      simp [lits, hlz]
end
theorem bounds_i64' {z : Int} (h : (Lit.int .i64 z).wf = true) : i64 z := bounds_i64 h
set_option maxRecDepth 100000 in
theorem open_deeds {H : Type} {enc : TypeId × Value → H} {w : World} {r : Reach} {b0 : Nat} {hd : Bool} {v : Value} {d : DataW H} {ps : List MemPlace}
    (hval : Value.okWide Try.prog w r b0 41 v) (h : DataW.Trod enc Try.prog w 0 (fun _ => true) hd 41 v d ps) (hsz : ∀ n ∈ d.weights Try.prog 41, n ≤ reachBytes) :
    ∃ (A : Option Addr) (cap : Nat) (ls : List Deed), v = .slice A ls.length cap ∧ DeedsM w w.heap.size v ls ∧ ls.length ≤ 140737488355328 ∧ ∀ p ∈ ls, p.b.length ≤ 140737488355328 := by
  have hr := reachBytes_lt
  have ce : Try.prog.cellsOf 50 = 4 := by kernel_rfl
  have c3 : Try.prog.cellsOf 5 = 1 := by kernel_rfl
  have bs : Try.prog.bytesOf 50 = 48 := by kernel_rfl
  have b8 : Try.prog.bytesOf 5 = 1 := by kernel_rfl
  obtain ⟨a0, len, cap, rfl⟩ := okWide_slice Try.underlying41 hval
  obtain ⟨fuel, hf⟩ := h
  rcases Go.Deep.open_slice Try.underlying41 hf with ⟨hcs, hx⟩ | ⟨a, len', cap', m, n, D, Pl, hcs, _, hl, hm, hmm, hx, hi⟩
  · simp [Value.cells] at hcs
    obtain ⟨rfl, rfl, rfl⟩ := hcs
    exact ⟨none, 0, [], rfl, ⟨none, 0, rfl, Nat.le_refl _, fun h => absurd h (by simp)⟩, by simp, by simp⟩
  · simp [Value.cells] at hcs
    obtain ⟨rfl, rfl, rfl⟩ := hcs
    simp only [Prod.mk.injEq] at hx
    obtain ⟨rfl, _⟩ := hx
    simp only [if_true] at hmm
    rw [ce] at hi
    have hel : ∀ i, i < len → ∃ p : Deed, (∃ A c, w.cell? (a.add (i * 4)) = some (.int .i64 p.what) ∧ w.cell? ((a.add (i * 4)).add 1) = some (.int .i64 p.n) ∧ w.cell? ((a.add (i * 4)).add 2) = some (.int .i64 p.most) ∧
        w.cell? ((a.add (i * 4)).add 3) = some (.slice A p.b.length c) ∧ BytesAt w w.heap.size (.slice A p.b.length c) p.b ∧ (A = none → c = 0)) ∧ i64 p.what ∧ i64 p.n ∧ i64 p.most ∧ p.b.length ≤ 140737488355328 := by
      intro i hil
      obtain ⟨cs', hc, htr⟩ := hi i (by omega)
      obtain ⟨xs, n', hn', hy, hlen, hxl, hfl⟩ := DataW.trod_struct Try.underlying50 htr
      obtain ⟨_, hcl, hat⟩ := World.cells?_some hc
      simp only [Prod.mk.injEq] at hy
      match cs', hcl with
      | [u0, u1, u2, u3], _ =>
        match xs, hxl with
        | [y0, y1, y2, y3], _ =>
          have g0 : DataW.trod enc Try.prog w 0 (fun _ => true) hd n' 3 [u0] = some y0 := hfl 0 _ rfl
          have g1 : DataW.trod enc Try.prog w 0 (fun _ => true) hd n' 3 [u1] = some y1 := hfl 1 _ rfl
          have g2 : DataW.trod enc Try.prog w 0 (fun _ => true) hd n' 3 [u2] = some y2 := hfl 2 _ rfl
          have g3 : DataW.trod enc Try.prog w 0 (fun _ => true) hd n' 48 [u3] = some y3 := hfl 3 _ rfl
          obtain ⟨z0, e0, _, f0⟩ := DataW.trod_int Try.underlying3 g0
          obtain ⟨z1, e1, _, f1⟩ := DataW.trod_int Try.underlying3 g1
          obtain ⟨z2, e2, _, f2⟩ := DataW.trod_int Try.underlying3 g2
          injection e0 with e0
          injection e1 with e1
          injection e2 with e2
          subst e0 e1 e2
          obtain ⟨A, c, l, rfl, hby, hnil, hd3⟩ := bslice_of Try.underlying48 Try.underlying5 c3 g3
          have k0 := hat 0 (by omega)
          have k1 := hat 1 (by omega)
          have k2 := hat 2 (by omega)
          have k3 := hat 3 (by omega)
          refine ⟨⟨z0, z1, z2, l⟩, ⟨A, c, by simpa [Addr.add] using k0, k1, k2, k3, hby, hnil⟩, bounds_i64' f0, bounds_i64' f1, bounds_i64' f2, ?_⟩
          rcases hd3 with ⟨_, rfl⟩ | ⟨elems, spare, hd3, hle⟩
          · simp
          · have hmem : D i ∈ (List.range len).map D := List.mem_map.2 ⟨i, List.mem_range.2 hil, rfl⟩
            have hw : (elems.length + spare.length) * Try.prog.bytesOf 5 ∈ (D i).weights Try.prog 50 := by
              rw [hy.1]
              simp only [DataW.weights, Try.underlying50, List.map_cons, List.map_nil]
              refine DataW.weights_mem_each (j := 3) (t := 48) (d := y3.1) rfl rfl _ ?_
              rw [hd3]
              simp only [DataW.weights, Try.underlying48]
              exact List.mem_cons_self
            have h5 := hsz ((elems.length + spare.length) * Try.prog.bytesOf 5) (by
              simp only [DataW.weights, Try.underlying41]
              exact List.mem_cons_of_mem _ (List.mem_append_left _ (weightsAll_mem hmem _ hw)))
            rw [b8] at h5
            show l.length ≤ _
            omega
    have hlen : len ≤ 140737488355328 := by
      have h5 := hsz (((List.range len).map D).length * 48 + ((List.range (m - len)).map fun j => D (len + j)).length * 48) (by
        simp only [DataW.weights, Try.underlying41]
        rw [bs, ← Nat.add_mul]
        exact List.mem_cons_self)
      simp only [List.length_map, List.length_range] at h5
      omega
    obtain ⟨f, hfp⟩ : ∃ f : Nat → Deed, ∀ i, i < len → (∃ A c, w.cell? (a.add (i * 4)) = some (.int .i64 (f i).what) ∧ w.cell? ((a.add (i * 4)).add 1) = some (.int .i64 (f i).n) ∧ w.cell? ((a.add (i * 4)).add 2) = some (.int .i64 (f i).most) ∧
        w.cell? ((a.add (i * 4)).add 3) = some (.slice A (f i).b.length c) ∧ BytesAt w w.heap.size (.slice A (f i).b.length c) (f i).b ∧ (A = none → c = 0)) ∧ i64 (f i).what ∧ i64 (f i).n ∧ i64 (f i).most ∧ (f i).b.length ≤ 140737488355328 := by
      refine ⟨fun i => if h : i < len then Classical.choose (hel i h) else ⟨0, 0, 0, []⟩, fun i h => ?_⟩
      simp only [dif_pos h]
      exact Classical.choose_spec (hel i h)
    clear hel
    have hll : ((List.range len).map f).length = len := by simp
    have hget : ∀ i, i < len → ((List.range len).map f).getD i ⟨0, 0, 0, []⟩ = f i := by
      intro i h
      simp [List.getD, h]
    refine ⟨some a, cap, (List.range len).map f, by rw [hll], ⟨some a, cap, by rw [hll], by omega, fun h0 => ?_⟩, by omega, fun p hp => ?_⟩
    · rw [hll] at h0
      obtain ⟨⟨A, c, h1, _⟩, _⟩ := hfp 0 h0
      obtain ⟨b, off, sp⟩ := a
      cases sp with
      | none =>
        have hlt := World.block_lt_of_cell? w _ h1
        refine ⟨b, off, rfl, by simpa [Addr.add] using hlt, fun j hj => ?_⟩
        rw [hll] at hj
        rw [hget j hj]
        obtain ⟨⟨A, c, k0, k1, k2, k3, k4, k5⟩, i0, i1, i2, _⟩ := hfp j hj
        rw [add_plain] at k0 k1 k2 k3
        rw [add_plain] at k1 k2 k3
        exact ⟨k0, k1, k2, ⟨A, c, k3, k4, k5⟩, i0, i1, i2⟩
      | some q =>
        have h2 : w.cell? ⟨b, off, some q⟩ = some (.int .i64 (f 0).what) := by simpa [Addr.add] using h1
        rw [cell_spot] at h2
        cases h2
    · obtain ⟨i, hi2, rfl⟩ := List.mem_map.1 hp
      exact (hfp i (List.mem_range.1 hi2)).2.2.2.2
end Go.Proofs.Ytajeohmmobgcjaa
end
section
namespace Go.Proofs.Ytajeohmmobgcjaa
open Go.RowKit Go.WideShapes Go.ChangeShapes
set_option maxRecDepth 100000
/-- a cell that holds a slice of runs -/
theorem runs_of {H : Type} {enc : TypeId × Value → H} {w : World} {sp : Nat → Bool} {hd : Bool} {fuel : Nat} {u : Value} {x : DataW H × List MemPlace}
    (h : DataW.trod enc Try.prog w 0 sp hd fuel 24 [u] = some x) : ∃ (A : Option Addr) (cap : Nat) (ls : List Run), u = .slice A ls.length cap ∧ RunsM w w.heap.size u ls ∧ ((x.1 = .nil ∧ ls = []) ∨ ∃ elems spare, x.1 = .slice elems spare ∧ elems.length = ls.length) := by
  have ce : Try.prog.cellsOf 40 = 2 := by kernel_rfl
  rcases Go.Deep.open_slice Try.underlying24 h with ⟨hcs, hx⟩ | ⟨a, len, cap, m, n, D, Pl, hcs, _, hl, hm, hmm, hx, hi⟩
  · injection hcs with hcs
    subst hcs hx
    exact ⟨none, 0, [], rfl, runs_nil _ _, .inl ⟨rfl, rfl⟩⟩
  · injection hcs with hcs
    subst hcs
    obtain ⟨x1, x2⟩ := x
    simp only [Prod.mk.injEq] at hx
    obtain ⟨rfl, _⟩ := hx
    rw [ce] at hi
    have hml : len ≤ m := by rw [hmm]; split <;> omega
    have hel : ∀ i, i < len → ∃ p : Run, (w.cell? (a.add (i * 2)) = some (.int .i64 p.1) ∧ w.cell? ((a.add (i * 2)).add 1) = some (.int .i64 p.2)) ∧ r64 p := by
      intro i hil
      obtain ⟨cs', hc, htr⟩ := hi i (by omega)
      obtain ⟨xs, n', hn', hy, hlen, hxl, hfl⟩ := DataW.trod_struct Try.underlying40 htr
      obtain ⟨_, hcl, hat⟩ := World.cells?_some hc
      match cs', hcl with
      | [u0, u1], _ =>
        match xs, hxl with
        | [y0, y1], _ =>
          have g0 : DataW.trod enc Try.prog w 0 sp hd n' 3 [u0] = some y0 := hfl 0 _ rfl
          have g1 : DataW.trod enc Try.prog w 0 sp hd n' 3 [u1] = some y1 := hfl 1 _ rfl
          obtain ⟨z0, e0, _, f0⟩ := DataW.trod_int Try.underlying3 g0
          obtain ⟨z1, e1, _, f1⟩ := DataW.trod_int Try.underlying3 g1
          injection e0 with e0
          injection e1 with e1
          subst e0 e1
          have k0 := hat 0 (by omega)
          have k1 := hat 1 (by omega)
          exact ⟨(z0, z1), ⟨by simpa [Addr.add] using k0, k1⟩, bounds_i64 f0, bounds_i64 f1⟩
    obtain ⟨f, hfp⟩ : ∃ f : Nat → Run, ∀ i, i < len → (w.cell? (a.add (i * 2)) = some (.int .i64 (f i).1) ∧ w.cell? ((a.add (i * 2)).add 1) = some (.int .i64 (f i).2)) ∧ r64 (f i) := by
      refine ⟨fun i => if h : i < len then Classical.choose (hel i h) else (0, 0), fun i h => ?_⟩
      simp only [dif_pos h]
      exact Classical.choose_spec (hel i h)
    clear hel
    have hll : ((List.range len).map f).length = len := by simp
    refine ⟨some a, cap, (List.range len).map f, by rw [hll], ⟨some a, cap, by rw [hll], by omega, (fun h => by cases h), fun h0 => ?_, fun p hp => ?_⟩, .inr ⟨_, _, rfl, by simp⟩⟩
    · rw [hll] at h0
      obtain ⟨⟨h1, _⟩, _⟩ := hfp 0 h0
      obtain ⟨b, off, sp'⟩ := a
      cases sp' with
      | none =>
        have hlt := World.block_lt_of_cell? w _ h1
        refine ⟨b, off, rfl, by simpa [Addr.add] using hlt, fun j q hj => ?_⟩
        obtain ⟨hj1, hj2⟩ := List.getElem?_eq_some_iff.1 hj
        rw [hll] at hj1
        have hj3 : f j = q := by simpa using hj2
        obtain ⟨⟨k0, k1⟩, _⟩ := hfp j hj1
        rw [hj3, add_plain] at k0 k1
        rw [add_plain] at k1
        exact ⟨k0, k1⟩
      | some q =>
        have h2 : w.cell? ⟨b, off, some q⟩ = some (.int .i64 (f 0).1) := by simpa [Addr.add] using h1
        rw [cell_spot] at h2
        cases h2
    · obtain ⟨i, hi2, rfl⟩ := List.mem_map.1 hp
      exact (hfp i (List.mem_range.1 hi2)).2
theorem open_puts {H : Type} {enc : TypeId × Value → H} {w : World} {r : Reach} {b0 : Nat} {hd : Bool} {v : Value} {d : DataW H} {ps : List MemPlace}
    (hval : Value.okWide Try.prog w r b0 74 v) (h : DataW.Trod enc Try.prog w 0 (fun _ => true) hd 74 v d ps) (hsz : ∀ n ∈ d.weights Try.prog 74, n ≤ reachBytes) :
    ∃ (ls : List Put), PutsM w w.heap.size v ls ∧ ls.length ≤ 140737488355328 ∧ ∀ p ∈ ls, p.b.length ≤ 140737488355328 ∧ p.rs.length ≤ 140737488355328 := by
  have hr := reachBytes_lt
  have ce : Try.prog.cellsOf 76 = 4 := by kernel_rfl
  have c3 : Try.prog.cellsOf 5 = 1 := by kernel_rfl
  have bs : Try.prog.bytesOf 76 = 64 := by kernel_rfl
  have b8 : Try.prog.bytesOf 5 = 1 := by kernel_rfl
  have b16 : Try.prog.bytesOf 40 = 16 := by kernel_rfl
  obtain ⟨a0, len, cap, rfl⟩ := okWide_slice Try.underlying74 hval
  obtain ⟨fuel, hf⟩ := h
  rcases Go.Deep.open_slice Try.underlying74 hf with ⟨hcs, hx⟩ | ⟨a, len', cap', m, n, D, Pl, hcs, _, hl, hm, hmm, hx, hi⟩
  · simp [Value.cells] at hcs
    obtain ⟨rfl, rfl, rfl⟩ := hcs
    exact ⟨[], ⟨none, 0, rfl, Nat.le_refl _, fun h => absurd h (by simp)⟩, by simp, by simp⟩
  · simp [Value.cells] at hcs
    obtain ⟨rfl, rfl, rfl⟩ := hcs
    simp only [Prod.mk.injEq] at hx
    obtain ⟨rfl, _⟩ := hx
    simp only [if_true] at hmm
    rw [ce] at hi
    have hel : ∀ i, i < len → ∃ p : Put, (∃ A c, w.cell? (a.add (i * 4)) = some (.slice A p.b.length c) ∧ BytesAt w w.heap.size (.slice A p.b.length c) p.b ∧ (A = none → c = 0)) ∧ (∃ A c, w.cell? ((a.add (i * 4)).add 1) = some (.slice A p.rs.length c) ∧ RunsM w w.heap.size (.slice A p.rs.length c) p.rs) ∧
        w.cell? ((a.add (i * 4)).add 2) = some (.int .i64 p.many) ∧ w.cell? ((a.add (i * 4)).add 3) = some (.int .i64 p.n) ∧ (-9223372036854775808 ≤ p.many ∧ p.many ≤ 9223372036854775807) ∧ (-9223372036854775808 ≤ p.n ∧ p.n ≤ 9223372036854775807) ∧ p.b.length ≤ 140737488355328 ∧ p.rs.length ≤ 140737488355328 := by
      intro i hil
      obtain ⟨cs', hc, htr⟩ := hi i (by omega)
      obtain ⟨xs, n', hn', hy, hlen, hxl, hfl⟩ := DataW.trod_struct Try.underlying76 htr
      obtain ⟨_, hcl, hat⟩ := World.cells?_some hc
      simp only [Prod.mk.injEq] at hy
      match cs', hcl with
      | [u0, u1, u2, u3], _ =>
        match xs, hxl with
        | [y0, y1, y2, y3], _ =>
          have g0 : DataW.trod enc Try.prog w 0 (fun _ => true) hd n' 48 [u0] = some y0 := hfl 0 _ rfl
          have g1 : DataW.trod enc Try.prog w 0 (fun _ => true) hd n' 24 [u1] = some y1 := hfl 1 _ rfl
          have g2 : DataW.trod enc Try.prog w 0 (fun _ => true) hd n' 3 [u2] = some y2 := hfl 2 _ rfl
          have g3 : DataW.trod enc Try.prog w 0 (fun _ => true) hd n' 3 [u3] = some y3 := hfl 3 _ rfl
          obtain ⟨z2, e2, _, f2⟩ := DataW.trod_int Try.underlying3 g2
          obtain ⟨z3, e3, _, f3⟩ := DataW.trod_int Try.underlying3 g3
          injection e2 with e2
          injection e3 with e3
          subst e2 e3
          obtain ⟨A, c, l, rfl, hby, hnil, hd0⟩ := bslice_of Try.underlying48 Try.underlying5 c3 g0
          obtain ⟨A', c', ls, rfl, hrm, hd1⟩ := runs_of g1
          have k0 := hat 0 (by omega)
          have k1 := hat 1 (by omega)
          have k2 := hat 2 (by omega)
          have k3 := hat 3 (by omega)
          have hmem : D i ∈ (List.range len).map D := List.mem_map.2 ⟨i, List.mem_range.2 hil, rfl⟩
          refine ⟨⟨l, ls, z2, z3⟩, ⟨A, c, by simpa [Addr.add] using k0, hby, hnil⟩, ⟨A', c', k1, hrm⟩, k2, k3, bounds_i64 f2, bounds_i64 f3, ?_, ?_⟩
          · rcases hd0 with ⟨_, rfl⟩ | ⟨elems, spare, hd0, hle⟩
            · simp
            · have hw : (elems.length + spare.length) * Try.prog.bytesOf 5 ∈ (D i).weights Try.prog 76 := by
                rw [hy.1]
                simp only [DataW.weights, Try.underlying76, List.map_cons, List.map_nil]
                refine DataW.weights_mem_each (j := 0) (t := 48) (d := y0.1) rfl rfl _ ?_
                rw [hd0]
                simp only [DataW.weights, Try.underlying48]
                exact List.mem_cons_self
              have h5 := hsz ((elems.length + spare.length) * Try.prog.bytesOf 5) (by
                simp only [DataW.weights, Try.underlying74]
                exact List.mem_cons_of_mem _ (List.mem_append_left _ (weightsAll_mem hmem _ hw)))
              rw [b8] at h5
              show l.length ≤ _
              omega
          · rcases hd1 with ⟨_, rfl⟩ | ⟨elems, spare, hd1, hle⟩
            · simp
            · have hw : (elems.length + spare.length) * Try.prog.bytesOf 40 ∈ (D i).weights Try.prog 76 := by
                rw [hy.1]
                simp only [DataW.weights, Try.underlying76, List.map_cons, List.map_nil]
                refine DataW.weights_mem_each (j := 1) (t := 24) (d := y1.1) rfl rfl _ ?_
                rw [hd1]
                simp only [DataW.weights, Try.underlying24]
                exact List.mem_cons_self
              have h5 := hsz ((elems.length + spare.length) * Try.prog.bytesOf 40) (by
                simp only [DataW.weights, Try.underlying74]
                exact List.mem_cons_of_mem _ (List.mem_append_left _ (weightsAll_mem hmem _ hw)))
              rw [b16] at h5
              show ls.length ≤ _
              omega
    have hlen : len ≤ 140737488355328 := by
      have h5 := hsz (((List.range len).map D).length * 64 + ((List.range (m - len)).map fun j => D (len + j)).length * 64) (by
        simp only [DataW.weights, Try.underlying74]
        rw [bs, ← Nat.add_mul]
        exact List.mem_cons_self)
      simp only [List.length_map, List.length_range] at h5
      omega
    obtain ⟨f, hfp⟩ : ∃ f : Nat → Put, ∀ i, i < len → (∃ A c, w.cell? (a.add (i * 4)) = some (.slice A (f i).b.length c) ∧ BytesAt w w.heap.size (.slice A (f i).b.length c) (f i).b ∧ (A = none → c = 0)) ∧ (∃ A c, w.cell? ((a.add (i * 4)).add 1) = some (.slice A (f i).rs.length c) ∧ RunsM w w.heap.size (.slice A (f i).rs.length c) (f i).rs) ∧
        w.cell? ((a.add (i * 4)).add 2) = some (.int .i64 (f i).many) ∧ w.cell? ((a.add (i * 4)).add 3) = some (.int .i64 (f i).n) ∧ (-9223372036854775808 ≤ (f i).many ∧ (f i).many ≤ 9223372036854775807) ∧ (-9223372036854775808 ≤ (f i).n ∧ (f i).n ≤ 9223372036854775807) ∧ (f i).b.length ≤ 140737488355328 ∧ (f i).rs.length ≤ 140737488355328 := by
      refine ⟨fun i => if h : i < len then Classical.choose (hel i h) else ⟨[], [], 0, 0⟩, fun i h => ?_⟩
      simp only [dif_pos h]
      exact Classical.choose_spec (hel i h)
    clear hel
    have hll : ((List.range len).map f).length = len := by simp
    refine ⟨(List.range len).map f, ⟨some a, cap, by rw [hll], by omega, fun h0 => ?_⟩, by omega, fun p hp => ?_⟩
    · rw [hll] at h0
      obtain ⟨⟨A, c, h1, _⟩, _⟩ := hfp 0 h0
      obtain ⟨b, off, sp⟩ := a
      cases sp with
      | none =>
        have hlt := World.block_lt_of_cell? w _ h1
        refine ⟨b, off, rfl, by simpa [Addr.add] using hlt, fun j q hj => ?_⟩
        obtain ⟨hj1, hj2⟩ := List.getElem?_eq_some_iff.1 hj
        rw [hll] at hj1
        have hj3 : f j = q := by simpa using hj2
        obtain ⟨⟨A, c, k0, k4, k5⟩, ⟨A', c', k1, k6⟩, k2, k3, i2, i3, _⟩ := hfp j hj1
        rw [hj3] at k0 k1 k2 k3 k4 k6 i2 i3
        rw [add_plain] at k0 k1 k2 k3
        rw [add_plain] at k1 k2 k3
        exact ⟨⟨A, c, k0, k4, k5⟩, ⟨A', c', k1, k6⟩, k2, k3, i2, i3⟩
      | some q =>
        have h2 : w.cell? ⟨b, off, some q⟩ = some (.slice A (f 0).b.length c) := by simpa [Addr.add] using h1
        rw [cell_spot] at h2
        cases h2
    · obtain ⟨i, hi2, rfl⟩ := List.mem_map.1 hp
      exact (hfp i (List.mem_range.1 hi2)).2.2.2.2.2.2
end Go.Proofs.Ytajeohmmobgcjaa
end
