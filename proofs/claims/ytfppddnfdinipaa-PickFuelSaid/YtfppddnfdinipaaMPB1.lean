/- Readers: what is read, and how light the rows in it are. spencelaw24: great. Rows of things of many cells: a source of an append; an append onto a row of one's own, whatever the source is; one that grows from nothing. Rows that grow in a region that draws its order, by their types: the relation of worlds. spencelaw24.among, spenceref24.has, spencekit.SameInts. package pick: the plain law: the first choice without conflict, whatever the fuel. -/
import Derived.Test.YtfppddnfdinipaaLay
import Derived.Test.YtfppddnfdinipaaPickU
import Derived.Test.YtfppddnfdinipaaGrow
import Derived.Test.YtfppddnfdinipaaFre2
import Derived.Test.YtfppddnfdinipaaBuild
import Derived.Test.YtfppddnfdinipaaPickLaw
section
namespace Go.Proofs.Ytfppddnfdinipaa
open Go Go.RowKit Go.WideShapes Go.ChangeShapes
theorem weightsAll_in {H : Type} {P : Program} {e : TypeId} : ∀ {l : List (DataW H)} {d : DataW H}, d ∈ l → ∀ n ∈ d.weights P e, n ∈ DataW.weightsAll P e l
  | [], _, h, _, _ => by cases h
  | x :: l, d, h, n, hn => by
    rw [DataW.weightsAll, List.mem_append]
    rcases List.mem_cons.1 h with rfl | h
    · exact .inl hn
    · exact .inr (weightsAll_in h n hn)
structure Lay.OpensW {α : Type} (L : Lay α) (P : Program) (M : Nat) (sm : α → Prop) : Prop where
  cells : P.cellsOf L.t = L.n
  op : ∀ {H : Type} {enc : TypeId × Value → H} {w : World} {sp : Nat → Bool} {hd : Bool} {fuel : Nat} {cs : List Value} {y : DataW H × List MemPlace}, DataW.trod enc P w 0 sp hd fuel L.t cs = some y → ∃ x, L.At w w.heap.size cs x ∧ ((∀ n ∈ y.1.weights P L.t, n ≤ M) → sm x)
structure Flds.OpensW {α : Type} (F : Flds α) (P : Program) (M : Nat) (sm : α → Prop) : Prop where
  op : ∀ {H : Type} {enc : TypeId × Value → H} {w : World} {sp : Nat → Bool} {hd : Bool} {fuel : Nat} {cs : List Value} {off : Nat}, cs.length = off + F.n → ∀ ys : List (DataW H × List MemPlace), ys.length = (F.shape off).length →
    (∀ (i : Nat) p, (F.shape off)[i]? = some p → DataW.trod enc P w 0 sp hd fuel p.1 ((cs.drop p.2).take (P.cellsOf p.1)) = ys[i]?) → ∃ x, F.At w w.heap.size (cs.drop off) x ∧ ((∀ n ∈ DataW.weightsEach P ((F.shape off).map (·.1)) (ys.map (·.1)), n ≤ M) → sm x)
theorem Lay.Opens.w {α : Type} {L : Lay α} {P : Program} (h : L.Opens P) (M : Nat) : L.OpensW P M fun _ => True where
  cells := h.cells
  op := fun hy => by
    obtain ⟨x, hx⟩ := h.op hy
    exact ⟨x, hx, fun _ => trivial⟩
theorem opensW_nil {P : Program} {M : Nat} : Flds.nil.OpensW P M fun _ => True where
  op := fun {H enc w sp hd fuel cs off} h _ _ _ => ⟨(), by
    have h : cs.length = off + 0 := h
    show cs.drop off = []
    rw [List.drop_eq_nil_iff]
    omega, fun _ => trivial⟩
theorem opensW_cons {P : Program} {M : Nat} {α β : Type} {L : Lay α} {F : Flds β} {s1 : α → Prop} {s2 : β → Prop} (hL : L.OpensW P M s1) (hF : F.OpensW P M s2) : (Flds.cons L F).OpensW P M fun x => s1 x.1 ∧ s2 x.2 where
  op := fun {H enc w sp hd fuel cs off} hl ys hys h => by
    have hl : cs.length = off + (L.n + F.n) := hl
    have hys : ys.length = (F.shape (off + L.n)).length + 1 := hys
    match ys, hys with
    | y :: ys, hys =>
      have h0 := h 0 (L.t, off) rfl
      obtain ⟨x1, h1, k1⟩ := hL.op h0
      obtain ⟨x2, h2, k2⟩ := hF.op (off := off + L.n) (cs := cs) (by omega) ys (by simpa using hys) (fun i p hp => by
        have := h (i + 1) p (by rw [← hp]; rfl)
        simpa using this)
      refine ⟨(x1, x2), ⟨_, _, ?_, h1, h2⟩, fun hw => ?_⟩
      · rw [hL.cells, ← List.drop_drop, List.take_append_drop]
      · have hw : ∀ n ∈ y.1.weights P L.t ++ DataW.weightsEach P ((F.shape (off + L.n)).map (·.1)) (ys.map (·.1)), n ≤ M := hw
        exact ⟨k1 fun n hn => hw n (List.mem_append_left _ hn), k2 fun n hn => hw n (List.mem_append_right _ hn)⟩
theorem opensW_struct {P : Program} {M : Nat} {γ β : Type} {t : TypeId} {F : Flds β} {f : γ → β} {fs : Array Field} {s : β → Prop} (mk : β → γ) (hmk : ∀ b, f (mk b) = b) (hF : F.OpensW P M s) (ht : P.underlying t = some (.struct fs)) (hc : P.cellsOf t = F.n)
    (hs : fs.toList.map (fun g => (g.type, g.offset)) = F.shape 0) : (Lay.struct t F f).OpensW P M fun x => s (f x) where
  cells := hc
  op := fun {H enc w sp hd fuel cs y} h => by
    obtain ⟨xs, n, _, hy, hl, hxl, hel⟩ := DataW.trod_struct ht h
    have hsl : (F.shape 0).length = fs.size := by rw [← hs]; simp
    obtain ⟨b, hb, hk⟩ := hF.op (H := H) (enc := enc) (w := w) (sp := sp) (hd := hd) (fuel := n) (cs := cs) (off := 0) (by omega) xs (by omega) (fun i p hp => by
      rw [← hs, List.getElem?_map] at hp
      cases e : fs.toList[i]? with
      | none => rw [e] at hp; cases hp
      | some g =>
        rw [e] at hp
        injection hp with hp
        subst hp
        exact hel i g (by simpa using e))
    refine ⟨mk b, ?_, fun hw => ?_⟩
    · show F.At w w.heap.size cs (f (mk b))
      rw [hmk]
      simpa using hb
    · rw [hmk]
      refine hk fun m hm => hw m ?_
      rw [hy]
      show m ∈ DataW.weights P t (.agg (xs.map (·.1)))
      simp only [DataW.weights, ht]
      have e : fs.toList.map (·.type) = (F.shape 0).map (·.1) := by
        rw [← hs, List.map_map]
        rfl
      rw [e]
      exact hm
theorem opensW_slice {P : Program} {M : Nat} {α : Type} {t : TypeId} {L : Lay α} {s : α → Prop} (hL : L.OpensW P M s) (hn : 0 < L.n) (ht : P.underlying t = some (.slice L.t)) (hc : P.cellsOf t = 1) : (Lay.slice t L).OpensW P M fun l => l.length * P.bytesOf L.t ≤ M ∧ ∀ x ∈ l, s x where
  cells := hc
  op := fun {H enc w sp hd fuel cs y} h => by
    rcases Go.Deep.open_slice ht h with ⟨rfl, _⟩ | ⟨a, len, cap, m, n, D, Pl, rfl, _, hl, hm, hmm, hy, hi⟩
    · exact ⟨[], ⟨none, 0, rfl, Nat.le_refl _, Nat.zero_le _, fun _ => rfl, fun h => absurd h (by simp)⟩, fun _ => ⟨by simp, fun x hx => by cases hx⟩⟩
    · rw [hL.cells] at hi
      have hml : len ≤ m := by rw [hmm]; split <;> omega
      have hw1 : (∀ k ∈ y.1.weights P t, k ≤ M) → len * P.bytesOf L.t ≤ M ∧ ∀ i, i < len → ∀ k ∈ (D i).weights P L.t, k ≤ M := by
        intro hw
        rw [hy] at hw
        simp only [DataW.weights, ht] at hw
        have h1 := hw _ (List.mem_cons_self ..)
        simp only [List.length_map, List.length_range] at h1
        refine ⟨Nat.le_trans (Nat.mul_le_mul_right _ (by omega)) h1, fun i hi k hk => hw k (List.mem_cons_of_mem _ (List.mem_append_left _ (weightsAll_in (d := D i) ?_ k hk)))⟩
        exact List.mem_map.2 ⟨i, List.mem_range.2 hi, rfl⟩
      have hel : ∀ i, i < len → ∃ (x : α) (cs : List Value), cs.length = L.n ∧ (∀ k, k < L.n → w.cell? ((a.add (i * L.n)).add k) = cs[k]?) ∧ L.At w w.heap.size cs x ∧ ((∀ k ∈ (D i).weights P L.t, k ≤ M) → s x) := by
        intro i hil
        obtain ⟨cs', hc', htr⟩ := hi i (by omega)
        obtain ⟨_, hcl, hat⟩ := World.cells?_some hc'
        obtain ⟨x, hx, hk⟩ := hL.op htr
        exact ⟨x, cs', hcl, hat, hx, hk⟩
      rcases Nat.eq_zero_or_pos len with rfl | hpos
      · exact ⟨[], ⟨some a, cap, rfl, Nat.zero_le _, hm, (fun h => by cases h), fun h => absurd h (by simp)⟩, fun _ => ⟨by simp, fun x hx => by cases hx⟩⟩
      obtain ⟨x0, _⟩ := hel 0 hpos
      obtain ⟨f, hf⟩ : ∃ f : Nat → α, ∀ i, i < len → ∃ cs : List Value, cs.length = L.n ∧ (∀ k, k < L.n → w.cell? ((a.add (i * L.n)).add k) = cs[k]?) ∧ L.At w w.heap.size cs (f i) ∧ ((∀ k ∈ (D i).weights P L.t, k ≤ M) → s (f i)) :=
        ⟨fun i => if h : i < len then Classical.choose (hel i h) else x0, fun i h => by simp only [dif_pos h]; exact Classical.choose_spec (hel i h)⟩
      clear hel
      have hll : ((List.range len).map f).length = len := by simp
      refine ⟨(List.range len).map f, ⟨some a, cap, by rw [hll], by omega, hm, (fun h => by cases h), fun _ => ?_⟩, fun hw => ⟨by rw [hll]; exact (hw1 hw).1, fun x hx => ?_⟩⟩
      · obtain ⟨c0, q0, q1, _⟩ := hf 0 hpos
        have hcell := q1 0 hn
        rw [List.getElem?_eq_getElem (by omega)] at hcell
        obtain ⟨b, off, sp'⟩ := a
        cases sp' with
        | some q =>
          have h2 : w.cell? ⟨b, off, some q⟩ = some c0[0] := by simpa [Addr.add] using hcell
          rw [cell_spot] at h2
          cases h2
        | none =>
          have h2 : w.cell? ⟨b, off, none⟩ = some c0[0] := by simpa [Addr.add] using hcell
          refine ⟨b, off, rfl, World.block_lt_of_cell? w _ h2, fun j x hj => ?_⟩
          obtain ⟨hj1, hj2⟩ := List.getElem?_eq_some_iff.1 hj
          rw [hll] at hj1
          have hj3 : f j = x := by simpa using hj2
          obtain ⟨cs, k1, k2, k3, _⟩ := hf j hj1
          rw [hj3] at k3
          refine ⟨cs, fun k v hk => ?_, k3⟩
          have hkn : k < L.n := by
            have := (List.getElem?_eq_some_iff.1 hk).1
            omega
          have := k2 k hkn
          rw [add_plain, add_plain, hk] at this
          exact this
      · obtain ⟨i, hi2, rfl⟩ := List.mem_map.1 hx
        have hil := List.mem_range.1 hi2
        obtain ⟨_, _, _, _, k4⟩ := hf i hil
        exact k4 ((hw1 hw).2 i hil)
end Go.Proofs.Ytfppddnfdinipaa
end
section
namespace Go.Proofs.Ytfppddnfdinipaa
open Go Go.RowKit Go.Maps
set_option maxRecDepth 100000
/-- no row of a case is longer than memory -/
structure LightC (c : CaseP) : Prop where
  f : c.fixed.length ≤ 140737488355328
  o : c.of.length ≤ 140737488355328
  k : c.cls.length ≤ 140737488355328
  r : c.opts.length ≤ 140737488355328
  i : ∀ os ∈ c.opts, os.length ≤ 140737488355328 ∧ ∀ x ∈ os, x.2.length ≤ 140737488355328
theorem caseLay_opensW : caseLay.OpensW Try.prog reachBytes LightC where
  cells := caseLay_opens.cells
  op := fun {H enc w sp hd fuel cs y} h => by
    have hp := fun (M : Nat) => opensW_slice (t := 24) (pathLay_opens.w M) (by decide) Try.underlying24 (by kernel_rfl)
    have ho := fun (M : Nat) => opensW_struct (t := 55) (f := fun o : Opt => (o.1, o.2, ())) (fun b => (b.1, b.2.1)) (fun _ => rfl) (opensW_cons (pathLay_opens.w M) (opensW_cons (hp M) opensW_nil)) Try.underlying55 (by kernel_rfl) (by kernel_rfl)
    have hr := fun (M : Nat) => opensW_slice (t := 26) (opensW_slice (t := 57) (ho M) (by decide) Try.underlying57 (by kernel_rfl)) (by decide) Try.underlying26 (by kernel_rfl)
    have hh := fun (M : Nat) => opensW_slice (t := 25) (hashLay_opens.w M) (by decide) Try.underlying25 (by kernel_rfl)
    have hm := fun (M : Nat) => opensW_slice (t := 27) (madeLay_opens.w M) (by decide) Try.underlying27 (by kernel_rfl)
    have hc := opensW_struct (t := 29) (f := fun c : CaseP => (c.own, c.fixed, c.cls, c.opts, c.of, ())) (fun b => ⟨b.1, b.2.1, b.2.2.1, b.2.2.2.1, b.2.2.2.2.1⟩) (fun _ => rfl) (opensW_cons (hashLay_opens.w reachBytes) (opensW_cons (hp reachBytes) (opensW_cons (hh reachBytes) (opensW_cons (hr reachBytes) (opensW_cons (hm reachBytes) opensW_nil))))) Try.underlying29 (by kernel_rfl) (by kernel_rfl)
    obtain ⟨x, hx, hk⟩ := hc.op h
    refine ⟨x, hx, fun hw => ?_⟩
    obtain ⟨_, ⟨h1, _⟩, ⟨h2, _⟩, ⟨h3, h4⟩, ⟨h5, _⟩, _⟩ := hk hw
    have e1 : Try.prog.bytesOf pathLay.t = 40 := by kernel_rfl
    have e2 : Try.prog.bytesOf hashLay.t = 20 := by kernel_rfl
    have e3 : Try.prog.bytesOf (Lay.slice 57 optLay).t = 24 := by kernel_rfl
    have e4 : Try.prog.bytesOf madeLay.t = 64 := by kernel_rfl
    have e5 : Try.prog.bytesOf optLay.t = 64 := by kernel_rfl
    have hR : reachBytes ≤ 140737488355328 := by decide
    have h1 : x.fixed.length * Try.prog.bytesOf pathLay.t ≤ reachBytes := h1
    have h2 : x.cls.length * Try.prog.bytesOf hashLay.t ≤ reachBytes := h2
    have h5 : x.of.length * Try.prog.bytesOf madeLay.t ≤ reachBytes := h5
    rw [e1] at h1
    rw [e2] at h2
    have h3 : x.opts.length * Try.prog.bytesOf (Lay.slice 57 optLay).t ≤ reachBytes := h3
    rw [e3] at h3
    rw [e4] at h5
    refine ⟨by omega, by omega, by omega, by omega, fun os hos => ?_⟩
    obtain ⟨h6, h7⟩ := h4 os hos
    have h6 : os.length * Try.prog.bytesOf optLay.t ≤ reachBytes := h6
    rw [e5] at h6
    refine ⟨by omega, fun o hoo => ?_⟩
    obtain ⟨_, ⟨h8, _⟩, _⟩ := h7 o hoo
    have h8 : o.2.length * Try.prog.bytesOf pathLay.t ≤ reachBytes := h8
    rw [e1] at h8
    omega
def rowS (os : List Opt) : Nat := (os.map fun x => 1 + x.2.length).sum
def CaseP.base (c : CaseP) : Nat := c.fixed.length + c.of.length + c.cls.length + c.opts.length
def CaseP.upto (c : CaseP) (i : Nat) : Nat := c.base + ((c.opts.take i).map rowS).sum
theorem upto_next {c : CaseP} {i : Nat} {os : List Opt} (h : c.opts[i]? = some os) : c.upto (i + 1) = c.upto i + rowS os := by
  unfold CaseP.upto
  rw [List.take_add_one, h, List.map_append, List.sum_append]
  simp
  omega
theorem upto_all (c : CaseP) : c.upto c.opts.length = c.size := by
  unfold CaseP.upto
  rw [List.take_length]
  rfl
theorem sum_take_le (f : List Opt → Nat) (l : List (List Opt)) (i : Nat) : ((l.take i).map f).sum ≤ (l.map f).sum := by
  have : (l.map f).sum = ((l.take i).map f).sum + ((l.drop i).map f).sum := by rw [← List.sum_append, ← List.map_append, List.take_append_drop]
  omega
theorem upto_le (c : CaseP) (i : Nat) : c.upto i ≤ c.size := by
  have := sum_take_le rowS c.opts i
  unfold CaseP.upto
  show c.base + _ ≤ c.base + (c.opts.map rowS).sum
  omega
theorem rowS_next {os : List Opt} {k : Nat} {x : Opt} (h : os[k]? = some x) : rowS (os.take (k + 1)) = rowS (os.take k) + (1 + x.2.length) := by
  unfold rowS
  rw [List.take_add_one, h, List.map_append, List.sum_append]
  simp
theorem rowS_le (os : List Opt) (k : Nat) : rowS (os.take k) ≤ rowS os := by
  have : rowS os = rowS (os.take k) + rowS (os.drop k) := by
    unfold rowS
    rw [← List.sum_append, ← List.map_append, List.take_append_drop]
  omega
set_option maxHeartbeats 4000000 in
theorem great_any (w : World) (v : Cvs) (c : CaseP) (hl : LightC c) (hC : CaseAt w.heap.size w v c) :
    Calls Try.prog 10 #[.agg (caseC v).toArray] w fun e w' => e = .returned (.bool (decide (120 < c.size))) ∧ Below w.heap.size w w' := by
  obtain ⟨w1, hw1⟩ : ∃ w1, w1 = w.alloc (.cells (caseC v).toArray 29) := ⟨_, rfl⟩
  have hb1 : Below w.heap.size w w1 := by rw [hw1]; exact (Below.refl _ w).alloc (Nat.le_refl _) _
  have hk1 : Blk w1 w.heap.size 29 (caseC v).toArray := by rw [hw1]; exact Blk.new _ _ _
  have hC1 : CaseAt w.heap.size w1 v c := hC.alike fun k hk => hb1.block k hk
  have ho : okH v.own := by rw [hC.own]; exact hC.okO
  obtain ⟨Ao, capo, hvo, _, _, _, hAo⟩ := slice_open hC1.atO
  obtain ⟨Ac, capc, hvc, _, _, _, _⟩ := slice_open hC1.atC
  obtain ⟨Af, capf, hvf, _, _, _, _⟩ := slice_open hC1.atF
  obtain ⟨Am, capm, hvm, _, _, _, _⟩ := slice_open hC1.atM
  have hcells := case_cells ho hk1
  rw [hvo, hvc, hvf, hvm] at hcells
  obtain ⟨c20, c21, c22, c23⟩ := hcells
  have H1 := hide (And.intro hb1 (And.intro hAo (And.intro hl.i c20)))
  have HW := hide hw1
  have l1 : (c.fixed.length : Int) ≤ 140737488355328 := by have := hl.f; omega
  have l2 : (c.of.length : Int) ≤ 140737488355328 := by have := hl.o; omega
  have l3 : (c.cls.length : Int) ≤ 140737488355328 := by have := hl.k; omega
  have l4 : (c.opts.length : Int) ≤ 140737488355328 := by have := hl.r; omega
  clear hb1 hk1 hC1 hC hvo hvc hvf hvm hAo hl c20 hw1
  have hbase : (c.fixed.length : Int) + (c.of.length : Int) + (c.cls.length : Int) + (c.opts.length : Int) = (c.base : Int) := by unfold CaseP.base; omega
  have HB := hide hbase
  clear hbase
  go_enter Try.func10, Try.ntmps10
  go_wp2_with (first | (refine wpList_value (o := ⟨some 7, _, _, _, _, _⟩) rfl (.slice Af c.fixed.length capf) w1 (by rw [← HW.out]; exact exec_load_cell (o := ⟨some 7, _, _, _, _, _⟩) 24 (.tmp 6) rfl ⟨w.heap.size, 20, none⟩ rfl _ _ w1 Try.underlying24 rfl H1.out.2.2.2) ?_))
  go_loopw [3, 4] (fun n x wr => ∃ (i n' : Nat), i ≤ c.opts.length ∧ x = .int .i64 ((i : Nat) : Int) ∧ n = .int .i64 ((n' : Nat) : Int) ∧ wr = w1 ∧ n' ≤ c.upto i ∧ (n' ≤ 120 → n' = c.upto i) ∧ n' ≤ 1000000000000000) (fun _ x _ => c.opts.length - (intOf x).toNat)
  case atStart => exact ⟨0, c.base, by omega, rfl, by rw [HB.out], rfl, by unfold CaseP.upto; simp, fun _ => by unfold CaseP.upto; simp, by have := HB.out; omega⟩
  case round =>
    obtain ⟨i, n, hi, rfl, rfl, rfl, hn1, hn2, hn3⟩ := hrel
    have i0 : (0 : Int) ≤ (i : Int) := by omega
    have n9 : (n : Int) ≤ 1000000000000000 := by omega
    by_cases hi2 : i < c.opts.length
    · have i1 : (i : Int) < (c.opts.length : Int) := by omega
      by_cases hn : n ≤ 120
      · have hni : (n : Int) ≤ 120 := by omega
        obtain ⟨os, hos⟩ : ∃ os, c.opts[i]? = some os := ⟨_, List.getElem?_eq_getElem hi2⟩
        obtain ⟨bo, offo, rfl, hlo, hEo⟩ := H1.out.2.1 (by omega)
        obtain ⟨cs1, hr1, hat1⟩ := hEo i os hos
        obtain ⟨vr, rfl, hat1⟩ := rowLay_at hat1
        obtain ⟨Ar, capr, rfl, _, _, _, hAr⟩ := slice_open hat1
        have hr4 : wr.cell? ⟨bo, offo + i, none⟩ = some (.slice Ar os.length capr) := by
          have h9 : wr.cell? ⟨bo, offo + i * 1 + 0, none⟩ = some (.slice Ar os.length capr) := hr1 0 _ rfl
          rwa [Nat.mul_one, Nat.add_zero] at h9
        obtain ⟨os9, hx9⟩ := H1.out.2.2.1 os (List.mem_of_getElem? hos)
        have os9 : (os.length : Int) ≤ 140737488355328 := by omega
        have H2 := hide (And.intro hos (And.intro hAr (And.intro hx9 (And.intro hn2 hn1))))
        clear hos hAr hx9 hEo hr1 hat1 hn1 hn2
        go_wp2_with fail
        go_loopw [3, 5] (fun m x w2 => ∃ (k m' : Nat), k ≤ os.length ∧ x = .int .i64 ((k : Nat) : Int) ∧ m = .int .i64 ((m' : Nat) : Int) ∧ w2 = wr ∧ m' ≤ c.upto i + rowS (os.take k) ∧ (m' ≤ 120 → m' = c.upto i + rowS (os.take k)) ∧ m' ≤ 1000000000000000) (fun _ x _ => os.length - (intOf x).toNat)
        case atStart => exact ⟨0, n, by omega, rfl, rfl, rfl, by have := H2.out.2.2.2.2; omega, fun h => by have := H2.out.2.2.2.1 h; rw [List.take_zero]; exact this, by omega⟩
        case round =>
          obtain ⟨k, m, hk, rfl, rfl, rfl, hm1, hm2, hm3⟩ := hrel
          have k0 : (0 : Int) ≤ (k : Int) := by omega
          have m9 : (m : Int) ≤ 1000000000000000 := by omega
          by_cases hk2 : k < os.length
          · have k1 : (k : Int) < (os.length : Int) := by omega
            by_cases hm : m ≤ 120
            · have hmi : (m : Int) ≤ 120 := by omega
              obtain ⟨x, hx⟩ : ∃ x, os[k]? = some x := ⟨_, List.getElem?_eq_getElem hk2⟩
              obtain ⟨br, offr, rfl, hlr, hEr⟩ := H2.out.2.1 (by omega)
              obtain ⟨cs2, hr2, hat2⟩ := hEr k x hx
              obtain ⟨vx, rfl, hpx, hvx⟩ := optLay_at hat2
              obtain ⟨Ax, capx, rfl, _, _, _, _⟩ := slice_open hvx
              have hcx : wr.cell? ⟨br, offr + k * 22 + 21, none⟩ = some (.slice Ax x.2.length capx) := hr2 21 _ (by simp [pC_len hpx])
              have hx9 := H2.out.2.2.1 x (List.mem_of_getElem? hx)
              have x9 : (x.2.length : Int) ≤ 140737488355328 := by omega
              have H3 := hide (And.intro hx (And.intro hm2 hm1))
              clear hx hEr hr2 hat2 hvx hm1 hm2
              go_wp2_with (first | (refine wpList_value (o := ⟨some 54, _, _, _, _, _⟩) rfl (.pointer (some ⟨br, offr + (k : Int).toNat * 22, none⟩)) wr (exec_index_off (o := ⟨some 54, _, _, _, _, _⟩) 57 55 (.tmp 52) (.tmp 53) rfl br offr os.length capr (k : Int) .i64 rfl rfl ⟨k0, k1⟩ 22 Try.underlying57 sz_opt wr) ?_; rw [show offr + (k : Int).toNat * 22 = offr + k * 22 by omega]))
              go_roundw
              case rel =>
                refine ⟨k + 1, m + (1 + x.2.length), by omega, by go_num, by congr 1; omega, trivial, ?_, fun _ => ?_, by omega⟩
                · rw [rowS_next H3.out.1]; have := H3.out.2.2; omega
                · rw [rowS_next H3.out.1]; have := H3.out.2.1 hm; omega
              case measure => simp [intOf]; omega
            · have hmi : ¬ (m : Int) ≤ 120 := by omega
              have H3 := hide hm1
              clear hm1 hm2
              go_wp2_with fail
              go_roundw
              case rel => exact ⟨i + 1, m, by omega, by go_num, rfl, trivial, by rw [upto_next H2.out.1]; have := rowS_le os k; have := H3.out; omega, fun h => absurd h hm, hm3⟩
              case measure => simp [intOf]; omega
          · obtain rfl : k = os.length := by omega
            rw [List.take_length, ← upto_next H2.out.1] at hm1 hm2
            have H3 := hide (And.intro hm1 hm2)
            clear hm1 hm2
            go_wp2_with fail
            go_roundw
            case rel => exact ⟨i + 1, m, by omega, by go_num, rfl, trivial, H3.out.1, H3.out.2, hm3⟩
            case measure => simp [intOf]; omega
      · have hni : ¬ (n : Int) ≤ 120 := by omega
        have hd : decide (120 < c.size) = true := decide_eq_true (by have := upto_le c i; omega)
        have HD := hide hd
        clear hd
        go_wp2_with fail
        go_ret
        rw [HD.out]
        exact ⟨rfl, H1.out.1⟩
    · obtain rfl : i = c.opts.length := by omega
      rw [upto_all] at hn1 hn2
      have hd : decide (120 < c.size) = decide (120 < (n : Int)) := by
        by_cases h : n ≤ 120
        · rw [← hn2 h, decide_eq_false (by omega), decide_eq_false (by omega)]
        · rw [decide_eq_true (by omega), decide_eq_true (by omega)]
      have HD := hide hd
      clear hd hn1 hn2
      go_wp2_with fail
      go_ret
      refine ⟨?_, H1.out.1⟩
      rw [HD.out]
      rfl
end Go.Proofs.Ytfppddnfdinipaa
end
section
namespace Go.Proofs.Ytfppddnfdinipaa
open Go Go.RowKit
/-- a source of m things of n cells -/
structure SrcN (w : World) (n : Nat) (A : Option Addr) (m c : Nat) (news : List Value) : Prop where
  len : news.length = m * n
  none_ : A = none → m = 0 ∧ c = 0
  one : ∀ u ∈ news, u.oneCell' = true
  cells : ∀ ad, A = some ad → ∀ j u, news[j]? = some u → w.cell? (ad.add j) = some u
theorem SrcN.below {w w' : World} {n m c : Nat} {A : Option Addr} {news : List Value} (h : SrcN w n A m c news) (hb : Below w.heap.size w w') : SrcN w' n A m c news :=
  ⟨h.len, h.none_, h.one, fun ad had j u hu => by
    have h1 := h.cells ad had j u hu
    rw [World.cell?_of_block (w' := w') (hb.block _ (World.block_lt_of_cell? w _ h1))]
    exact h1⟩
section
variable {P : Program} {w : World} {ops : Array Oper} {rest : List Oper} {o : Oper} {a : Act} {Q : Exit → Act → World → Prop}
theorem run_appS (base : Nat) (t ty e : TypeId) (i : TypeInfo) (z : Value) (size bytes : Nat) (ht : P.underlying t = some (.slice e)) (hi : P.info? e = some i) (hz : i.zero = some z)
    (hsize : i.size = size) (hby : i.bytes = bytes) (hzs : z.cells.size = size) (hsz : 0 < size) (v : Value) (n : Nat) (xs : List Value) (hown : w.ownsRow base e size v n xs)
    (A : Option Addr) (m c : Nat) (news : List Value) (hs : SrcN w size A m c news) (h63 : n + m ≤ maxLen) (hbytes : (n + m) * bytes ≤ 140737488355328) (hbase : base ≤ w.heap.size) :
    ∃ v' w', (Builtin.append_ #[t, t] ty #[v, .slice A m c]).run P w = .ok v' w' ∧ w'.ownsRow base e size v' (n + m) (xs ++ news) ∧ w.grownBy w' v.ownBlock ∧
      (v'.ownBlock = v.ownBlock ∨ v'.ownBlock = some w.heap.size) ∧ (v' = .slice none 0 0 → v = .slice none 0 0) := by
  rcases A with _ | ad
  · obtain ⟨rfl, rfl⟩ := hs.none_ rfl
    have hn : news = [] := List.eq_nil_of_length_eq_zero (by rw [hs.len]; omega)
    subst hn
    exact ⟨v, w, run_append_owned_none (P := P) (w := w) base t ty e i size ht hi v n xs hown, by simpa using hown, World.grownBy.refl w _, .inl rfl, id⟩
  · obtain ⟨v', w', h1, h2, h3, h4, h5⟩ := run_append_own_at (P := P) w base t ty e i z size bytes ht hi hz hsize hby hzs hsz v n xs hown ad m c news hs.len (hs.cells ad rfl) hs.one h63 hbytes hbase
    exact ⟨v', w', h1, h2, h3, h5, fun h => (h4.1 h).1⟩
theorem wpList_appS (hgd : o.guard = none) (s x : Operand) (t : TypeId)
    (ho : o.op = .call { callee := .builtin .append, args := #[s, x], argTypes := #[t, t] })
    (base : Nat) (e : TypeId) (i : TypeInfo) (z : Value) (size bytes : Nat) (ht : P.underlying t = some (.slice e)) (hi : P.info? e = some i) (hz : i.zero = some z)
    (hsize : i.size = size) (hby : i.bytes = bytes) (hzs : z.cells.size = size) (hsz : 0 < size) (v : Value) (n : Nat) (xs : List Value) (hown : w.ownsRow base e size v n xs)
    (A : Option Addr) (m c : Nat) (news : List Value) (hsrc : SrcN w size A m c news) (h63 : n + m ≤ maxLen) (hbytes : (n + m) * bytes ≤ 140737488355328) (hbase : base ≤ w.heap.size)
    (hs : a.eval s = v) (hx : a.eval x = .slice A m c)
    (h : ∀ v' w', w'.ownsRow base e size v' (n + m) (xs ++ news) → w.grownBy w' v.ownBlock → (v'.ownBlock = v.ownBlock ∨ v'.ownBlock = some w.heap.size) → wpList P ops Q rest (a.put o.dst v') w') :
    wpList P ops Q (o :: rest) a w := by
  refine wpList_plain hgd fun K hK => ?_
  obtain ⟨v', w', hr, h2, h3, h4, _⟩ := run_appS (P := P) (w := w) base t o.type e i z size bytes ht hi hz hsize hby hzs hsz v n xs hown A m c news hsrc h63 hbytes hbase
  unfold Oper.wp execOp
  simp only [ho, resolve, invoke, builtin, Sem.run_bind, Sem.run_pure, Result.andThen_ok, List.map_toArray, List.map_cons, List.map_nil, hs, hx, hr]
  exact hK _ _ (h v' w' h2 h3 h4)
end
/-- what is made apart from some own block stays below -/
theorem Below.grownOwn {w0 w w' : World} {v : Value} {base n s : Nat} {e : TypeId} {xs : List Value} (h : Below w0.heap.size w0 w) (hown : w.ownsRow base e s v n xs) (hb : w0.heap.size ≤ base) (hg : w.grownBy w' v.ownBlock) : Below w0.heap.size w0 w' :=
  h.grown hg h.size fun _ hk => Nat.le_trans hb (owned_ltN hown hk).1
section
variable {α : Type} {f : α → List Value} {n : Nat}
theorem flatC_length : ∀ (l : List α), (∀ x ∈ l, (f x).length = n) → (l.flatMap f).length = l.length * n
  | [], _ => by simp
  | x :: l, h => by
    rw [List.flatMap_cons, List.length_append, h x (by simp), flatC_length l fun y hy => h y (by simp [hy]), List.length_cons, Nat.add_mul]
    omega
theorem flatC_get (h0 : 0 < n) : ∀ (l : List α), (∀ x ∈ l, (f x).length = n) → ∀ (j : Nat) (u : Value), (l.flatMap f)[j]? = some u → ∃ x, l[j / n]? = some x ∧ (f x)[j % n]? = some u
  | [], _, j, u, hu => by simp at hu
  | x :: l, h, j, u, hu => by
    have hx := h x (by simp)
    rw [List.flatMap_cons, List.getElem?_append] at hu
    by_cases hj : j < n
    · rw [if_pos (by omega)] at hu
      rw [Nat.div_eq_of_lt hj, Nat.mod_eq_of_lt hj]
      exact ⟨x, rfl, hu⟩
    · rw [if_neg (by omega), hx] at hu
      obtain ⟨y, h1, h2⟩ := flatC_get h0 l (fun y hy => h y (by simp [hy])) (j - n) u hu
      have e1 : j / n = (j - n) / n + 1 := by
        rw [show j = (j - n) + n by omega, Nat.add_div_right _ h0]
        simp
      have e2 : j % n = (j - n) % n := by
        rw [Nat.mod_eq_sub_mod (by omega)]
      exact ⟨y, by rw [e1, List.getElem?_cons_succ]; exact h1, by rw [e2]; exact h2⟩
theorem flatC_at (h0 : 0 < n) : ∀ (l : List α), (∀ x ∈ l, (f x).length = n) → ∀ (k : Nat) (x : α), l[k]? = some x → ∀ j u, (f x)[j]? = some u → (l.flatMap f)[k * n + j]? = some u
  | [], _, k, x, hk, _, _, _ => by simp at hk
  | y :: l, h, k, x, hk, j, u, hu => by
    have hy := h y (by simp)
    rw [List.flatMap_cons]
    cases k with
    | zero =>
      simp only [List.getElem?_cons_zero, Option.some.injEq] at hk
      subst hk
      rw [Nat.zero_mul, Nat.zero_add, List.getElem?_append_left (List.getElem?_eq_some_iff.1 hu).1]
      exact hu
    | succ k =>
      rw [List.getElem?_cons_succ] at hk
      have := flatC_at h0 l (fun y hy => h y (by simp [hy])) k x hk j u hu
      rw [List.getElem?_append_right (by rw [hy, Nat.add_mul]; omega), hy, show (k + 1) * n + j - n = k * n + j by rw [Nat.add_mul]; omega]
      exact this
theorem flatC_one (h : ∀ x : α, ∀ u ∈ f x, u.oneCell' = true) (l : List α) : ∀ u ∈ l.flatMap f, u.oneCell' = true := by
  intro u hu
  obtain ⟨x, _, hx⟩ := List.mem_flatMap.1 hu
  exact h x u hx
/-- a row that is read is a source -/
theorem slice_src {t : TypeId} {L : Lay α} (h0 : 0 < L.n) (hf : ∀ {w B cs x}, L.At w B cs x → cs = f x) (h1 : ∀ x : α, ∀ u ∈ f x, u.oneCell' = true) {w : World} {B len cap : Nat} {A : Option Addr} {l : List α} (h : (Lay.slice t L).At w B [.slice A len cap] l) : len = l.length ∧ SrcN w L.n A l.length cap (l.flatMap f) := by
  obtain ⟨A', cap', e, h2, h3, h4, h5⟩ := h
  simp only [List.cons.injEq, Value.slice.injEq, and_true] at e
  obtain ⟨rfl, rfl, rfl⟩ := e
  have hlen : ∀ x ∈ l, (f x).length = L.n := fun x hx => by
    obtain ⟨i, hi⟩ := List.getElem?_of_mem hx
    obtain ⟨b, off, _, _, hE⟩ := h5 (by have := (List.getElem?_eq_some_iff.1 hi).1; omega)
    obtain ⟨cs, _, h6⟩ := hE i x hi
    rw [← hf h6]
    exact L.len h6
  refine ⟨rfl, flatC_length l hlen, fun hA => by have := h4 hA; omega, flatC_one h1 l, fun ad had j u hu => ?_⟩
  obtain ⟨x, h6, h7⟩ := flatC_get h0 l hlen j u hu
  obtain ⟨b, off, e, hb, hE⟩ := h5 (Nat.lt_of_le_of_lt (Nat.zero_le _) (List.getElem?_eq_some_iff.1 h6).1)
  rw [e] at had
  injection had with had
  subst had
  obtain ⟨cs, h8, h9⟩ := hE _ x h6
  rw [hf h9] at h8
  have := h8 _ u h7
  rw [Addr.add_mid]
  rw [Nat.add_assoc, show j / L.n * L.n + j % L.n = j by rw [Nat.mul_comm]; exact Nat.div_add_mod j L.n] at this
  exact this
/-- one thing in a box is a source -/
theorem box_src {w : World} {g : Nat} {t : TypeId} {cs : List Value} (hb : Blk w g t cs.toArray) (h1 : ∀ u ∈ cs, u.oneCell' = true) : SrcN w cs.length (some ⟨g, 0, none⟩) 1 1 cs :=
  ⟨by omega, (fun h => by cases h), h1, fun ad had j u hu => by
    injection had with had
    subst had
    rw [Addr.add_mid, Nat.zero_add, hb.cell]
    simpa using hu⟩
/-- a row of one's own, of things whose cells are known, is read -/
theorem own_slice {t e : TypeId} {L : Lay α} (h0 : 0 < L.n) {w : World} {R : Nat} {v : Value} {l : List α} (hown : w.ownsRow R e L.n v l.length (l.flatMap f)) (B : Nat) (hB : w.heap.size ≤ B) (hat : ∀ x ∈ l, L.At w B (f x) x) : (Lay.slice t L).At w B [v] l := by
  have hlen : ∀ x ∈ l, (f x).length = L.n := fun x hx => L.len (hat x hx)
  rcases owned_formN hown with ⟨rfl, hl, _⟩ | ⟨g, cap, cur, rfl, hbg, hnc, hcm, hg, hcs, htake, _⟩
  · obtain rfl := List.eq_nil_of_length_eq_zero hl
    exact ⟨none, 0, rfl, Nat.le_refl _, Nat.zero_le _, (fun _ => rfl), fun h => absurd h (by simp)⟩
  · refine ⟨_, cap, rfl, hnc, hcm, (fun h => by cases h), fun _ => ⟨g, 0, rfl, by have := hg.lt; omega, fun j x hj => ⟨f x, fun i u hu => ?_, hat x (List.mem_of_getElem? hj)⟩⟩⟩
    have h2 := flatC_at h0 l hlen j x hj i u hu
    rw [hg.cell, ← Array.getElem?_toList, Nat.zero_add]
    rw [← htake] at h2
    have hlt : j * L.n + i < l.length * L.n := by
      have := (List.getElem?_eq_some_iff.1 h2).1
      rw [List.length_take] at this
      omega
    rwa [List.getElem?_take_of_lt hlt] at h2
end
end Go.Proofs.Ytfppddnfdinipaa
end
section
namespace Go.Proofs.Ytfppddnfdinipaa
open Go Go.RowKit
/-- all stays, but that cells of rows behind B, of a type, may become those that are told for it -/
structure GrowF (B : Nat) (N : TypeId → Nat) (F : TypeId → List Value) (w w' : World) : Prop where
  os : w'.os = w.os
  tape : w'.tape = w.tape
  output : w'.output = w.output
  size : w.heap.size ≤ w'.heap.size
  block : ∀ k, k < w.heap.size → w'.heap[k]? = w.heap[k]? ∨ (B ≤ k ∧ ∃ cs cs' e, w.heap[k]? = some (.cells cs e (0, 0)) ∧ w'.heap[k]? = some (.cells cs' e (0, 0)) ∧ cs'.size = cs.size ∧ ∀ j, j < cs.size → cs'[j]? = cs[j]? ∨ (N e ≤ j ∧ j < (F e).length ∧ cs'[j]? = (F e)[j]?))
variable {B : Nat} {N : TypeId → Nat} {F : TypeId → List Value}
theorem GrowF.of_below {w w' : World} (h : Below w.heap.size w w') : GrowF B N F w w' := ⟨h.os, h.tape, h.output, h.size, fun k hk => .inl (h.block k hk)⟩
instance : Fre.RelOk (GrowF B N F) where
  refl w := .of_below (Below.refl _ w)
  drew w := .of_below ((Below.refl _ w).drew)
  trans a b c h1 h2 := by
    refine ⟨h2.os.trans h1.os, h2.tape.trans h1.tape, h2.output.trans h1.output, Nat.le_trans h1.size h2.size, fun k hk => ?_⟩
    rcases h1.block k hk with e1 | ⟨hB, cs, cs', e, q1, q2, q3, q4⟩
    · rcases h2.block k (Nat.lt_of_lt_of_le hk h1.size) with e2 | ⟨hB, cs, cs', e, q1, q2, q3, q4⟩
      · exact .inl (e2.trans e1)
      · exact .inr ⟨hB, cs, cs', e, e1.symm.trans q1, q2, q3, q4⟩
    · rcases h2.block k (Nat.lt_of_lt_of_le hk h1.size) with e2 | ⟨_, ds, ds', e', r1, r2, r3, r4⟩
      · exact .inr ⟨hB, cs, cs', e, q1, e2.trans q2, q3, q4⟩
      · rw [q2] at r1
        injection r1 with r1
        injection r1 with r1 r1'
        subst r1 r1'
        refine .inr ⟨hB, cs, ds', e, q1, r2, r3.trans q3, fun j hj => ?_⟩
        rcases r4 j (by omega) with e2 | e2
        · rcases q4 j hj with e1 | e1
          · exact .inl (e2.trans e1)
          · exact .inr ⟨e1.1, e1.2.1, e2.trans e1.2.2⟩
        · exact .inr e2
theorem GrowF.below {w w' : World} (h : GrowF B N F w w') (hB : B ≤ w.heap.size) : Below B w w' :=
  ⟨h.os, h.tape, h.output, h.size, fun k hk => (h.block k (by omega)).elim id fun h => absurd h.1 (by omega)⟩
/-- a block whose cells are those that are told -/
theorem GrowF.blk2 {w w' : World} (h : GrowF B N F w w') {k : Nat} {t : TypeId} {cs : Array Value} (hb : Blk w k t cs) (hF : ∀ j, j < cs.size → N t ≤ j → j < (F t).length → cs[j]? = (F t)[j]?) : Blk w' k t cs := by
  rcases h.block k hb.lt with e | ⟨_, ds, ds', e, q1, q2, q3, q4⟩
  · exact e.trans hb
  · have hb' : w.heap[k]? = some (.cells cs t (0, 0)) := hb
    rw [hb'] at q1
    injection q1 with q1
    injection q1 with q1 q1'
    subst q1 q1'
    have : ds' = cs := by
      apply Array.ext_getElem?
      intro j
      by_cases hj : j < cs.size
      · rcases q4 j hj with e | ⟨e1, e2, e3⟩
        · exact e
        · rw [e3, hF j hj e1 e2]
      · rw [Array.getElem?_eq_none (by omega), Array.getElem?_eq_none (by omega)]
    subst this
    exact q2
/-- a block of a type that does not grow -/
theorem GrowF.blk {w w' : World} (h : GrowF B N F w w') {k : Nat} {t : TypeId} {cs : Array Value} (hb : Blk w k t cs) (hF : F t = []) : Blk w' k t cs :=
  h.blk2 hb fun j _ _ h => by rw [hF] at h; simp at h
/-- a row that is a beginning of what its type's rows become -/
theorem GrowF.own {w w' : World} (h : GrowF B N F w w') {u : Value} {n z base : Nat} {ty : TypeId} {xs : List Value} (ho : w.ownsRow base ty z u n xs) (hx : xs <+: F ty) : w'.ownsRow base ty z u n xs := by
  obtain ⟨hl, ho⟩ := ho
  rcases ho with ⟨rfl, rfl⟩ | ⟨g, cap, cur, rfl, hg, hb, hn, hm, hs, ht⟩
  · exact ⟨hl, .inl ⟨rfl, rfl⟩⟩
  · have hlt : g < w.heap.size := (Array.getElem?_eq_some_iff.1 hb).1
    rcases h.block g hlt with e | ⟨_, cs, cs', e, q1, q2, q3, q4⟩
    · exact ⟨hl, .inr ⟨g, cap, cur, rfl, hg, e.trans hb, hn, hm, hs, ht⟩⟩
    · rw [hb] at q1
      injection q1 with q1
      injection q1 with q1 q1'
      subst q1 q1'
      refine ⟨hl, .inr ⟨g, cap, cs', rfl, hg, q2, hn, hm, by rw [q3]; exact hs, ?_⟩⟩
      rw [← ht]
      apply List.ext_getElem?
      intro j
      by_cases hj : j < n * z
      · have hjc : j < cur.size := by
          have h2 := congrArg List.length ht
          rw [List.length_take, hl] at h2
          simp at h2
          omega
        rw [List.getElem?_take_of_lt hj, List.getElem?_take_of_lt hj, Array.getElem?_toList, Array.getElem?_toList]
        rcases q4 j hjc with e | ⟨_, e1, e2⟩
        · exact e
        · obtain ⟨ys, hys⟩ := hx
          rw [e2, ← hys, List.getElem?_append_left (by omega), ← ht, List.getElem?_take_of_lt hj, Array.getElem?_toList]
      · rw [List.getElem?_eq_none (by rw [List.length_take]; omega), List.getElem?_eq_none (by rw [List.length_take]; omega)]
theorem GrowF.range {w w' : World} (h : GrowF B N F w w') {b o : Nat} {cs : List Value} (hr : w.rangeAt b o cs) (hb : b < B) (hB : B ≤ w.heap.size) : w'.rangeAt b o cs := fun j v hv => by
  have h1 := hr j v hv
  rw [World.cell?_of_block (w' := w') ((h.below hB).block b hb)]
  exact h1
/-- an append that makes a row grow -/
theorem GrowF.app {P : Program} {w : World} (t ty e : TypeId) (i : TypeInfo) (z : Value) (size bytes : Nat) (ht : P.underlying t = some (.slice e)) (hi : P.info? e = some i) (hz : i.zero = some z)
    (hsize : i.size = size) (hby : i.bytes = bytes) (hzs : z.cells.size = size) (hsz : 0 < size) (v : Value) (n : Nat) (xs : List Value) (hown : w.ownsRow B e size v n xs)
    (A : Option Addr) (m c : Nat) (news : List Value) (hs : SrcN w size A m c news) (h63 : n + m ≤ maxLen) (hbytes : (n + m) * bytes ≤ 140737488355328) (hbase : B ≤ w.heap.size) (hF : xs ++ news <+: F e) (hN : N e ≤ xs.length) :
    ∃ v' w', (Builtin.append_ #[t, t] ty #[v, .slice A m c]).run P w = .ok v' w' ∧ GrowF B N F w w' ∧ w'.ownsRow B e size v' (n + m) (xs ++ news) ∧ (v'.ownBlock = v.ownBlock ∨ v'.ownBlock = some w.heap.size) := by
  obtain ⟨v', w', hr, h2, h3, h4, _⟩ := run_appS (P := P) (w := w) B t ty e i z size bytes ht hi hz hsize hby hzs hsz v n xs hown A m c news hs h63 hbytes hbase
  refine ⟨v', w', hr, ?_, h2, h4⟩
  have hbel : (∀ k, v.ownBlock = some k → k < w.heap.size → w'.heap[k]? = w.heap[k]?) → GrowF B N F w w' := fun hk => ⟨h3.os, h3.tape, h3.output, h3.size, fun k hkl => .inl (by
    by_cases hkv : v.ownBlock = some k
    · exact hk k hkv hkl
    · exact h3.block k hkl fun e => hkv e.symm)⟩
  rcases owned_formN hown with ⟨rfl, rfl, rfl⟩ | ⟨g, cap, cur, rfl, hbg, hnc, hcm, hg, hcs, htake, _⟩
  · exact hbel fun k hk => by cases hk
  · rcases A with _ | ad
    · obtain ⟨rfl, rfl⟩ := hs.none_ rfl
      have h := run_append_owned_none (P := P) (w := w) B t ty e i size ht hi _ n xs hown
      rw [hr] at h
      injection h with k4 k5
      subst k5
      exact hbel fun k _ _ => rfl
    · by_cases hroom : n + m ≤ cap
      · have hcap : (n + m) * size ≤ cap * size := Nat.mul_le_mul_right _ hroom
        have hms : (n + m) * size = n * size + m * size := Nat.add_mul ..
        have hxl : xs.length = n * size := hown.1
        have hnl : news.length = m * size := hs.len
        have h := run_append_room (P := P) w t ty e i ht hi g n cap cur hg ad m c news (by rw [hsize]; exact hs.len) (hs.cells ad rfl) hs.one hroom (by rw [hs.len, hsize, hcs]; omega)
        rw [hr] at h
        injection h with k4 k5
        rw [hsize, hnl] at k5
        refine ⟨h3.os, h3.tape, h3.output, h3.size, fun k hkl => ?_⟩
        by_cases hkg : k = g
        · subst hkg
          refine .inr ⟨hbg, cur, (cur.toList.take (n * size) ++ news ++ cur.toList.drop (n * size + m * size)).toArray, e, hg, ?_, ?_, ?_⟩
          · have hg' : w.heap[k]? = some (.cells cur e (0, 0)) := hg
            rw [k5]
            unfold World.setRow
            show (w.heap.modify k _)[k]? = _
            rw [Array.getElem?_modify, if_pos rfl, hg']
            rfl
          · have : cur.toList.length = cur.size := by simp
            simp only [List.size_toArray, List.length_append, List.length_take, List.length_drop]
            omega
          · intro j hj
            have hcl : cur.toList.length = cur.size := by simp
            rw [List.getElem?_toArray]
            by_cases h1 : j < n * size
            · left
              rw [List.append_assoc, List.getElem?_append_left (by rw [List.length_take]; omega), List.getElem?_take_of_lt h1, Array.getElem?_toList]
            · by_cases h2' : j < n * size + m * size
              · right
                obtain ⟨ys, hys⟩ := hF
                refine ⟨by omega, by rw [← hys, List.length_append, List.length_append]; omega, ?_⟩
                rw [← hys, htake]
                rw [List.getElem?_append_left (l₁ := xs ++ news) (by rw [List.length_append]; omega), List.getElem?_append_left (l₁ := xs ++ news) (by rw [List.length_append]; omega)]
              · left
                rw [List.getElem?_append_right (by rw [List.length_append, List.length_take]; omega), List.length_append, List.length_take, List.getElem?_drop, ← Array.getElem?_toList]
                congr 1
                omega
        · exact .inl (h3.block k hkl (fun e => hkg (Option.some.inj e)))
      · have holds : ∀ j u, xs[j]? = some u → w.cell? ((⟨g, 0, none⟩ : Addr).add j) = some u := by
          intro j u hu
          rw [Addr.add_mid, Nat.zero_add, hg.cell, ← Array.getElem?_toList]
          rw [← htake] at hu
          have hj : j < n * size := by
            have := (List.getElem?_eq_some_iff.1 hu).1
            rw [List.length_take] at this
            omega
          rwa [List.getElem?_take_of_lt hj] at hu
        have h := run_append_grow (P := P) w t ty e i z ht hi hz ⟨g, 0, none⟩ n cap xs (by rw [hsize]; exact hown.1) holds ad m c news (by rw [hsize]; exact hs.len) (hs.cells ad rfl) (by omega) (by simp only [maxLen] at h63; omega) (growslice_fits (by omega) (by rw [hby]; exact hbytes))
        rw [hr] at h
        injection h with k4 k5
        subst k5
        exact .of_below (((Below.refl _ _).drew).alloc (Nat.le_refl _) _)
theorem GrowF.src {w w' : World} (h : GrowF B N F w w') {n m c : Nat} {A : Option Addr} {news : List Value} (hs : SrcN w n A m c news) (hA : ∀ ad, A = some ad → ad.block < B) (hB : B ≤ w.heap.size) : SrcN w' n A m c news :=
  ⟨hs.len, hs.none_, hs.one, fun ad had j u hu => by
    have h1 := hs.cells ad had j u hu
    have h2 : (ad.add j).block = ad.block := by cases ad; simp [Addr.add]; split <;> rfl
    rw [World.cell?_of_block (w' := w') ((h.below hB).block _ (by rw [h2]; exact hA ad had))]
    exact h1⟩
end Go.Proofs.Ytfppddnfdinipaa
end
section
namespace Go.Proofs.Ytfppddnfdinipaa
open Go Go.RowKit Go.Maps
set_option maxRecDepth 100000
theorem hasK_next {ps : List Pth} {k : Nat} {q p : Pth} (h : ps[k]? = some q) : hasK (ps.take (k + 1)) p = (hasK (ps.take k) p || decide (q = p)) := by
  unfold hasK
  rw [List.take_add_one, h, List.any_append]
  simp
set_option maxHeartbeats 1000000 in
theorem among_any (ps : List Pth) (hl : ps.length ≤ 1000000) (p : Pth) (hp : okP p) (v : Value) (w : World) (hv : pathsLay.At w w.heap.size [v] ps) :
    Calls Try.prog 58 #[v, .agg (pC p).toArray] w fun e w' => e = .returned (.bool (hasK ps p)) ∧ Below w.heap.size w w' := by
  obtain ⟨A, cap, rfl, _, _, _, hA⟩ := slice_open hv
  clear hv
  obtain ⟨w1, hw1⟩ : ∃ w1, w1 = w.alloc (.cells (pC p).toArray 53) := ⟨_, rfl⟩
  have hb1 : Below w.heap.size w w1 := by rw [hw1]; exact (Below.refl _ w).alloc (Nat.le_refl _) _
  have hk1 : Blk w1 w.heap.size 53 (pC p).toArray := by rw [hw1]; exact Blk.new _ _ _
  have H1 := hide (And.intro hb1 (And.intro hk1 hA))
  clear hb1 hk1 hA
  go_enter Try.func58, Try.ntmps58
  go_wp2_with fail
  rw [← hw1]
  clear hw1
  go_loopw [5] (fun x wr => ∃ k, k ≤ ps.length ∧ x = .int .i64 ((k : Nat) : Int) ∧ Below w1.heap.size w1 wr ∧ hasK (ps.take k) p = false) (fun x _ => ps.length - (intOf x).toNat)
  case atStart => exact ⟨0, by omega, rfl, Below.refl _ _, rfl⟩
  case round =>
    obtain ⟨k, hk, rfl, hbw, hno⟩ := hrel
    have k0 : (0 : Int) ≤ (k : Int) := by omega
    have k9 : (ps.length : Int) ≤ 1000000 := by omega
    by_cases hk2 : k < ps.length
    · have k1 : (k : Int) < (ps.length : Int) := by omega
      obtain ⟨q, hq⟩ : ∃ q, ps[k]? = some q := ⟨_, List.getElem?_eq_getElem hk2⟩
      obtain ⟨b, off, rfl, hlb, hE⟩ := H1.out.2.2 (by omega)
      obtain ⟨cs, hr, hat⟩ := hE k q hq
      obtain ⟨rfl, hqo⟩ := pathLay_at.1 hat
      have hr1 : wr.rangeAt b (off + k * 21) (pC q) := rangeAt_same hr ((hbw.block b (by have := H1.out.1.size; omega)).trans (H1.out.1.block b hlb))
      have hbl : b < wr.heap.size := by have := H1.out.1.size; have := hbw.size; omega
      have hnx := hasK_next (p := p) hq
      rw [hno, Bool.false_or] at hnx
      have H2 := hide (And.intro hr1 (And.intro hbl (And.intro hqo (And.intro (And.intro hnx (And.intro hq hbw)) (H1.out.2.1.below hbw H1.out.2.1.lt)))))
      clear hr1 hbl hnx hq hbw hno hr hat hE
      go_wp2_with fail
      refine Fre.wp_made (X := Blw) 5 [] (by kernel_rfl) (by kernel_rfl) (by simp) (by simp) (by simp) ?_
      simp only [List.take_succ_cons, List.take_zero, List.drop_succ_cons, List.drop_zero]
      refine Fre.made_val (.slice (some ⟨b, off, none⟩) ps.length cap) (by kernel_rfl) (by kernel_rfl) (by kernel_rfl) (fun _ _ => by kernel_rfl) ?_
      simp only [Act.put, List.setIfInBounds_toArray, List.set_cons_zero, List.set_cons_succ]
      refine Fre.made_val (.int .i64 (k : Int)) (by kernel_rfl) (by kernel_rfl) (by kernel_rfl) (fun _ _ => by kernel_rfl) ?_
      simp only [Act.put, List.setIfInBounds_toArray, List.set_cons_zero, List.set_cons_succ]
      refine Fre.made_val (.pointer (some ⟨b, off + (k : Int).toNat * 21, none⟩)) (by kernel_rfl) (by kernel_rfl) (by kernel_rfl) (fun W9 _ => exec_index_off (o := ⟨some 14, _, _, _, _, _⟩) 24 53 (.tmp 12) (.tmp 13) rfl b off ps.length cap (k : Int) .i64 rfl rfl ⟨k0, k1⟩ 21 Try.underlying24 sz_path W9) ?_
      simp only [Act.put, List.setIfInBounds_toArray, List.set_cons_zero, List.set_cons_succ]
      rw [show off + (k : Int).toNat * 21 = off + k * 21 by omega]
      refine Fre.made_val (.agg (pC q).toArray) (by kernel_rfl) (by kernel_rfl) (by kernel_rfl) (fun W9 hW9 => exec_load_mid (o := ⟨some 15, _, _, _, _, _⟩) 53 (.tmp 14) rfl b (off + k * 21) rfl (pC q) _ W9 (rangeAt_same H2.out.1 ((blw hW9).block b H2.out.2.1)) Try.underlying53 rfl (by have := psz H2.out.2.2.1; simpa using this)) ?_
      simp only [Act.put, List.setIfInBounds_toArray, List.set_cons_zero, List.set_cons_succ]
      refine Fre.made_val (.agg (pC p).toArray) (by kernel_rfl) (by kernel_rfl) (by kernel_rfl) (fun W9 hW9 => exec_load_blk (o := ⟨some 16, _, _, _, _, _⟩) 53 (.tmp 3) rfl w.heap.size rfl 53 _ _ W9 ((H2.out.2.2.2.2.below (blw hW9) H2.out.2.2.2.2.lt)) Try.underlying53 rfl (psz hp)) ?_
      simp only [Act.put, List.setIfInBounds_toArray, List.set_cons_zero, List.set_cons_succ]
      show ∀ w', _ → _
      intro w3 hb3
      simp only [Fre.ended]
      have H3 := hide (show Below wr.heap.size wr w3 from hb3)
      clear hb3
      by_cases hqp : q = p
      · have hd : decide (q = p) = true := by simp [hqp]
        go_wp2_with ((refine wpList_value (o := ⟨some 17, _, _, _, _, _⟩) rfl (.bool true) w3 (exec_binop_agg (o := ⟨some 17, _, _, _, _, _⟩) .eql 53 (.tmp 15) (.tmp 16) _ rfl (pC q).toArray (pC p).toArray rfl rfl (by kernel_rfl) _ (fun W => by have := bin_eq_path q p H2.out.2.2.1 hp W; rw [hd] at this; exact this) w3) ?_))
        go_ret
        have e : hasK ps p = true := hasK_mem.2 (by rw [← hqp]; exact List.mem_of_getElem? H2.out.2.2.2.1.2.1)
        rw [e]
        exact ⟨rfl, H1.out.1.trans (Below.mono (H2.out.2.2.2.1.2.2.trans (Below.mono H3.out H2.out.2.2.2.1.2.2.size)) H1.out.1.size)⟩
      · have hd : decide (q = p) = false := by simp [hqp]
        go_wp2_with ((refine wpList_value (o := ⟨some 17, _, _, _, _, _⟩) rfl (.bool false) w3 (exec_binop_agg (o := ⟨some 17, _, _, _, _, _⟩) .eql 53 (.tmp 15) (.tmp 16) _ rfl (pC q).toArray (pC p).toArray rfl rfl (by kernel_rfl) _ (fun W => by have := bin_eq_path q p H2.out.2.2.1 hp W; rw [hd] at this; exact this) w3) ?_))
        go_roundw
        case rel => exact ⟨k + 1, by omega, by go_num, H2.out.2.2.2.1.2.2.trans (Below.mono H3.out H2.out.2.2.2.1.2.2.size), by rw [H2.out.2.2.2.1.1, hd]⟩
        case measure => simp [intOf]; omega
    · obtain rfl : k = ps.length := by omega
      rw [List.take_length] at hno
      have H2 := hide (And.intro hno hbw)
      clear hno hbw
      go_wp2_with fail
      go_ret
      rw [H2.out.1]
      exact ⟨rfl, H1.out.1.trans (Below.mono H2.out.2 H1.out.1.size)⟩
set_option maxHeartbeats 1000000 in
theorem has_any (ps : List Pth) (hl : ps.length ≤ 1000000) (p : Pth) (hp : okP p) (v : Value) (w : World) (hv : pathsLay.At w w.heap.size [v] ps) :
    Calls Try.prog 96 #[v, .agg (pC p).toArray] w fun e w' => e = .returned (.bool (hasK ps p)) ∧ Below w.heap.size w w' := by
  obtain ⟨A, cap, rfl, _, _, _, hA⟩ := slice_open hv
  clear hv
  obtain ⟨w1, hw1⟩ : ∃ w1, w1 = w.alloc (.cells (pC p).toArray 53) := ⟨_, rfl⟩
  have hb1 : Below w.heap.size w w1 := by rw [hw1]; exact (Below.refl _ w).alloc (Nat.le_refl _) _
  have hk1 : Blk w1 w.heap.size 53 (pC p).toArray := by rw [hw1]; exact Blk.new _ _ _
  have H1 := hide (And.intro hb1 (And.intro hk1 hA))
  clear hb1 hk1 hA
  go_enter Try.func96, Try.ntmps96
  go_wp2_with fail
  rw [← hw1]
  clear hw1
  go_loopw [5] (fun x wr => ∃ k, k ≤ ps.length ∧ x = .int .i64 ((k : Nat) : Int) ∧ Below w1.heap.size w1 wr ∧ hasK (ps.take k) p = false) (fun x _ => ps.length - (intOf x).toNat)
  case atStart => exact ⟨0, by omega, rfl, Below.refl _ _, rfl⟩
  case round =>
    obtain ⟨k, hk, rfl, hbw, hno⟩ := hrel
    have k0 : (0 : Int) ≤ (k : Int) := by omega
    have k9 : (ps.length : Int) ≤ 1000000 := by omega
    by_cases hk2 : k < ps.length
    · have k1 : (k : Int) < (ps.length : Int) := by omega
      obtain ⟨q, hq⟩ : ∃ q, ps[k]? = some q := ⟨_, List.getElem?_eq_getElem hk2⟩
      obtain ⟨b, off, rfl, hlb, hE⟩ := H1.out.2.2 (by omega)
      obtain ⟨cs, hr, hat⟩ := hE k q hq
      obtain ⟨rfl, hqo⟩ := pathLay_at.1 hat
      have hr1 : wr.rangeAt b (off + k * 21) (pC q) := rangeAt_same hr ((hbw.block b (by have := H1.out.1.size; omega)).trans (H1.out.1.block b hlb))
      have hbl : b < wr.heap.size := by have := H1.out.1.size; have := hbw.size; omega
      have hnx := hasK_next (p := p) hq
      rw [hno, Bool.false_or] at hnx
      have H2 := hide (And.intro hr1 (And.intro hbl (And.intro hqo (And.intro (And.intro hnx (And.intro hq hbw)) (H1.out.2.1.below hbw H1.out.2.1.lt)))))
      clear hr1 hbl hnx hq hbw hno hr hat hE
      go_wp2_with fail
      refine Fre.wp_made (X := Blw) 5 [] (by kernel_rfl) (by kernel_rfl) (by simp) (by simp) (by simp) ?_
      simp only [List.take_succ_cons, List.take_zero, List.drop_succ_cons, List.drop_zero]
      refine Fre.made_val (.slice (some ⟨b, off, none⟩) ps.length cap) (by kernel_rfl) (by kernel_rfl) (by kernel_rfl) (fun _ _ => by kernel_rfl) ?_
      simp only [Act.put, List.setIfInBounds_toArray, List.set_cons_zero, List.set_cons_succ]
      refine Fre.made_val (.int .i64 (k : Int)) (by kernel_rfl) (by kernel_rfl) (by kernel_rfl) (fun _ _ => by kernel_rfl) ?_
      simp only [Act.put, List.setIfInBounds_toArray, List.set_cons_zero, List.set_cons_succ]
      refine Fre.made_val (.pointer (some ⟨b, off + (k : Int).toNat * 21, none⟩)) (by kernel_rfl) (by kernel_rfl) (by kernel_rfl) (fun W9 _ => exec_index_off (o := ⟨some 14, _, _, _, _, _⟩) 24 53 (.tmp 12) (.tmp 13) rfl b off ps.length cap (k : Int) .i64 rfl rfl ⟨k0, k1⟩ 21 Try.underlying24 sz_path W9) ?_
      simp only [Act.put, List.setIfInBounds_toArray, List.set_cons_zero, List.set_cons_succ]
      rw [show off + (k : Int).toNat * 21 = off + k * 21 by omega]
      refine Fre.made_val (.agg (pC q).toArray) (by kernel_rfl) (by kernel_rfl) (by kernel_rfl) (fun W9 hW9 => exec_load_mid (o := ⟨some 15, _, _, _, _, _⟩) 53 (.tmp 14) rfl b (off + k * 21) rfl (pC q) _ W9 (rangeAt_same H2.out.1 ((blw hW9).block b H2.out.2.1)) Try.underlying53 rfl (by have := psz H2.out.2.2.1; simpa using this)) ?_
      simp only [Act.put, List.setIfInBounds_toArray, List.set_cons_zero, List.set_cons_succ]
      refine Fre.made_val (.agg (pC p).toArray) (by kernel_rfl) (by kernel_rfl) (by kernel_rfl) (fun W9 hW9 => exec_load_blk (o := ⟨some 16, _, _, _, _, _⟩) 53 (.tmp 3) rfl w.heap.size rfl 53 _ _ W9 ((H2.out.2.2.2.2.below (blw hW9) H2.out.2.2.2.2.lt)) Try.underlying53 rfl (psz hp)) ?_
      simp only [Act.put, List.setIfInBounds_toArray, List.set_cons_zero, List.set_cons_succ]
      show ∀ w', _ → _
      intro w3 hb3
      simp only [Fre.ended]
      have H3 := hide (show Below wr.heap.size wr w3 from hb3)
      clear hb3
      by_cases hqp : q = p
      · have hd : decide (q = p) = true := by simp [hqp]
        go_wp2_with ((refine wpList_value (o := ⟨some 17, _, _, _, _, _⟩) rfl (.bool true) w3 (exec_binop_agg (o := ⟨some 17, _, _, _, _, _⟩) .eql 53 (.tmp 15) (.tmp 16) _ rfl (pC q).toArray (pC p).toArray rfl rfl (by kernel_rfl) _ (fun W => by have := bin_eq_path q p H2.out.2.2.1 hp W; rw [hd] at this; exact this) w3) ?_))
        go_ret
        have e : hasK ps p = true := hasK_mem.2 (by rw [← hqp]; exact List.mem_of_getElem? H2.out.2.2.2.1.2.1)
        rw [e]
        exact ⟨rfl, H1.out.1.trans (Below.mono (H2.out.2.2.2.1.2.2.trans (Below.mono H3.out H2.out.2.2.2.1.2.2.size)) H1.out.1.size)⟩
      · have hd : decide (q = p) = false := by simp [hqp]
        go_wp2_with ((refine wpList_value (o := ⟨some 17, _, _, _, _, _⟩) rfl (.bool false) w3 (exec_binop_agg (o := ⟨some 17, _, _, _, _, _⟩) .eql 53 (.tmp 15) (.tmp 16) _ rfl (pC q).toArray (pC p).toArray rfl rfl (by kernel_rfl) _ (fun W => by have := bin_eq_path q p H2.out.2.2.1 hp W; rw [hd] at this; exact this) w3) ?_))
        go_roundw
        case rel => exact ⟨k + 1, by omega, by go_num, H2.out.2.2.2.1.2.2.trans (Below.mono H3.out H2.out.2.2.2.1.2.2.size), by rw [H2.out.2.2.2.1.1, hd]⟩
        case measure => simp [intOf]; omega
    · obtain rfl : k = ps.length := by omega
      rw [List.take_length] at hno
      have H2 := hide (And.intro hno hbw)
      clear hno hbw
      go_wp2_with fail
      go_ret
      rw [H2.out.1]
      exact ⟨rfl, H1.out.1.trans (Below.mono H2.out.2 H1.out.1.size)⟩
set_option maxHeartbeats 1000000 in
theorem sameInts_any (xs ys : List Int) (hl : xs.length ≤ 1000000) (hl2 : ys.length ≤ 1000000) (v1 v2 : Value) (w : World) (h1 : IntsAt w w.heap.size v1 xs) (h2 : IntsAt w w.heap.size v2 ys) :
    Calls Try.prog 16 #[v1, v2] w fun e w' => e = .returned (.bool (decide (xs = ys))) ∧ Below w.heap.size w w' := by
  obtain ⟨A1, c1, rfl, hA1⟩ := h1
  obtain ⟨A2, c2, rfl, hA2⟩ := h2
  have x9 : (xs.length : Int) ≤ 1000000 := by omega
  have y9 : (ys.length : Int) ≤ 1000000 := by omega
  by_cases hne : xs.length = ys.length
  · rw [← hne]
    have H1 := hide (And.intro hA1 (And.intro hA2 hne))
    clear hA1 hA2 hne y9
    go_enter Try.func16, Try.ntmps16
    go_wp2_with fail
    go_loopw [5] (fun x wr => ∃ k, k ≤ xs.length ∧ x = .int .i64 ((k : Nat) : Int) ∧ Below w.heap.size w wr ∧ xs.take k = ys.take k) (fun x _ => xs.length - (intOf x).toNat)
    case atStart => exact ⟨0, by omega, rfl, Below.refl _ _, rfl⟩
    case round =>
      obtain ⟨k, hk, rfl, hbw, he⟩ := hrel
      have k0 : (0 : Int) ≤ (k : Int) := by omega
      by_cases hk2 : k < xs.length
      · have k1 : (k : Int) < (xs.length : Int) := by omega
        obtain ⟨x, hx⟩ : ∃ x, xs[k]? = some x := ⟨_, List.getElem?_eq_getElem hk2⟩
        obtain ⟨y, hy⟩ : ∃ y, ys[k]? = some y := ⟨_, List.getElem?_eq_getElem (by have := H1.out.2.2; omega)⟩
        obtain ⟨b1, o1, rfl, hb1, hc1⟩ := H1.out.1 k x hx
        obtain ⟨b2, o2, rfl, hb2, hc2⟩ := H1.out.2.1 k y hy
        rw [← World.cell?_of_block (w' := wr) (hbw.block b1 hb1)] at hc1
        rw [← World.cell?_of_block (w' := wr) (hbw.block b2 hb2)] at hc2
        have H2 := hide (And.intro hc1 (And.intro hc2 (And.intro hx (And.intro hy (And.intro hbw he)))))
        clear hc1 hc2 hx hy hbw he
        go_wp2_with fail
        refine Fre.wp_made (X := Blw) 8 [] (by kernel_rfl) (by kernel_rfl) (by simp) (by simp) (by simp) ?_
        simp only [List.take_succ_cons, List.take_zero, List.drop_succ_cons, List.drop_zero]
        refine Fre.made_val (.slice (some ⟨b1, o1, none⟩) xs.length c1) (by kernel_rfl) (by kernel_rfl) (by kernel_rfl) (fun _ _ => by kernel_rfl) ?_
        simp only [Act.put, List.setIfInBounds_toArray, List.set_cons_zero, List.set_cons_succ]
        refine Fre.made_val (.int .i64 (k : Int)) (by kernel_rfl) (by kernel_rfl) (by kernel_rfl) (fun _ _ => by kernel_rfl) ?_
        simp only [Act.put, List.setIfInBounds_toArray, List.set_cons_zero, List.set_cons_succ]
        refine Fre.made_val (.pointer (some ⟨b1, o1 + (k : Int).toNat * 1, none⟩)) (by kernel_rfl) (by kernel_rfl) (by kernel_rfl) (fun W9 _ => exec_index_off (o := ⟨some 19, _, _, _, _, _⟩) 33 3 (.tmp 17) (.tmp 18) rfl b1 o1 xs.length c1 (k : Int) .i64 rfl rfl ⟨k0, k1⟩ 1 Try.underlying33 (by kernel_rfl) W9) ?_
        simp only [Act.put, List.setIfInBounds_toArray, List.set_cons_zero, List.set_cons_succ]
        rw [show o1 + (k : Int).toNat * 1 = o1 + k by omega]
        refine Fre.made_val (.int .i64 x) (by kernel_rfl) (by kernel_rfl) (by kernel_rfl) (fun W9 hW9 => exec_load_cell (o := ⟨some 20, _, _, _, _, _⟩) 3 (.tmp 19) rfl ⟨b1, o1 + k, none⟩ rfl _ _ W9 Try.underlying3 rfl (by rw [World.cell?_of_block ((blw hW9).block b1 (World.block_lt_of_cell? wr _ H2.out.1))]; exact H2.out.1)) ?_
        simp only [Act.put, List.setIfInBounds_toArray, List.set_cons_zero, List.set_cons_succ]
        refine Fre.made_val (.slice (some ⟨b2, o2, none⟩) xs.length c2) (by kernel_rfl) (by kernel_rfl) (by kernel_rfl) (fun _ _ => by kernel_rfl) ?_
        simp only [Act.put, List.setIfInBounds_toArray, List.set_cons_zero, List.set_cons_succ]
        refine Fre.made_val (.int .i64 (k : Int)) (by kernel_rfl) (by kernel_rfl) (by kernel_rfl) (fun _ _ => by kernel_rfl) ?_
        simp only [Act.put, List.setIfInBounds_toArray, List.set_cons_zero, List.set_cons_succ]
        refine Fre.made_val (.pointer (some ⟨b2, o2 + (k : Int).toNat * 1, none⟩)) (by kernel_rfl) (by kernel_rfl) (by kernel_rfl) (fun W9 _ => exec_index_off (o := ⟨some 23, _, _, _, _, _⟩) 33 3 (.tmp 21) (.tmp 22) rfl b2 o2 xs.length c2 (k : Int) .i64 rfl rfl ⟨k0, k1⟩ 1 Try.underlying33 (by kernel_rfl) W9) ?_
        simp only [Act.put, List.setIfInBounds_toArray, List.set_cons_zero, List.set_cons_succ]
        rw [show o2 + (k : Int).toNat * 1 = o2 + k by omega]
        refine Fre.made_val (.int .i64 y) (by kernel_rfl) (by kernel_rfl) (by kernel_rfl) (fun W9 hW9 => exec_load_cell (o := ⟨some 24, _, _, _, _, _⟩) 3 (.tmp 23) rfl ⟨b2, o2 + k, none⟩ rfl _ _ W9 Try.underlying3 rfl (by rw [World.cell?_of_block ((blw hW9).block b2 (World.block_lt_of_cell? wr _ H2.out.2.1))]; exact H2.out.2.1)) ?_
        simp only [Act.put, List.setIfInBounds_toArray, List.set_cons_zero, List.set_cons_succ]
        show ∀ w', _ → _
        intro w3 hb3
        simp only [Fre.ended]
        have H3 := hide (show Below wr.heap.size wr w3 from hb3)
        clear hb3
        by_cases hxy : x = y
        · subst hxy
          go_wp2_with fail
          go_roundw
          case rel =>
            refine ⟨k + 1, by omega, by go_num, H2.out.2.2.2.2.1.trans (Below.mono H3.out H2.out.2.2.2.2.1.size), ?_⟩
            rw [List.take_add_one, List.take_add_one, H2.out.2.2.2.2.2, H2.out.2.2.1, H2.out.2.2.2.1]
          case measure => simp [intOf]; omega
        · go_wp2_with fail
          go_ret
          have e : decide (xs = ys) = false := decide_eq_false fun e => hxy (by
            have h1 := H2.out.2.2.1
            have h2 := H2.out.2.2.2.1
            rw [e, h2] at h1
            injection h1 with h1
            exact h1.symm)
          rw [e]
          exact ⟨rfl, H2.out.2.2.2.2.1.trans (Below.mono H3.out H2.out.2.2.2.2.1.size)⟩
      · obtain rfl : k = xs.length := by omega
        have hxy : xs = ys := by
          have := he
          rw [List.take_length, H1.out.2.2, List.take_length] at this
          exact this
        have H2 := hide (And.intro hbw hxy)
        clear hbw he hxy
        go_wp2_with fail
        go_ret
        exact ⟨by rw [decide_eq_true H2.out.2]; rfl, H2.out.1⟩
  · have hni : ¬ (xs.length : Int) = (ys.length : Int) := by omega
    go_enter Try.func16, Try.ntmps16
    go_wp2_with fail
    go_ret
    have e : decide (xs = ys) = false := decide_eq_false fun e => hne (by rw [e])
    rw [e]
    exact ⟨rfl, Below.refl _ _⟩
end Go.Proofs.Ytfppddnfdinipaa
end
section
namespace Go.Proofs.Ytfppddnfdinipaa
open Go Go.RowKit Go.Maps
/-- all choices of rows, in order -/
def rowC (rest : List (List Nat)) : Nat → List Opt → List (List Nat)
  | _, [] => []
  | k, _ :: xs => rest.map (k :: ·) ++ rowC rest (k + 1) xs
def allC : List (List Opt) → List (List Nat)
  | [] => [[]]
  | os :: r => rowC (allC r) 0 os
def nodes : List (List Opt) → Nat
  | [] => 0
  | os :: r => os.length * (1 + nodes r)
/-- is a choice clean behind what is there? -/
def clean1 (own : Hsh) (rows : List (Hsh × List Opt)) (ps : List Pth) (of : List Mde) (l : List Nat) : Bool := cleanB own (foldT rows l ps of).1 (foldT rows l ps of).2
theorem cleanB_mono {own : Hsh} {ps ps' : List Pth} {of of' : List Mde} (h : cleanB own ps of = false) (hp : ∀ p ∈ ps, p ∈ ps') (ho : ∀ m ∈ of, m ∈ of') : cleanB own ps' of' = false := by
  obtain ⟨m, hm, h1, h2⟩ := cleanB_iff.1 h
  refine cleanB_iff.2 ⟨m, ho m hm, hp _ h1, h2.imp id ?_⟩
  rintro ⟨k, hk, e1, e2, e3⟩
  exact ⟨k, ho k hk, e1, e2, hp _ e3⟩
theorem foldT_sub : ∀ (rows : List (Hsh × List Opt)) (l : List Nat) (ps : List Pth) (of : List Mde), (∀ p ∈ ps, p ∈ (foldT rows l ps of).1) ∧ ∀ m ∈ of, m ∈ (foldT rows l ps of).2
  | [], l, ps, of => by unfold foldT; exact ⟨fun _ h => h, fun _ h => h⟩
  | (h, os) :: rows, [], ps, of => by unfold foldT; exact ⟨fun _ h => h, fun _ h => h⟩
  | (h, os) :: rows, k :: l, ps, of => by
    unfold foldT
    cases e : os[k]? with
    | none => exact ⟨fun _ h => h, fun _ h => h⟩
    | some x =>
      obtain ⟨h1, h2⟩ := foldT_sub rows l (ps ++ x.1 :: x.2) (of ++ [(h, x.1)])
      exact ⟨fun p hp => h1 p (List.mem_append_left _ hp), fun m hm => h2 m (List.mem_append_left _ hm)⟩
theorem clean1_cons {own : Hsh} {h : Hsh} {os : List Opt} {rows : List (Hsh × List Opt)} {ps : List Pth} {of : List Mde} {k : Nat} {x : Opt} (hx : os[k]? = some x) (l : List Nat) : clean1 own ((h, os) :: rows) ps of (k :: l) = clean1 own rows (ps ++ x.1 :: x.2) (of ++ [(h, x.1)]) l := by
  unfold clean1
  conv => lhs; unfold foldT
  rw [hx]
theorem clean1_not {own : Hsh} {rows : List (Hsh × List Opt)} {ps : List Pth} {of : List Mde} (h : cleanB own ps of = false) (l : List Nat) : clean1 own rows ps of l = false := cleanB_mono h (foldT_sub rows l ps of).1 (foldT_sub rows l ps of).2
/-- what the search tells -/
structure Best (own : Hsh) (fuel : Int) (p : List Nat → Bool) (all : List (List Nat)) (cnt : Nat) (n : Int) (r : Res × Int) : Prop where
  le : n ≤ r.2
  ge : r.2 ≤ n + cnt
  fuel_ : r.1 = .fuel → fuel ≤ r.2
  ok : ∀ l, r.1 = .ok l → all.find? p = some l
  no : r.1 = .conflict → all.find? p = none
theorem find_none {α : Type} {p : α → Bool} : ∀ {l : List α}, (∀ x ∈ l, p x = false) → l.find? p = none
  | [], _ => rfl
  | x :: l, h => by
    rw [List.find?_cons, h x (by simp)]
    exact find_none fun y hy => h y (by simp [hy])
theorem best_from {own : Hsh} {fuel : Int} : ∀ (rows : List (Hsh × List Opt)) (ps : List Pth) (of : List Mde) (n : Int), cleanB own ps of = true →
    Best own fuel (clean1 own rows ps of) (allC (rows.map (·.2))) (nodes (rows.map (·.2))) n (fromB own fuel rows ps of n)
  | [], ps, of, n, hc => by
    refine ⟨Int.le_refl _, by show n ≤ n + ((0 : Nat) : Int); omega, (fun h => by cases h), fun l hl => ?_, (fun h => by cases h)⟩
    have hl : Res.ok [] = .ok l := hl
    injection hl with hl
    subst hl
    have : clean1 own [] ps of [] = true := hc
    show [([] : List Nat)].find? (clean1 own [] ps of) = some []
    rw [List.find?_cons, this]
  | (h, os) :: rows, ps, of, n, hc => by
    have ih := fun ps of n hc => best_from (own := own) (fuel := fuel) rows ps of n hc
    have key : ∀ (xs : List Opt) (k : Nat) (n : Int), os.drop k = xs → Best own fuel (clean1 own ((h, os) :: rows) ps of) (rowC (allC (rows.map (·.2))) k xs) (xs.length * (1 + nodes (rows.map (·.2)))) n (tryB own fuel h ps of (fromB own fuel rows) k xs n) := by
      intro xs
      induction xs with
      | nil =>
        intro k n _
        exact ⟨Int.le_refl _, by show n ≤ n + ((0 * (1 + nodes (rows.map (·.2))) : Nat) : Int); omega, (fun h => by cases h), (fun l h => by cases h), fun _ => rfl⟩
      | cons x xs ih2 =>
        intro k n hk
        have hx : os[k]? = some x := by
          have := congrArg (fun l => l[0]?) hk
          simpa using this
        have hk' : os.drop (k + 1) = xs := by
          have := congrArg (List.drop 1) hk
          rw [List.drop_drop] at this
          simpa using this
        have hlen : (x :: xs).length * (1 + nodes (rows.map (·.2))) = (1 + nodes (rows.map (·.2))) + xs.length * (1 + nodes (rows.map (·.2))) := by
          rw [List.length_cons, Nat.add_mul]
          omega
        rw [hlen]
        have hfm : ((allC (rows.map (·.2))).map (k :: ·)).find? (clean1 own ((h, os) :: rows) ps of) = ((allC (rows.map (·.2))).find? (clean1 own rows (ps ++ x.1 :: x.2) (of ++ [(h, x.1)]))).map (k :: ·) := by
          rw [List.find?_map]
          congr 1
          congr 1
          funext l
          exact clean1_cons hx l
        have hsum : ∀ r : Res × Int, Best own fuel (clean1 own rows (ps ++ x.1 :: x.2) (of ++ [(h, x.1)])) (allC (rows.map (·.2))) (1 + nodes (rows.map (·.2))) n r →
            Best own fuel (clean1 own ((h, os) :: rows) ps of) (rowC (allC (rows.map (·.2))) k (x :: xs)) ((1 + nodes (rows.map (·.2))) + xs.length * (1 + nodes (rows.map (·.2)))) n
              (match r with
                | (.conflict, m) => tryB own fuel h ps of (fromB own fuel rows) (k + 1) xs m
                | (.fuel, m) => (.fuel, m)
                | (.ok l, m) => (.ok (k :: l), m)) := by
          rintro ⟨r, m⟩ hb
          have hb1 : n ≤ m := hb.le
          have hb2 : m ≤ n + ((1 + nodes (rows.map (·.2)) : Nat) : Int) := hb.ge
          cases r with
          | ok l =>
            refine ⟨hb1, by dsimp only; omega, (fun h => by cases h), fun l' hl' => ?_, (fun h => by cases h)⟩
            have hl' : Res.ok (k :: l) = .ok l' := hl'
            injection hl' with hl'
            subst hl'
            show ((allC (rows.map (·.2))).map (k :: ·) ++ _).find? _ = _
            rw [List.find?_append, hfm, hb.ok l rfl]
            rfl
          | fuel => exact ⟨hb1, by dsimp only; omega, fun _ => hb.fuel_ rfl, (fun l h => by cases h), (fun h => by cases h)⟩
          | conflict =>
            have h2 := ih2 (k + 1) m hk'
            have hf : ∀ o, (rowC (allC (rows.map (·.2))) (k + 1) xs).find? (clean1 own ((h, os) :: rows) ps of) = o → (rowC (allC (rows.map (·.2))) k (x :: xs)).find? (clean1 own ((h, os) :: rows) ps of) = o := by
              intro o ho
              show ((allC (rows.map (·.2))).map (k :: ·) ++ _).find? _ = _
              rw [List.find?_append, hfm, hb.no rfl, ho]
              rfl
            exact ⟨Int.le_trans hb1 h2.le, by have := h2.ge; dsimp only; omega, h2.fuel_, fun l hl => hf _ (h2.ok l hl), fun hn => hf _ (h2.no hn)⟩
        unfold tryB
        refine hsum _ ?_
        split
        · rename_i hfu
          exact ⟨Int.le_refl _, by dsimp only; omega, fun _ => hfu, (fun l h => by cases h), (fun h => by cases h)⟩
        · split
          · rename_i _ hcl
            have h3 := ih _ _ (n + 1) hcl
            exact ⟨by have := h3.le; omega, by have := h3.ge; omega, h3.fuel_, h3.ok, h3.no⟩
          · rename_i _ hcl
            refine ⟨by dsimp only; omega, by dsimp only; omega, (fun h => by cases h), (fun l h => by cases h), fun _ => find_none fun l _ => clean1_not ?_ l⟩
            simpa using hcl
    exact key os 0 n rfl
/-- another fuel -/
structure Fuels (f : Int → Res × Int) (n : Int) (r : Res × Int) : Prop where
  le : n ≤ r.2
  more : ∀ g, r.2 ≤ g → f g = r
  less : ∀ g, n ≤ g → g < r.2 → f g = (.fuel, g)
theorem fuels_from {own : Hsh} {F : Int} : ∀ (rows : List (Hsh × List Opt)) (ps : List Pth) (of : List Mde) (n : Int), (fromB own F rows ps of n).1 ≠ .fuel → Fuels (fun g => fromB own g rows ps of n) n (fromB own F rows ps of n)
  | [], ps, of, n, _ => ⟨Int.le_refl _, fun _ _ => rfl, fun g h1 h2 => absurd h1 (by have h2 : g < n := h2; omega)⟩
  | (h, os) :: rows, ps, of, n, hne => by
    have ih := fun ps of n hc => fuels_from (own := own) (F := F) rows ps of n hc
    have key : ∀ (xs : List Opt) (k : Nat) (n : Int), (tryB own F h ps of (fromB own F rows) k xs n).1 ≠ .fuel → Fuels (fun g => tryB own g h ps of (fromB own g rows) k xs n) n (tryB own F h ps of (fromB own F rows) k xs n) := by
      intro xs
      induction xs with
      | nil => exact fun k n _ => ⟨Int.le_refl _, fun _ _ => rfl, fun g h1 h2 => absurd h1 (by have h2 : g < n := h2; omega)⟩
      | cons x xs ih2 =>
        intro k n hne
        have hstep : ∀ g, tryB own g h ps of (fromB own g rows) k (x :: xs) n = (match (if g ≤ n then (Res.fuel, n) else if cleanB own (ps ++ x.1 :: x.2) (of ++ [(h, x.1)]) then fromB own g rows (ps ++ x.1 :: x.2) (of ++ [(h, x.1)]) (n + 1) else (.conflict, n + 1)) with
          | (.conflict, m) => tryB own g h ps of (fromB own g rows) (k + 1) xs m
          | (.fuel, m) => (.fuel, m)
          | (.ok l, m) => (.ok (k :: l), m)) := fun g => by
          conv => lhs; unfold tryB
          rfl
        have hF : ¬ F ≤ n := fun hle => by
          rw [hstep, if_pos hle] at hne
          exact hne rfl
        -- what one option tells
        obtain ⟨one, hone⟩ : ∃ one : Int → Res × Int, one = fun g => if cleanB own (ps ++ x.1 :: x.2) (of ++ [(h, x.1)]) then fromB own g rows (ps ++ x.1 :: x.2) (of ++ [(h, x.1)]) (n + 1) else (.conflict, n + 1) := ⟨_, rfl⟩
        have hstep2 : ∀ g, ¬ g ≤ n → tryB own g h ps of (fromB own g rows) k (x :: xs) n = (match one g with
          | (.conflict, m) => tryB own g h ps of (fromB own g rows) (k + 1) xs m
          | (.fuel, m) => (.fuel, m)
          | (.ok l, m) => (.ok (k :: l), m)) := fun g hg => by rw [hstep, if_neg hg, hone]
        have hnf : (one F).1 ≠ .fuel := fun hf => by
          rw [hstep2 F hF] at hne
          cases hr : one F with
          | mk r m =>
            rw [hr] at hf hne
            have hf : r = .fuel := hf
            subst hf
            exact hne rfl
        have h1 : Fuels one (n + 1) (one F) := by
          rw [hone] at hnf ⊢
          dsimp only at hnf ⊢
          split
          · rename_i hcl
            rw [if_pos hcl] at hnf
            exact ih _ _ (n + 1) hnf
          · exact ⟨Int.le_refl _, fun _ _ => rfl, fun g h1 h2 => absurd h1 (by have h2 : g < n + 1 := h2; omega)⟩
        rw [hstep2 F hF] at hne ⊢
        have ew : ∀ g, ∀ r m, one g = (r, m) → ¬ g ≤ n → tryB own g h ps of (fromB own g rows) k (x :: xs) n = (match (r, m) with
          | (.conflict, m) => tryB own g h ps of (fromB own g rows) (k + 1) xs m
          | (.fuel, m) => (.fuel, m)
          | (.ok l, m) => (.ok (k :: l), m)) := fun g r m hg hle => by rw [hstep2 g hle, hg]
        have e0 : ∀ g, g ≤ n → n ≤ g → tryB own g h ps of (fromB own g rows) k (x :: xs) n = (.fuel, g) := fun g h1 h2 => by
          rw [hstep, if_pos h1, show n = g by omega]
        obtain ⟨⟨r, m⟩, hrm⟩ : ∃ r, one F = r := ⟨_, rfl⟩
        rw [hrm] at h1 hne hnf ⊢
        have hm : n + 1 ≤ m := h1.le
        have hless : ∀ g, n ≤ g → g < m → tryB own g h ps of (fromB own g rows) k (x :: xs) n = (.fuel, g) := fun g h2 h3 => by
          by_cases hg : g ≤ n
          · exact e0 g hg h2
          · rw [ew g _ _ (h1.less g (by omega) h3) hg]
        cases r with
        | fuel => exact absurd rfl hnf
        | ok l =>
          refine ⟨by show n ≤ m; omega, fun g hg => ?_, fun g h2 h3 => hless g h2 h3⟩
          have hg : m ≤ g := hg
          show tryB own g h ps of (fromB own g rows) k (x :: xs) n = _
          rw [ew g _ _ (h1.more g hg) (by omega)]
        | conflict =>
          have h4 := ih2 (k + 1) m hne
          have h5 := h4.le
          refine ⟨by dsimp only at h5 ⊢; omega, fun g hg => ?_, fun g h2 h3 => ?_⟩
          · show tryB own g h ps of (fromB own g rows) k (x :: xs) n = _
            dsimp only at hg h5
            rw [ew g _ _ (h1.more g (by show m ≤ g; omega)) (by omega)]
            exact h4.more g hg
          · by_cases hg : g < m
            · exact hless g h2 hg
            · show tryB own g h ps of (fromB own g rows) k (x :: xs) n = _
              rw [ew g _ _ (h1.more g (by show m ≤ g; omega)) (by omega)]
              exact h4.less g (by omega) h3
    exact key os 0 n hne
end Go.Proofs.Ytfppddnfdinipaa
end
