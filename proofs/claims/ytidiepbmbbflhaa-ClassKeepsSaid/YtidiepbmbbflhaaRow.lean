/- Rows: arguments opened as readable bytes; a law's last step. -/
import Derived.Test.YtidiepbmbbflhaaArgs
import Derived.Test.YtidiepbmbbflhaaBytes
import Derived.Carry
import Derived.SizedLaws
import Derived.ChangeSlices
import Derived.Deep.Matrix
import Derived.ChangeMaps5
namespace Go.Proofs.Ytidiepbmbbflhaa
open Go.RowKit Go.WideShapes Go.ChangeShapes
theorem laidOut : laidOutB Try.prog = true := by kernel_rfl
section
variable {H : Type} {enc : TypeId × Value → H} {P : Program}
/-- all arguments read as they did, where nothing old has turned -/
theorem trodAll_stay (hl : laidOutB P = true) {W W' : World} (hb : Below W.heap.size W W') : ∀ {ts : List TypeId} {vs : List Value} {ds : List (DataW H)} {ps : List MemPlace}, (∀ t ∈ ts, P.readableRec t = true ∧ t < P.types.size) →
    DataW.TrodAll enc P W 0 (fun _ => true) true ts vs ds ps → (∀ x ∈ ps, x.block < W.heap.size) → DataW.TrodAll enc P W' 0 (fun b => decide (b < W.heap.size)) true ts vs ds ps
  | [], vs, ds, ps, _, h, _ => by
    obtain ⟨rfl, rfl, rfl⟩ := trodAll_nil h
    rfl
  | t :: ts, vs, ds, ps, ht, h, hlt => by
    obtain ⟨v, vs', d, ds', p, q, rfl, rfl, rfl, hd, hrest⟩ := trodAll_cons h
    have h1 := Below.trod hl (ht t (by simp)).1 (ht t (by simp)).2 hd hb (fun x hx => hlt x (by simp [hx]))
    have h2 := trodAll_stay hl hb (fun s hs => ht s (by simp [hs])) hrest (fun x hx => hlt x (by simp [hx]))
    exact ⟨p, q, h1, h2, rfl⟩
/-- a law's answer: 'true', all as it was -/
theorem law_end {f : Func} {s : ChangeSpec} {fresh handsOn : Bool} {W W' : World} {args : Array Value} {ds gs : List (DataW H)} {before : List MemPlace} {tb : TypeId} (hl : laidOutB P = true)
    (hW : DataW.Whole enc P f.params.toList s.vars false W args.toList ds gs before) (hv : s.vars = []) (hfn : s.fn H (ds ++ gs) = { results := [.lit (.bool true)], args := ds }) (hr : f.resultTypes = #[tb]) (hu : P.underlying tb = some .bool)
    (hp : f.params.toList.all (fun t => P.readableRec t && decide (t < P.types.size)) = true) (hb : Below W.heap.size W W') :
    s.post enc P f false fresh handsOn false W args (.bool true) W' := by
  have hW2 := hW
  obtain ⟨p, q, hA, hV, rfl, hz, hn⟩ := hW
  rw [hv] at hV
  obtain ⟨rfl, rfl⟩ := trodVars_none hV
  have hlt : ∀ x ∈ p ++ [], x.block < W.heap.size := fun x hx => hW2.lt x hx
  rw [List.append_nil] at hlt
  refine ⟨ds, [], p ++ [], [], p, [], hW2, ?_, ?_, ?_, World.keptBut_mono (fun x hx => ⟨hx, .inr (.inl (by simpa using hx))⟩) (hb.frame (· ∈ p ++ [])), fun h => by cases h⟩
  · rw [hfn, hr]
    exact trodAll_mk1 (shut_bool hu _)
  · rw [hfn]
    refine trodAll_stay hl hb (fun t ht => ?_) hA hlt
    have h := List.all_eq_true.1 hp t ht
    simpa using h
  · rw [hv]
    exact (by rw [hfn]; rfl)
theorem add_plain (b o j : Nat) : (⟨b, o, none⟩ : Addr).add j = ⟨b, o + j, none⟩ := by
  unfold Addr.add
  split
  · rename_i h; subst h; rfl
  · rfl
theorem cell_spot (w : World) (b o m : Nat) : w.cell? ⟨b, o, some m⟩ = none := by
  unfold World.cell?
  split <;> simp_all
/-- a slice of bytes that came in -/
theorem open_bslice {t e : TypeId} {w : World} {r : Reach} {b0 : Nat} {sp : Nat → Bool} {hd : Bool} {v : Value} {d : DataW H} {ps : List MemPlace} (ht : P.underlying t = some (.slice e)) (he : P.underlying e = some (.int .u8)) (hc : P.cellsOf e = 1)
    (hval : Value.okWide P w r b0 t v) (h : DataW.Trod enc P w 0 sp hd t v d ps) :
    ∃ (A : Option Addr) (cap : Nat) (l : List UInt8), v = .slice A l.length cap ∧ BytesAt w w.heap.size v l ∧ (A = none → cap = 0) ∧ ((d = .nil ∧ l = []) ∨ ∃ elems spare, d = .slice elems spare ∧ elems.length = l.length) := by
  obtain ⟨a0, len, cap, rfl⟩ := okWide_slice ht hval
  obtain ⟨fuel, hf⟩ := h
  rcases open_ints ht he hc hf with ⟨hcs, hx⟩ | ⟨a, len', cap', zs, hcs, _, hl, hm, hz, hx, hcell, hwz⟩
  · simp [Value.cells] at hcs
    obtain ⟨rfl, rfl, rfl⟩ := hcs
    simp only [Prod.mk.injEq] at hx
    obtain ⟨rfl, rfl⟩ := hx
    exact ⟨none, 0, [], rfl, ⟨none, 0, rfl, Nat.le_refl _, fun h => absurd h (by simp)⟩, fun _ => rfl, .inl ⟨rfl, rfl⟩⟩
  · simp [Value.cells] at hcs
    obtain ⟨rfl, rfl, rfl⟩ := hcs
    simp only [Prod.mk.injEq] at hx
    obtain ⟨rfl, rfl⟩ := hx
    have hlz : len ≤ zs.length := by rw [hz]; split <;> omega
    let l : List UInt8 := (zs.take len).map fun z => UInt8.ofNat z.toNat
    have hll : l.length = len := by simp [l]; omega
    have hcl : ∀ j, j < len → w.cell? (a.add j) = some (.int .u8 ((l.getD j 0).toNat : Int)) := by
      intro j hj
      rw [hcell j (by omega)]
      have hmem : zs.getD j 0 ∈ zs := by
        rw [List.getD_eq_getElem?_getD, List.getElem?_eq_getElem (by omega)]
        exact List.getElem_mem _
      have hb := bounds_u8 (hwz _ hmem)
      have e : l.getD j 0 = UInt8.ofNat (zs.getD j 0).toNat := by
        simp only [l, List.getD_eq_getElem?_getD, List.getElem?_map, List.getElem?_take_of_lt hj]
        rw [List.getElem?_eq_getElem (by omega)]
        rfl
      rw [e, UInt8.toNat_ofNat']
      congr 2
      omega
    refine ⟨some a, cap, l, by rw [hll], ⟨some a, cap, by rw [hll], by omega, fun h0 => ?_⟩, (fun h => by cases h), .inr ⟨_, _, rfl, ?_⟩⟩
    · have h1 := hcl 0 (by omega)
      have hlt := World.block_lt_of_cell? w _ h1
      obtain ⟨b, off, m⟩ := a
      cases m with
      | none =>
        refine ⟨b, off, rfl, by simpa [Addr.add] using hlt, fun j hj => ?_⟩
        have h2 := hcl j (by omega)
        rwa [add_plain] at h2
      | some m => exact absurd (show w.cell? ⟨b, off, some m⟩ = _ from h1) (by rw [cell_spot]; simp)
    · rw [hll]
      simp [lits, hlz]
/-- a slice of slices of bytes that came in -/
theorem open_brows {t e q : TypeId} {w : World} {r : Reach} {b0 : Nat} {hd : Bool} {v : Value} {d : DataW H} {ps : List MemPlace} (ht : P.underlying t = some (.slice e)) (he : P.underlying e = some (.slice q)) (hq : P.underlying q = some (.int .u8)) (ce : P.cellsOf e = 1) (cq : P.cellsOf q = 1)
    (hval : Value.okWide P w r b0 t v) (h : DataW.Trod enc P w 0 (fun _ => true) hd t v d ps) :
    ∃ (A : Option Addr) (cap : Nat) (ls : List (List UInt8)), v = .slice A ls.length cap ∧ PartsAt w w.heap.size v ls ∧ (A = none → cap = 0) ∧ (∀ j, j < ls.length → ∀ u, (∀ ad, A = some ad → w.cell? (ad.add j) = some u) → ∃ A' c', u = .slice A' (ls.getD j []).length c' ∧ (A' = none → c' = 0) ∧ c' ≤ maxLen) ∧
      (∀ elems spare, d = .slice elems spare → elems.length = ls.length) := by
  obtain ⟨a0, len, cap, rfl⟩ := okWide_slice ht hval
  obtain ⟨fuel, hf⟩ := h
  rcases Go.Deep.open_int_rows ht he hq ce cq hf with ⟨hcs, hx⟩ | ⟨a, len', cap', A, L, C, Z, hcs, _, hl, hm, hx, hrow⟩
  · simp [Value.cells] at hcs
    obtain ⟨rfl, rfl, rfl⟩ := hcs
    simp only [Prod.mk.injEq] at hx
    obtain ⟨rfl, rfl⟩ := hx
    exact ⟨none, 0, [], rfl, ⟨none, 0, rfl, Nat.le_refl _, fun h => absurd h (by simp)⟩, (fun _ => rfl), (fun j hj => absurd hj (by simp)), (fun _ _ h => by cases h)⟩
  · simp [Value.cells] at hcs
    obtain ⟨rfl, rfl, rfl⟩ := hcs
    simp only [Prod.mk.injEq] at hx
    obtain ⟨rfl, rfl⟩ := hx
    let row : Nat → List UInt8 := fun r => ((Z r).take (L r)).map fun z => UInt8.ofNat z.toNat
    let ls : List (List UInt8) := (List.range len).map row
    have hll : ls.length = len := by simp [ls]
    have hget : ∀ j, j < len → ls.getD j [] = row j := by intro j hj; simp [ls, List.getD, hj]
    have hrl : ∀ j, j < len → (row j).length = L j := by
      intro j hj
      obtain ⟨_, h1, _, h2, _⟩ := hrow j (by omega)
      simp [row]; omega
    have plain : ∀ (ad : Addr) (n : Nat) (f : Nat → Value), 0 < n → (∀ j, j < n → w.cell? (ad.add j) = some (f j)) → ∃ b off, ad = ⟨b, off, none⟩ ∧ b < w.heap.size ∧ ∀ j, j < n → w.cell? ⟨b, off + j, none⟩ = some (f j) := by
      intro ad n f hn hc
      have h1 := hc 0 hn
      obtain ⟨b, off, m⟩ := ad
      cases m with
      | none =>
        have hlt := World.block_lt_of_cell? w _ h1
        refine ⟨b, off, rfl, by simpa [Addr.add] using hlt, fun j hj => ?_⟩
        have h2 := hc j hj
        rwa [add_plain] at h2
      | some m => exact absurd (show w.cell? ⟨b, off, some m⟩ = _ from h1) (by rw [cell_spot]; simp)
    have hbytes : ∀ j, j < len → BytesAt w w.heap.size (.slice (A j) (L j) (C j)) (row j) := by
      intro j hj
      obtain ⟨_, h1, _, h2, h3, h4, h5⟩ := hrow j (by omega)
      refine ⟨A j, C j, by rw [hrl j hj], by rw [hrl j hj]; exact h1, fun h0 => ?_⟩
      rw [hrl j hj] at h0
      cases hA : A j with
      | none => have := h4 hA; omega
      | some ad =>
        obtain ⟨_, hc⟩ := h5 ad hA
        obtain ⟨b, off, rfl, hb, hcell⟩ := plain ad (L j) (fun c => .int .u8 ((Z j).getD c 0)) h0 (fun c hc' => hc c (by omega))
        refine ⟨b, off, rfl, hb, fun c hc' => ?_⟩
        rw [hrl j hj] at hc'
        rw [hcell c hc']
        have hmem : (Z j).getD c 0 ∈ Z j := by
          rw [List.getD_eq_getElem?_getD, List.getElem?_eq_getElem (by omega)]
          exact List.getElem_mem _
        have hb8 := bounds_u8 (h3 _ hmem)
        have e : (row j).getD c 0 = UInt8.ofNat ((Z j).getD c 0).toNat := by
          simp only [row, List.getD_eq_getElem?_getD, List.getElem?_map, List.getElem?_take_of_lt hc']
          rw [List.getElem?_eq_getElem (by omega)]
          rfl
        rw [e, UInt8.toNat_ofNat']
        congr 2
        omega
    refine ⟨some a, cap, ls, by rw [hll], ⟨some a, cap, by rw [hll], by omega, fun h0 => ?_⟩, (fun h => by cases h), fun j hj u hu => ?_, fun elems spare h => ?_⟩
    · rw [hll] at h0
      obtain ⟨b, off, rfl, hb, hcell⟩ := plain a len (fun j => .slice (A j) (L j) (C j)) h0 (fun j hj => (hrow j (by omega)).1)
      refine ⟨b, off, rfl, hb, fun j hj => ?_⟩
      rw [hll] at hj
      exact ⟨_, hcell j hj, by rw [hget j hj]; exact hbytes j hj⟩
    · rw [hll] at hj
      obtain ⟨h0, h1, h2, _, _, h4, _⟩ := hrow j (by omega)
      have h6 := hu a rfl
      rw [h0] at h6
      refine ⟨A j, C j, ?_, h4, h2⟩
      rw [hget j hj, hrl j hj]
      exact (Option.some.inj h6).symm
    · injection h with h _
      rw [← h, hll]
      simp
end
end Go.Proofs.Ytidiepbmbbflhaa
