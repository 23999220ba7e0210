/- Arguments opened: an array of bytes by value. Rows: arguments opened as readable bytes; a law's last step. -/
import Derived.Test.YtajeohmmobgcjaaMBytes
import Derived.ProofKit
import Derived.OpenShut
import Derived.Below
import Derived.ChangeSame
import Derived.Carry
import Derived.SizedLaws
import Derived.ChangeSlices
import Derived.Deep.Matrix
import Derived.ChangeMaps5
section
namespace Go.Proofs.Ytajeohmmobgcjaa
open Go.RowKit Go.WideShapes Go.ChangeShapes
section
variable {H : Type} {enc : TypeId × Value → H} {P : Program}

theorem trod_int_any {e : TypeId} {k : IntKind} (he : P.underlying e = some (.int k)) (w w' : World) (b b' : Nat) (sp sp' : Nat → Bool) (hd hd' : Bool) (m : Nat) (cs : List Value) :
    DataW.trod enc P w b sp hd m e cs = DataW.trod enc P w' b' sp' hd' m e cs := by
  cases m with
  | zero => simp [DataW.trod]
  | succ m =>
    unfold DataW.trod
    rw [he]
    rcases cs with _ | ⟨v, _ | ⟨u, r⟩⟩
    · rfl
    · cases v <;> rfl
    · simp
theorem trod_ints_any {t e : TypeId} {n : Nat} {k : IntKind} (ht : P.underlying t = some (.array n e)) (he : P.underlying e = some (.int k)) (w w' : World) (b b' : Nat) (sp sp' : Nat → Bool) (hd hd' : Bool) (m : Nat) (cs : List Value) :
    DataW.trod enc P w b sp hd m t cs = DataW.trod enc P w' b' sp' hd' m t cs := by
  cases m with
  | zero => simp [DataW.trod]
  | succ m =>
    unfold DataW.trod
    simp only [ht]
    rw [show (fun i => DataW.trod enc P w b sp hd m e (List.take (P.cellsOf e) (List.drop (i * P.cellsOf e) cs))) = (fun i => DataW.trod enc P w' b' sp' hd' m e (List.take (P.cellsOf e) (List.drop (i * P.cellsOf e) cs))) from funext fun i => trod_int_any he ..]

/-- the byte that a cell holds -/
def byteOf : Value → UInt8
  | .int _ z => UInt8.ofNat z.toNat
  | _ => 0
theorem open_bytes {t e : TypeId} {n : Nat} {w : World} {r : Reach} {b0 b : Nat} {sp : Nat → Bool} {hd : Bool} {v : Value} {d : DataW H} {ps : List MemPlace} (ht : P.underlying t = some (.array n e)) (he : P.underlying e = some (.int .u8)) (h1 : P.cellsOf e = 1) (hn : P.cellsOf t = n)
    (hval : Value.okWide P w r b0 t v) (h : DataW.Trod enc P w b sp hd t v d ps) :
    ∃ l : List UInt8, v = .agg (bv l).toArray ∧ l.length = n ∧ ps = [] ∧ ∀ (w' : World) (b' : Nat) (sp' : Nat → Bool) (hd' : Bool), DataW.Trod enc P w' b' sp' hd' t v d [] := by
  obtain ⟨cs, rfl, hsz, _⟩ : ∃ cs, v = .agg cs ∧ cs.size = P.cellsOf t ∧ Row.okWide P w r b0 t cs := by
    simpa [Value.okWide, ht] using hval
  obtain ⟨fuel, hf⟩ := h
  obtain ⟨xs, m, rfl, hx, hl, hxs, hel⟩ := DataW.trod_array ht hf
  rw [h1] at hel
  have hc : ∀ i, i < n → ∃ z : Int, cs[i]? = some (.int .u8 z) ∧ xs[i]? = some (.lit (.int .u8 z), []) ∧ (Lit.int .u8 z).wf = true := by
    intro i hi
    have h2 := hel i hi
    rw [List.getElem?_eq_getElem (by omega)] at h2
    obtain ⟨z, e1, e2, e3⟩ := DataW.trod_int he h2
    refine ⟨z, ?_, by rw [List.getElem?_eq_getElem (by omega), e2], e3⟩
    have h0 : (((Value.agg cs).cells.toList.drop (i * 1)).take 1)[0]? = some (.int .u8 z) := by rw [e1]; rfl
    simpa [Value.cells] using h0
  have hps : ps = [] := by
    have h3 := congrArg Prod.snd hx
    simp only at h3
    rw [h3, List.flatMap_eq_nil_iff]
    intro y hy
    obtain ⟨i, hi⟩ := List.getElem?_of_mem hy
    have hi2 : i < n := by
      rw [← hxs]
      rcases Nat.lt_or_ge i xs.length with h | h
      · exact h
      · rw [List.getElem?_eq_none h] at hi; cases hi
    obtain ⟨z, _, e2, _⟩ := hc i hi2
    rw [e2] at hi
    injection hi with hi
    rw [← hi]
  let l : List UInt8 := (List.range n).map fun i => byteOf (cs.getD i undef)
  have hll : l.length = n := by simp [l]
  refine ⟨l, ?_, hll, hps, fun w' b' sp' hd' => ⟨m + 1, ?_⟩⟩
  · congr 1
    refine Array.ext_getElem? fun i => ?_
    by_cases hi : i < n
    · obtain ⟨z, e1, _, e3⟩ := hc i hi
      have hb := bounds_u8 e3
      rw [e1]
      simp only [bv, List.getElem?_toArray, List.getElem?_map, l, List.getElem?_range hi, Option.map_some, Array.getD_eq_getD_getElem?, e1, Option.getD_some, byteOf, UInt8.toNat_ofNat']
      congr 2
      omega
    · rw [Array.getElem?_eq_none (by omega), Array.getElem?_eq_none (by simp [bv, hll]; omega)]
  · rw [← hps, ← hf]
    exact trod_ints_any ht he ..
theorem ints_of_u8 {z : Int} (h : (Lit.int .u8 z).wf = true) : ∃ x : UInt8, z = (x.toNat : Int) := by
  have hb := bounds_u8 h
  exact ⟨UInt8.ofNat z.toNat, by rw [UInt8.toNat_ofNat']; omega⟩

/-- a law's answer: 'true', all arguments as they were, and all memory that was there as it was -/
theorem law_post {f : Func} {s : ChangeSpec} {fresh handsOn again : Bool} {W W' : World} {args : Array Value} {ds gs : List (DataW H)} {pa before : List MemPlace} {tb : TypeId}
    (hW : DataW.Whole enc P f.params.toList s.vars false W args.toList ds gs before) (hv : s.vars = []) (hfn : s.fn H (ds ++ gs) = { results := [.lit (.bool true)], args := ds }) (hr : f.resultTypes = #[tb]) (hu : P.underlying tb = some .bool)
    (hargs : ∀ sp : Nat → Bool, (∀ p ∈ before, sp p.block = true) → DataW.TrodAll enc P W' 0 sp true f.params.toList args.toList ds pa) (hps : before = pa) (hb : Below W.heap.size W W') :
    s.post enc P f false fresh handsOn again W args (.bool true) W' := by
  subst hps
  have hlt : ∀ p ∈ before, p.block < W.heap.size := fun p hp => hW.lt p hp
  have hold : ∀ p ∈ before, (fun b => decide (b < W.heap.size)) p.block = true := fun p hp => by simpa using hlt p hp
  have hres : ∀ (b : Nat) (sp : Nat → Bool) (hd : Bool), DataW.TrodAll enc P W' b sp hd f.resultTypes.toList ((Value.bool true).resultList f.resultTypes.size) (s.fn H (ds ++ gs)).results [] := by
    intro b sp hd
    rw [hfn, hr]
    exact trodAll_mk1 (shut_bool hu _)
  have hA : ∀ sp : Nat → Bool, (∀ p ∈ before, sp p.block = true) → DataW.TrodAll enc P W' 0 sp true f.params.toList args.toList (s.fn H (ds ++ gs)).args before := by
    intro sp h
    rw [hfn]
    exact hargs sp h
  have hV : ∀ sp : Nat → Bool, DataW.TrodVars enc P W' sp s.vars (s.fn H (ds ++ gs)).vars [] := by
    intro sp
    rw [hfn, hv]
    rfl
  have hok : ∀ (j : Nat) (t : TypeId) (r : Value), f.resultTypes[j]? = some t → ((Value.bool true).resultList f.resultTypes.size)[j]? = some r → Value.okWide P W' .any 0 t r := by
    exact ok_one hr rfl (okWide_bool_mk hu _)
  refine ⟨ds, gs, before, [], before, [], hW, hres _ _ _, hA _ hold, hV _, World.keptBut_mono (fun p hp => ⟨hp, ?_⟩) (hb.frame (· ∈ before)), fun _ => ?_⟩
  · simpa using hp
  · obtain ⟨_, _, _, _, _, hz, hn⟩ := hW
    refine ⟨hok, _, _, ([] ++ before) ++ [], ⟨[] ++ before, [], trodAll_append (hA _ (fun _ _ => rfl)) (hres _ _ _), hV _, rfl, ?_, ?_⟩, ?_⟩
    · intro b off hp
      have hin : MemPlace.cell b off ∈ before := by simpa using hp
      rw [hb.frozen (hlt _ hin)]
      exact hz b off hin
    · intro ha
      cases ha
    · intro p hp _
      simpa using hp
end
end Go.Proofs.Ytajeohmmobgcjaa
end
section
namespace Go.Proofs.Ytajeohmmobgcjaa
open Go.RowKit Go.WideShapes Go.ChangeShapes
theorem laidOut : laidOutB Try.prog = true := by kernel_rfl
section
variable {H : Type} {enc : TypeId × Value → H} {P : Program}
/-- all arguments read as they did, where nothing old has turned -/
theorem trodAll_stay (hl : laidOutB P = true) {W W' : World} (hb : Below W.heap.size W W') : ∀ {ts : List TypeId} {vs : List Value} {ds : List (DataW H)} {ps : List MemPlace}, (∀ t ∈ ts, P.readableRec t = true ∧ t < P.types.size) →
    DataW.TrodAll enc P W 0 (fun _ => true) true ts vs ds ps → (∀ x ∈ ps, x.block < W.heap.size) → DataW.TrodAll enc P W' 0 (fun b => decide (b < W.heap.size)) true ts vs ds ps
  | [], vs, ds, ps, _, h, _ => by
    obtain ⟨rfl, rfl, rfl⟩ := trodAll_nil h
    rfl
  | t :: ts, vs, ds, ps, ht, h, hlt => by
    obtain ⟨v, vs', d, ds', p, q, rfl, rfl, rfl, hd, hrest⟩ := trodAll_cons h
    have h1 := Below.trod hl (ht t (by simp)).1 (ht t (by simp)).2 hd hb (fun x hx => hlt x (by simp [hx]))
    have h2 := trodAll_stay hl hb (fun s hs => ht s (by simp [hs])) hrest (fun x hx => hlt x (by simp [hx]))
    exact ⟨p, q, h1, h2, rfl⟩
/-- a law's answer: 'true', all as it was -/
theorem law_end {f : Func} {s : ChangeSpec} {fresh handsOn : Bool} {W W' : World} {args : Array Value} {ds gs : List (DataW H)} {before : List MemPlace} {tb : TypeId} (hl : laidOutB P = true)
    (hW : DataW.Whole enc P f.params.toList s.vars false W args.toList ds gs before) (hv : s.vars = []) (hfn : s.fn H (ds ++ gs) = { results := [.lit (.bool true)], args := ds }) (hr : f.resultTypes = #[tb]) (hu : P.underlying tb = some .bool)
    (hp : f.params.toList.all (fun t => P.readableRec t && decide (t < P.types.size)) = true) (hb : Below W.heap.size W W') :
    s.post enc P f false fresh handsOn false W args (.bool true) W' := by
  have hW2 := hW
  obtain ⟨p, q, hA, hV, rfl, hz, hn⟩ := hW
  rw [hv] at hV
  obtain ⟨rfl, rfl⟩ := trodVars_none hV
  have hlt : ∀ x ∈ p ++ [], x.block < W.heap.size := fun x hx => hW2.lt x hx
  rw [List.append_nil] at hlt
  refine ⟨ds, [], p ++ [], [], p, [], hW2, ?_, ?_, ?_, World.keptBut_mono (fun x hx => ⟨hx, .inr (.inl (by simpa using hx))⟩) (hb.frame (· ∈ p ++ [])), fun h => by cases h⟩
  · rw [hfn, hr]
    exact trodAll_mk1 (shut_bool hu _)
  · rw [hfn]
    refine trodAll_stay hl hb (fun t ht => ?_) hA hlt
    have h := List.all_eq_true.1 hp t ht
    simpa using h
  · rw [hv]
    exact (by rw [hfn]; rfl)
theorem add_plain (b o j : Nat) : (⟨b, o, none⟩ : Addr).add j = ⟨b, o + j, none⟩ := by
  unfold Addr.add
  split
  · rename_i h; subst h; rfl
  · rfl
theorem cell_spot (w : World) (b o m : Nat) : w.cell? ⟨b, o, some m⟩ = none := by
  unfold World.cell?
  split <;> simp_all
/-- a slice of bytes that came in -/
theorem open_bslice {t e : TypeId} {w : World} {r : Reach} {b0 : Nat} {sp : Nat → Bool} {hd : Bool} {v : Value} {d : DataW H} {ps : List MemPlace} (ht : P.underlying t = some (.slice e)) (he : P.underlying e = some (.int .u8)) (hc : P.cellsOf e = 1)
    (hval : Value.okWide P w r b0 t v) (h : DataW.Trod enc P w 0 sp hd t v d ps) :
    ∃ (A : Option Addr) (cap : Nat) (l : List UInt8), v = .slice A l.length cap ∧ BytesAt w w.heap.size v l ∧ (A = none → cap = 0) ∧ ((d = .nil ∧ l = []) ∨ ∃ elems spare, d = .slice elems spare ∧ elems.length = l.length) := by
  obtain ⟨a0, len, cap, rfl⟩ := okWide_slice ht hval
  obtain ⟨fuel, hf⟩ := h
  rcases open_ints ht he hc hf with ⟨hcs, hx⟩ | ⟨a, len', cap', zs, hcs, _, hl, hm, hz, hx, hcell, hwz⟩
  · simp [Value.cells] at hcs
    obtain ⟨rfl, rfl, rfl⟩ := hcs
    simp only [Prod.mk.injEq] at hx
    obtain ⟨rfl, rfl⟩ := hx
    exact ⟨none, 0, [], rfl, ⟨none, 0, rfl, Nat.le_refl _, fun h => absurd h (by simp)⟩, fun _ => rfl, .inl ⟨rfl, rfl⟩⟩
  · simp [Value.cells] at hcs
    obtain ⟨rfl, rfl, rfl⟩ := hcs
    simp only [Prod.mk.injEq] at hx
    obtain ⟨rfl, rfl⟩ := hx
    have hlz : len ≤ zs.length := by rw [hz]; split <;> omega
    let l : List UInt8 := (zs.take len).map fun z => UInt8.ofNat z.toNat
    have hll : l.length = len := by simp [l]; omega
    have hcl : ∀ j, j < len → w.cell? (a.add j) = some (.int .u8 ((l.getD j 0).toNat : Int)) := by
      intro j hj
      rw [hcell j (by omega)]
      have hmem : zs.getD j 0 ∈ zs := by
        rw [List.getD_eq_getElem?_getD, List.getElem?_eq_getElem (by omega)]
        exact List.getElem_mem _
      have hb := bounds_u8 (hwz _ hmem)
      have e : l.getD j 0 = UInt8.ofNat (zs.getD j 0).toNat := by
        simp only [l, List.getD_eq_getElem?_getD, List.getElem?_map, List.getElem?_take_of_lt hj]
        rw [List.getElem?_eq_getElem (by omega)]
        rfl
      rw [e, UInt8.toNat_ofNat']
      congr 2
      omega
    refine ⟨some a, cap, l, by rw [hll], ⟨some a, cap, by rw [hll], by omega, fun h0 => ?_⟩, (fun h => by cases h), .inr ⟨_, _, rfl, ?_⟩⟩
    · have h1 := hcl 0 (by omega)
      have hlt := World.block_lt_of_cell? w _ h1
      obtain ⟨b, off, m⟩ := a
      cases m with
      | none =>
        refine ⟨b, off, rfl, by simpa [Addr.add] using hlt, fun j hj => ?_⟩
        have h2 := hcl j (by omega)
        rwa [add_plain] at h2
      | some m => exact absurd (show w.cell? ⟨b, off, some m⟩ = _ from h1) (by rw [cell_spot]; simp)
    · rw [hll]
      simp [lits, hlz]
/-- a slice of slices of bytes that came in -/
theorem open_brows {t e q : TypeId} {w : World} {r : Reach} {b0 : Nat} {hd : Bool} {v : Value} {d : DataW H} {ps : List MemPlace} (ht : P.underlying t = some (.slice e)) (he : P.underlying e = some (.slice q)) (hq : P.underlying q = some (.int .u8)) (ce : P.cellsOf e = 1) (cq : P.cellsOf q = 1)
    (hval : Value.okWide P w r b0 t v) (h : DataW.Trod enc P w 0 (fun _ => true) hd t v d ps) :
    ∃ (A : Option Addr) (cap : Nat) (ls : List (List UInt8)), v = .slice A ls.length cap ∧ PartsAt w w.heap.size v ls ∧ (A = none → cap = 0) ∧ (∀ j, j < ls.length → ∀ u, (∀ ad, A = some ad → w.cell? (ad.add j) = some u) → ∃ A' c', u = .slice A' (ls.getD j []).length c' ∧ (A' = none → c' = 0) ∧ c' ≤ maxLen) ∧
      (∀ elems spare, d = .slice elems spare → elems.length = ls.length) := by
  obtain ⟨a0, len, cap, rfl⟩ := okWide_slice ht hval
  obtain ⟨fuel, hf⟩ := h
  rcases Go.Deep.open_int_rows ht he hq ce cq hf with ⟨hcs, hx⟩ | ⟨a, len', cap', A, L, C, Z, hcs, _, hl, hm, hx, hrow⟩
  · simp [Value.cells] at hcs
    obtain ⟨rfl, rfl, rfl⟩ := hcs
    simp only [Prod.mk.injEq] at hx
    obtain ⟨rfl, rfl⟩ := hx
    exact ⟨none, 0, [], rfl, ⟨none, 0, rfl, Nat.le_refl _, fun h => absurd h (by simp)⟩, (fun _ => rfl), (fun j hj => absurd hj (by simp)), (fun _ _ h => by cases h)⟩
  · simp [Value.cells] at hcs
    obtain ⟨rfl, rfl, rfl⟩ := hcs
    simp only [Prod.mk.injEq] at hx
    obtain ⟨rfl, rfl⟩ := hx
    let row : Nat → List UInt8 := fun r => ((Z r).take (L r)).map fun z => UInt8.ofNat z.toNat
    let ls : List (List UInt8) := (List.range len).map row
    have hll : ls.length = len := by simp [ls]
    have hget : ∀ j, j < len → ls.getD j [] = row j := by intro j hj; simp [ls, List.getD, hj]
    have hrl : ∀ j, j < len → (row j).length = L j := by
      intro j hj
      obtain ⟨_, h1, _, h2, _⟩ := hrow j (by omega)
      simp [row]; omega
    have plain : ∀ (ad : Addr) (n : Nat) (f : Nat → Value), 0 < n → (∀ j, j < n → w.cell? (ad.add j) = some (f j)) → ∃ b off, ad = ⟨b, off, none⟩ ∧ b < w.heap.size ∧ ∀ j, j < n → w.cell? ⟨b, off + j, none⟩ = some (f j) := by
      intro ad n f hn hc
      have h1 := hc 0 hn
      obtain ⟨b, off, m⟩ := ad
      cases m with
      | none =>
        have hlt := World.block_lt_of_cell? w _ h1
        refine ⟨b, off, rfl, by simpa [Addr.add] using hlt, fun j hj => ?_⟩
        have h2 := hc j hj
        rwa [add_plain] at h2
      | some m => exact absurd (show w.cell? ⟨b, off, some m⟩ = _ from h1) (by rw [cell_spot]; simp)
    have hbytes : ∀ j, j < len → BytesAt w w.heap.size (.slice (A j) (L j) (C j)) (row j) := by
      intro j hj
      obtain ⟨_, h1, _, h2, h3, h4, h5⟩ := hrow j (by omega)
      refine ⟨A j, C j, by rw [hrl j hj], by rw [hrl j hj]; exact h1, fun h0 => ?_⟩
      rw [hrl j hj] at h0
      cases hA : A j with
      | none => have := h4 hA; omega
      | some ad =>
        obtain ⟨_, hc⟩ := h5 ad hA
        obtain ⟨b, off, rfl, hb, hcell⟩ := plain ad (L j) (fun c => .int .u8 ((Z j).getD c 0)) h0 (fun c hc' => hc c (by omega))
        refine ⟨b, off, rfl, hb, fun c hc' => ?_⟩
        rw [hrl j hj] at hc'
        rw [hcell c hc']
        have hmem : (Z j).getD c 0 ∈ Z j := by
          rw [List.getD_eq_getElem?_getD, List.getElem?_eq_getElem (by omega)]
          exact List.getElem_mem _
        have hb8 := bounds_u8 (h3 _ hmem)
        have e : (row j).getD c 0 = UInt8.ofNat ((Z j).getD c 0).toNat := by
          simp only [row, List.getD_eq_getElem?_getD, List.getElem?_map, List.getElem?_take_of_lt hc']
          rw [List.getElem?_eq_getElem (by omega)]
          rfl
        rw [e, UInt8.toNat_ofNat']
        congr 2
        omega
    refine ⟨some a, cap, ls, by rw [hll], ⟨some a, cap, by rw [hll], by omega, fun h0 => ?_⟩, (fun h => by cases h), fun j hj u hu => ?_, fun elems spare h => ?_⟩
    · rw [hll] at h0
      obtain ⟨b, off, rfl, hb, hcell⟩ := plain a len (fun j => .slice (A j) (L j) (C j)) h0 (fun j hj => (hrow j (by omega)).1)
      refine ⟨b, off, rfl, hb, fun j hj => ?_⟩
      rw [hll] at hj
      exact ⟨_, hcell j hj, by rw [hget j hj]; exact hbytes j hj⟩
    · rw [hll] at hj
      obtain ⟨h0, h1, h2, _, _, h4, _⟩ := hrow j (by omega)
      have h6 := hu a rfl
      rw [h0] at h6
      refine ⟨A j, C j, ?_, h4, h2⟩
      rw [hget j hj, hrl j hj]
      exact (Option.some.inj h6).symm
    · injection h with h _
      rw [← h, hll]
      simp
end
end Go.Proofs.Ytajeohmmobgcjaa
end
