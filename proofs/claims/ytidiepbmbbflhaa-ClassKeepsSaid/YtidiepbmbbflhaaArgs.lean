/- Arguments opened: an array of bytes by value. -/
import Derived.Test.YtidiepbmbbflhaaBytes
import Derived.ProofKit
import Derived.OpenShut
import Derived.Below
import Derived.ChangeSame
namespace Go.Proofs.Ytidiepbmbbflhaa
open Go.RowKit Go.WideShapes Go.ChangeShapes
section
variable {H : Type} {enc : TypeId × Value → H} {P : Program}

theorem trod_int_any {e : TypeId} {k : IntKind} (he : P.underlying e = some (.int k)) (w w' : World) (b b' : Nat) (sp sp' : Nat → Bool) (hd hd' : Bool) (m : Nat) (cs : List Value) :
    DataW.trod enc P w b sp hd m e cs = DataW.trod enc P w' b' sp' hd' m e cs := by
  cases m with
  | zero => simp [DataW.trod]
  | succ m =>
    unfold DataW.trod
    rw [he]
    rcases cs with _ | ⟨v, _ | ⟨u, r⟩⟩
    · rfl
    · cases v <;> rfl
    · simp
theorem trod_ints_any {t e : TypeId} {n : Nat} {k : IntKind} (ht : P.underlying t = some (.array n e)) (he : P.underlying e = some (.int k)) (w w' : World) (b b' : Nat) (sp sp' : Nat → Bool) (hd hd' : Bool) (m : Nat) (cs : List Value) :
    DataW.trod enc P w b sp hd m t cs = DataW.trod enc P w' b' sp' hd' m t cs := by
  cases m with
  | zero => simp [DataW.trod]
  | succ m =>
    unfold DataW.trod
    simp only [ht]
    rw [show (fun i => DataW.trod enc P w b sp hd m e (List.take (P.cellsOf e) (List.drop (i * P.cellsOf e) cs))) = (fun i => DataW.trod enc P w' b' sp' hd' m e (List.take (P.cellsOf e) (List.drop (i * P.cellsOf e) cs))) from funext fun i => trod_int_any he ..]

/-- the byte that a cell holds -/
def byteOf : Value → UInt8
  | .int _ z => UInt8.ofNat z.toNat
  | _ => 0
theorem open_bytes {t e : TypeId} {n : Nat} {w : World} {r : Reach} {b0 b : Nat} {sp : Nat → Bool} {hd : Bool} {v : Value} {d : DataW H} {ps : List MemPlace} (ht : P.underlying t = some (.array n e)) (he : P.underlying e = some (.int .u8)) (h1 : P.cellsOf e = 1) (hn : P.cellsOf t = n)
    (hval : Value.okWide P w r b0 t v) (h : DataW.Trod enc P w b sp hd t v d ps) :
    ∃ l : List UInt8, v = .agg (bv l).toArray ∧ l.length = n ∧ ps = [] ∧ ∀ (w' : World) (b' : Nat) (sp' : Nat → Bool) (hd' : Bool), DataW.Trod enc P w' b' sp' hd' t v d [] := by
  obtain ⟨cs, rfl, hsz, _⟩ : ∃ cs, v = .agg cs ∧ cs.size = P.cellsOf t ∧ Row.okWide P w r b0 t cs := by
    simpa [Value.okWide, ht] using hval
  obtain ⟨fuel, hf⟩ := h
  obtain ⟨xs, m, rfl, hx, hl, hxs, hel⟩ := DataW.trod_array ht hf
  rw [h1] at hel
  have hc : ∀ i, i < n → ∃ z : Int, cs[i]? = some (.int .u8 z) ∧ xs[i]? = some (.lit (.int .u8 z), []) ∧ (Lit.int .u8 z).wf = true := by
    intro i hi
    have h2 := hel i hi
    rw [List.getElem?_eq_getElem (by omega)] at h2
    obtain ⟨z, e1, e2, e3⟩ := DataW.trod_int he h2
    refine ⟨z, ?_, by rw [List.getElem?_eq_getElem (by omega), e2], e3⟩
    have h0 : (((Value.agg cs).cells.toList.drop (i * 1)).take 1)[0]? = some (.int .u8 z) := by rw [e1]; rfl
    simpa [Value.cells] using h0
  have hps : ps = [] := by
    have h3 := congrArg Prod.snd hx
    simp only at h3
    rw [h3, List.flatMap_eq_nil_iff]
    intro y hy
    obtain ⟨i, hi⟩ := List.getElem?_of_mem hy
    have hi2 : i < n := by
      rw [← hxs]
      rcases Nat.lt_or_ge i xs.length with h | h
      · exact h
      · rw [List.getElem?_eq_none h] at hi; cases hi
    obtain ⟨z, _, e2, _⟩ := hc i hi2
    rw [e2] at hi
    injection hi with hi
    rw [← hi]
  let l : List UInt8 := (List.range n).map fun i => byteOf (cs.getD i undef)
  have hll : l.length = n := by simp [l]
  refine ⟨l, ?_, hll, hps, fun w' b' sp' hd' => ⟨m + 1, ?_⟩⟩
  · congr 1
    refine Array.ext_getElem? fun i => ?_
    by_cases hi : i < n
    · obtain ⟨z, e1, _, e3⟩ := hc i hi
      have hb := bounds_u8 e3
      rw [e1]
      simp only [bv, List.getElem?_toArray, List.getElem?_map, l, List.getElem?_range hi, Option.map_some, Array.getD_eq_getD_getElem?, e1, Option.getD_some, byteOf, UInt8.toNat_ofNat']
      congr 2
      omega
    · rw [Array.getElem?_eq_none (by omega), Array.getElem?_eq_none (by simp [bv, hll]; omega)]
  · rw [← hps, ← hf]
    exact trod_ints_any ht he ..
theorem ints_of_u8 {z : Int} (h : (Lit.int .u8 z).wf = true) : ∃ x : UInt8, z = (x.toNat : Int) := by
  have hb := bounds_u8 h
  exact ⟨UInt8.ofNat z.toNat, by rw [UInt8.toNat_ofNat']; omega⟩

/-- a law's answer: 'true', all arguments as they were, and all memory that was there as it was -/
theorem law_post {f : Func} {s : ChangeSpec} {fresh handsOn again : Bool} {W W' : World} {args : Array Value} {ds gs : List (DataW H)} {pa before : List MemPlace} {tb : TypeId}
    (hW : DataW.Whole enc P f.params.toList s.vars false W args.toList ds gs before) (hv : s.vars = []) (hfn : s.fn H (ds ++ gs) = { results := [.lit (.bool true)], args := ds }) (hr : f.resultTypes = #[tb]) (hu : P.underlying tb = some .bool)
    (hargs : ∀ sp : Nat → Bool, (∀ p ∈ before, sp p.block = true) → DataW.TrodAll enc P W' 0 sp true f.params.toList args.toList ds pa) (hps : before = pa) (hb : Below W.heap.size W W') :
    s.post enc P f false fresh handsOn again W args (.bool true) W' := by
  subst hps
  have hlt : ∀ p ∈ before, p.block < W.heap.size := fun p hp => hW.lt p hp
  have hold : ∀ p ∈ before, (fun b => decide (b < W.heap.size)) p.block = true := fun p hp => by simpa using hlt p hp
  have hres : ∀ (b : Nat) (sp : Nat → Bool) (hd : Bool), DataW.TrodAll enc P W' b sp hd f.resultTypes.toList ((Value.bool true).resultList f.resultTypes.size) (s.fn H (ds ++ gs)).results [] := by
    intro b sp hd
    rw [hfn, hr]
    exact trodAll_mk1 (shut_bool hu _)
  have hA : ∀ sp : Nat → Bool, (∀ p ∈ before, sp p.block = true) → DataW.TrodAll enc P W' 0 sp true f.params.toList args.toList (s.fn H (ds ++ gs)).args before := by
    intro sp h
    rw [hfn]
    exact hargs sp h
  have hV : ∀ sp : Nat → Bool, DataW.TrodVars enc P W' sp s.vars (s.fn H (ds ++ gs)).vars [] := by
    intro sp
    rw [hfn, hv]
    rfl
  have hok : ∀ (j : Nat) (t : TypeId) (r : Value), f.resultTypes[j]? = some t → ((Value.bool true).resultList f.resultTypes.size)[j]? = some r → Value.okWide P W' .any 0 t r := by
    exact ok_one hr rfl (okWide_bool_mk hu _)
  refine ⟨ds, gs, before, [], before, [], hW, hres _ _ _, hA _ hold, hV _, World.keptBut_mono (fun p hp => ⟨hp, ?_⟩) (hb.frame (· ∈ before)), fun _ => ?_⟩
  · simpa using hp
  · obtain ⟨_, _, _, _, _, hz, hn⟩ := hW
    refine ⟨hok, _, _, ([] ++ before) ++ [], ⟨[] ++ before, [], trodAll_append (hA _ (fun _ _ => rfl)) (hres _ _ _), hV _, rfl, ?_, ?_⟩, ?_⟩
    · intro b off hp
      have hin : MemPlace.cell b off ∈ before := by simpa using hp
      rw [hb.frozen (hlt _ hin)]
      exact hz b off hin
    · intro ha
      cases ha
    · intro p hp _
      simpa using hp
end
end Go.Proofs.Ytidiepbmbbflhaa
