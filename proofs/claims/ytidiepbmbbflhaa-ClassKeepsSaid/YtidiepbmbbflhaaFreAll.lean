/- Fre.wp_made where no operation of the region is forced to come last. Printed by gen/freall.py. -/
import Derived.Test.YtidiepbmbbflhaaFreMade
namespace Go.Proofs.Ytidiepbmbbflhaa.Fre
open Go Go.RowKit
section
variable {P : Program} {ops : Array Oper} {md : Region.Mode} {F : Made} {w0 : World} {X : World → World → Prop} [RelOk X]
theorem all_lt {n j : Nat} {d : Array Bool} (hn : n = ops.size) (hj : j ∈ Region.ready md ops d) : j < n := by
  obtain ⟨_, oj, hoj, _⟩ := mem_ready.1 hj
  rw [hn]
  exact (Array.getElem?_eq_some_iff.1 hoj).1
omit [RelOk X] in
theorem headF_firstA {n i : Nat} {oi : Oper} {v : Value} {L : Array Bool → Act → Prop} (hi : ops[i]? = some oi) (hsel : ∀ (j : Nat) (o : Oper) cs b, ops[j]? = some o → o.op ≠ .select cs b)
    (hn : n = ops.size) (hin : i < n) (hdone : ∀ d a, L d a → ∀ j ∈ Region.ready md ops d, n ≤ j) (f : Nat) :
    ∀ (d : Array Bool) (a : Act), HeadInv md ops n d →
      (∀ j oj, ops[j]? = some oj → j ≠ i → d.getD j true = false → (∀ e ∈ oj.after, Region.binds md e = true → e.on ≠ i) → oi.apart ops oj = true) →
      i ∈ Region.ready md ops d → Does X P ops F w0 oi v a →
      headF X P md ops F w0 n L f (d.setIfInBounds i true) (a.put oi.dst v) → headF X P md ops F w0 n L (f + 1) d a := by
  have own : ∀ (K : Act → Prop) (a : Act), Does X P ops F w0 oi v a → K (a.put oi.dst v) → absOp X P ops F w0 i K a := by
    intro K a hy hk
    unfold absOp
    simp only [hi]
    exact ⟨v, hy, hk⟩
  induction f with
  | zero =>
    intro d a inv _ hr hy H
    refine ⟨List.ne_nil_of_mem hr, fun j hj => ?_⟩
    have hjn := all_lt hn hj
    refine ⟨hjn, ?_⟩
    rcases Nat.decEq j i with hji | hji
    · exact absurd (hdone _ _ H j (ready_mono hj hji)) (by omega)
    · subst hji
      exact own _ _ hy H
  | succ f ih =>
    intro d a inv hfree hr hy H
    refine ⟨List.ne_nil_of_mem hr, fun j hj => ?_⟩
    have hjn := all_lt hn hj
    refine ⟨hjn, ?_⟩
    rcases Nat.decEq j i with hji | hji
    · obtain ⟨hjun, oj, hoj, hall⟩ := mem_ready.1 hj
      have hnot : ∀ e ∈ oj.after, Region.binds md e = true → e.on ≠ i := by
        intro e he hb heq
        have h1 := hall e he hb
        rw [heq, getD_both (mem_ready.1 hr).1] at h1
        cases h1
      have hstep := absOp_put hoj (hfree j oj hoj hji hjun hnot) (fun cs b => hsel i oi cs b hi) (fun cs b => hsel j oj cs b hoj) hy (H.2 j (ready_mono hj hji)).2
      refine absOp_mono (fun a' h3 => ih (d.setIfInBounds j true) a' (inv.set hj hjn) ?_ (ready_mono hr (Ne.symm hji)) h3.1 ?_) hstep
      · intro k ok hk hki hunk hno
        refine hfree k ok hk hki ?_ hno
        rcases Nat.decEq j k with hjk | hjk
        · rwa [getD_set_ne true hjk] at hunk
        · subst hjk
          exact hjun
      · rw [Array.setIfInBounds_comm _ _ hji]
        exact h3.2
    · subst hji
      exact own _ _ hy H

omit [RelOk X] in
theorem headF_lexA {n g : Nat} {Lq : Act → Prop} (hsel : Region.noSelect ops = true) (hn : n = ops.size) :
    ∀ (l : List Oper) (k : Nat) (d : Array Bool) (a : Act), (∀ j, j < l.length → l[j]? = ops[k + j]?) → k + l.length = n → HeadInv md ops n d → (∀ i, i < k → d.getD i false = true) →
    Region.lexHead md ops g l.length k d = true → wpMade X P ops F w0 Lq l a →
    headF X P md ops F w0 n (fun d' a' => (Region.seqB md ops g n d' = true ∧ ∀ i, i < n → d'.getD i false = true) ∧ Lq a') l.length d a
  | [], k, d, a, _, hk, _, hd, hB, h => by
    obtain rfl : k = n := by simpa using hk
    exact ⟨⟨by simpa [Region.lexHead] using hB, hd⟩, h⟩
  | o :: l, k, d, a, hl, hk, inv, hd, hB, h => by
    have h0 : ops[k]? = some o := by simpa using (hl 0 (by simp)).symm
    simp only [List.length_cons, Region.lexHead, Bool.and_eq_true] at hB
    obtain ⟨⟨hr, hf⟩, hB'⟩ := hB
    have hkn : k < n := by simp only [List.length_cons] at hk; omega
    have hr' : k ∈ Region.ready md ops d := by simpa using hr
    obtain ⟨v, hy, hK⟩ := h
    refine headF_firstA h0 (Region.noSelect_spec hsel) hn hkn (fun d' a' hL => seqB_ready hL.1.1) l.length d a inv (Region.free_spec h0 hf) hr' hy ?_
    refine headF_lexA hsel hn l (k + 1) _ _ (fun j hj => ?_) (by simp only [List.length_cons] at hk; omega) (inv.set hr' hkn) (fun i hi => ?_) hB' hK
    · have := hl (j + 1) (by simp; omega)
      simpa [Nat.add_assoc, Nat.add_comm 1 j] using this
    · by_cases e : k = i
      · subst e
        have : k < d.size := by rw [inv.size]; omega
        simp [this]
      · rw [getD_set_ne false e]
        exact hd i (by omega)

/-- THE LAW. -/
theorem wp_made_tailA {id : Nat} {Q : Exit → Act → World → Prop} {a : Act} {w : World} {l : List Oper} (keys : List Tmp) (F : Made) (hm : P.follows .mixedOrders = true)
    (hB : (Region.noSelect l.toArray && Region.lexHead .any l.toArray 0 l.length 0 (Array.replicate l.toArray.size false) && madeB .any l.toArray keys l.length && allMadeB l.toArray keys l.length) = true) (hkeys : ∀ t V, F t = some V → t ∈ keys) (hF : stays X F) (hrange : ∀ t ∈ keys, t < a.tmps.size)
    (h : wpMade X P l.toArray F w (fun a' => ∀ b w', Ext X w w' → Same F b a' → (∀ t V, F t = some V → ∃ u, b.tmps[t]? = some u ∧ V u w') → Q .normal b w') l a) :
    (Code.region id l.toArray true).wp P Q a w := by
  simp only [Bool.and_eq_true] at hB
  obtain ⟨⟨⟨hsel, hlex⟩, hmade⟩, hallm⟩ := hB
  have inv0 : HeadInv .any l.toArray l.length (Array.replicate l.toArray.size false) :=
    ⟨by simp, fun j oj _ hl => (by rw [getD_replicate_false] at hl; cases hl), fun t ht ht' => absurd ht' (by simp; omega)⟩
  have H := headF_lexA (md := .any) (g := 0) (n := l.length) hsel (by simp) l 0 _ a (fun j hj => by simp) (by simp) inv0 (fun i hi => absurd hi (Nat.not_lt_zero _)) hlex h
  refine wp_region_any hm ?_
  have hfin := any_of_headF (Q' := Q) (g := 0) (size := a.tmps.size) hF hkeys hmade (fun _ _ _ _ _ => trivial) (fun t V h => hrange t (hkeys t V h)) (fun d a' b w' _ hsim hL => by
    have mk : ∀ t V, F t = some V → ∃ i oi, l.toArray[i]? = some oi ∧ d.getD i false = true ∧ oi.dst = some t := by
      intro t V hFt
      have h5 := List.all_eq_true.1 hallm t (hkeys t V hFt)
      obtain ⟨i, hi, hi2⟩ := List.any_eq_true.1 h5
      simp only [beq_iff_eq] at hi2
      cases hoi : l.toArray[i]? with
      | none => simp [hoi] at hi2
      | some oi => exact ⟨i, oi, hoi, hL.1.2 i (List.mem_range.1 hi), by simpa [hoi] using hi2⟩
    have h2 := hL.2 b w' hsim.1 hsim.2.1 (fun t V hFt => by
      obtain ⟨i, oi, hoi, hdn, hdst⟩ := mk t V hFt
      exact hsim.2.2 i oi t V hoi hdn hdst hFt)
    exact ⟨by simpa [Region.seqB] using hL.1.1, h2⟩) _ _ a a w.drew rfl inv0 ⟨Ext.drew w, ⟨rfl, rfl, fun _ _ => rfl⟩, fun i o t V _ hd => by rw [getD_replicate_false] at hd; cases hd⟩ H
  rw [show l.length + 0 = l.toArray.size by simp] at hfin
  exact hfin

end
section
variable {P : Program} {ops : Array Oper} {L : MadeL} {w0 : World} {X : World → World → Prop} [RelOk X]
/-- THE LAW -/
theorem wp_madeA {id : Nat} {Q : Exit → Act → World → Prop} {a : Act} {w : World} {l : List Oper} (L : MadeL) (hm : P.follows .mixedOrders = true)
    (hB : (Region.noSelect l.toArray && Region.lexHead .any l.toArray 0 l.length 0 (Array.replicate l.toArray.size false) && madeB .any l.toArray (L.map (·.1)) l.length && allMadeB l.toArray (L.map (·.1)) l.length) = true) (hL : ∀ p ∈ L, MadeOk X p.2) (hn : (L.map (·.1)).Nodup) (hrange : ∀ t ∈ L.map (·.1), t < a.tmps.size)
    (h : wpMade X P l.toArray (madeBy L) w (fun a' => ∀ w', Ext X w w' → ended L w' a' fun b => Q .normal b w') l a) :
    (Code.region id l.toArray true).wp P Q a w := by
  refine wp_made_tailA (L.map (·.1)) (madeBy L) hm hB (fun t V hV => List.mem_map.2 ⟨_, madeBy_mem hV, rfl⟩) (stays_by hL) hrange ?_
  have e : ∀ (rest : List Oper) (a : Act), wpMade X P l.toArray (madeBy L) w (fun a' => ∀ w', Ext X w w' → ended L w' a' fun b => Q .normal b w') rest a →
      wpMade X P l.toArray (madeBy L) w (fun a' => ∀ b w', Ext X w w' → Same (madeBy L) b a' → (∀ t V, madeBy L t = some V → ∃ u, b.tmps[t]? = some u ∧ V u w') → Q .normal b w') rest a := by
    intro rest
    induction rest with
    | nil =>
      intro a h b w' hx hs hh
      exact ended_elim _ w' L a b hs hn (fun t V hm => hh t V (madeBy_look hn hm)) (h w' hx)
    | cons o rest ih =>
      intro a h
      obtain ⟨v, h1, h2⟩ := h
      exact ⟨v, h1, ih _ h2⟩
  exact e _ _ h

end
end Go.Proofs.Ytidiepbmbbflhaa.Fre
