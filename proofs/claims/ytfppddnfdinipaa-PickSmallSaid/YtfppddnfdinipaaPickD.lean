/- slices.Index, slices.Contains of hashes. -/
import Derived.Test.YtfppddnfdinipaaPickC
import Derived.LoopN
namespace Go.Proofs.Ytfppddnfdinipaa
open Go Go.RowKit Go.Maps
set_option maxRecDepth 100000
def hasH (l : List Hsh) (h : Hsh) : Bool := l.any fun x => decide (x = h)
theorem exec_index_off {P : Program} {ρ : Operand → Value} {o : Oper} (ty e : TypeId) (x i : Operand) (ho : o.op = .indexAddr ty x i) (b off n cap : Nat) (k : Int) (kk : IntKind) (hx : ρ x = .slice (some ⟨b, off, none⟩) n cap) (hi : ρ i = .int kk k) (hk : 0 ≤ k ∧ k < (n : Int)) (s : Nat) (hu : P.underlying ty = some (.slice e)) (hs : (P.info? e).map (·.size) = some s) (w : World) :
    (execOp ρ o).run P w = .ok (.value (.pointer (some ⟨b, off + k.toNat * s, none⟩))) w := by
  have e2 : P.elem ty = e := by simp [Program.elem, hu]
  unfold execOp
  simp only [ho, hx, hi, Sem.run_bind, Sem.run_pure, run_indexAt_slice w ty _ _ _ kk k (by rw [e2]; exact hu), e2, if_pos hk]
  cases hq : P.info? e with
  | none => simp [hq] at hs
  | some j =>
    have h1 : j.size = s := by simpa [hq] using hs
    simp [sizeOf, typeInfo, hq, h1, Addr.add_mid]
/-- a slice, opened -/
theorem slice_open {α : Type} {t : TypeId} {L : Lay α} {w : World} {B : Nat} {v : Value} {l : List α} (h : (Lay.slice t L).At w B [v] l) : ∃ A cap, v = .slice A l.length cap ∧ l.length ≤ cap ∧ cap ≤ maxLen ∧ (A = none → cap = 0) ∧ (0 < l.length → ∃ b off, A = some ⟨b, off, none⟩ ∧ b < B ∧ ElemsAt L w B b off l) := by
  obtain ⟨A, cap, e, h1, h2, h3, h4⟩ := h
  injection e with e _
  exact ⟨A, cap, e, h1, h2, h3, h4⟩
theorem bv_at (l : List Hsh) (h : ∀ x ∈ l, okH x) (j : Nat) (x : Hsh) (hj : l[j]? = some x) : ∀ i u, (bv x)[i]? = some u → (hashCells l)[j * 20 + i]? = some u := by
  induction l generalizing j with
  | nil => simp at hj
  | cons y l ih =>
    intro i u hu
    have hy : (bv y).length = 20 := by rw [bvL]; exact h y (by simp)
    show (bv y ++ hashCells l)[j * 20 + i]? = some u
    cases j with
    | zero =>
      simp only [List.getElem?_cons_zero, Option.some.injEq] at hj
      subst hj
      rw [Nat.zero_mul, Nat.zero_add, List.getElem?_append_left (List.getElem?_eq_some_iff.1 hu).1]
      exact hu
    | succ j =>
      rw [List.getElem?_append_right (by omega), hy, show (j + 1) * 20 + i - 20 = j * 20 + i by omega]
      exact ih (fun z hz => h z (by simp [hz])) j (by simpa using hj) i u hu
theorem OwnH.at_ {B : Nat} {w : World} {v : Value} {l : List Hsh} (h : OwnH B w v l) : hashesLay.At w w.heap.size [v] l := by
  rcases owned_formN h.1 with ⟨rfl, h0, _⟩ | ⟨g, cap, cur, rfl, h1, h2, h3, hb, h4, h5, hlt⟩
  · exact ⟨none, 0, by rw [h0], by omega, Nat.zero_le _, fun _ => rfl, fun h => by omega⟩
  · refine ⟨_, cap, rfl, h2, h3, (fun h => by cases h), fun _ => ⟨g, 0, rfl, hlt, fun j x hj => ⟨bv x, fun i u hu => ?_, rfl, h.2 x (List.mem_of_getElem? hj)⟩⟩⟩
    have hj2 := (List.getElem?_eq_some_iff.1 hj).1
    have hi := (List.getElem?_eq_some_iff.1 hu).1
    rw [bvL, h.2 x (List.mem_of_getElem? hj)] at hi
    have h6 := bv_at l h.2 j x hj i u hu
    rw [← h5, List.getElem?_take_of_lt (by omega)] at h6
    show w.cell? ⟨g, 0 + j * 20 + i, none⟩ = some u
    rw [Nat.zero_add, hb.cell, ← Array.getElem?_toList]
    exact h6
theorem below_at {α : Type} {L : Lay α} {w w' : World} {B : Nat} {cs : List Value} {x : α} (h : L.At w B cs x) (hb : Below w.heap.size w w') (hB : B ≤ w.heap.size) : L.At w' B cs x := L.alike h fun k hk => hb.block k (by omega)
set_option maxHeartbeats 1000000 in
theorem indexH_any (l : List Hsh) (hl : l.length ≤ 1000000) (h : Hsh) (hh : okH h) (v : Value) (w : World) (hv : hashesLay.At w w.heap.size [v] l) :
    Calls Try.prog 168 #[v, .agg (bv h).toArray] w fun e w' => ∃ i : Int, e = .returned (.int .i64 i) ∧ (0 ≤ i ↔ hasH l h = true) ∧ (-1 ≤ i ∧ i ≤ 1000000) ∧ Below w.heap.size w w' := by
  obtain ⟨A, cap, rfl, hcap, hmx, hnil, hA⟩ := slice_open hv
  clear hv
  obtain ⟨w1, hw1⟩ : ∃ w1, w1 = w.alloc (.cells (bv h).toArray 23) := ⟨_, rfl⟩
  have hb1 : Below w.heap.size w w1 := by rw [hw1]; exact (Below.refl _ w).alloc (Nat.le_refl _) _
  have hh1 : Blk w1 w.heap.size 23 (bv h).toArray := by rw [hw1]; exact Blk.new _ _ _
  have hs1 : w1.heap.size = w.heap.size + 1 := by rw [hw1, size_alloc]
  have HA := hide hA
  have H1 := hide (And.intro hh1 hb1)
  clear hA hh1 hb1 hnil hmx
  go_enter Try.func168, Try.ntmps168
  go_wp2_with fail
  rw [← hw1]
  have HW := hide hs1
  clear hw1 hs1
  go_loopw [8] (fun x wr => ∃ k : Nat, k ≤ l.length ∧ x = .int .i64 (k : Int) ∧ (∀ j y, j < k → l[j]? = some y → y ≠ h) ∧ Blk wr w.heap.size 23 (bv h).toArray ∧ Below w.heap.size w wr) (fun x _ => l.length - (intOf x).toNat)
  case atStart => exact ⟨0, by omega, rfl, fun j y hj => by omega, H1.out.1, H1.out.2⟩
  case round =>
    obtain ⟨k, hk, rfl, hno, hbk, hbw⟩ := hrel
    have HB := hide (And.intro hbk hbw)
    have HN := hide hno
    clear hbk hbw hno H1
    have k0 : (0 : Int) ≤ (k : Int) := by omega
    have k9 : (l.length : Int) ≤ 1000000 := by omega
    by_cases hk2 : k < l.length
    · have k1 : (k : Int) < (l.length : Int) := by omega
      obtain ⟨x, hx⟩ : ∃ x, l[k]? = some x := ⟨_, List.getElem?_eq_getElem hk2⟩
      obtain ⟨b, off, rfl, hlt, hE⟩ := HA.out (by omega)
      obtain ⟨cs, hr, hat⟩ := hE k x hx
      obtain ⟨rfl, hx20⟩ := hashLay_at.1 hat
      have HX := hide (And.intro (rangeAt_alike hr (fun j hj => HB.out.2.block j hj) hlt) hx20)
      have HEQ := hide (show ∀ w : World, (Op.equalIn 10000 23 (.agg (bv h).toArray) (.agg (bv x).toArray)).run Try.prog w = .ok (decide (h = x)) w from fun w => eq_hash h x hh hx20 w)
      clear hE hr hat
      go_wp2_with fail
      refine Fre.wp_made (X := Blw) 5 [] (by kernel_rfl) (by kernel_rfl) (by simp) (by simp) (by simp) ?_
      simp only [List.take_succ_cons, List.take_zero, List.drop_succ_cons, List.drop_zero]
      refine Fre.made_val (.agg (bv h).toArray) (by kernel_rfl) (by kernel_rfl) (by kernel_rfl) (fun W9 hW9 => exec_load_blk (o := ⟨some 11, _, _, _, _, _⟩) 23 (.tmp 3) rfl w.heap.size rfl 23 _ _ W9 (HB.out.1.below (blw hW9) HB.out.1.lt) Try.underlying23 rfl (hsz hh)) ?_
      simp only [Act.put, List.setIfInBounds_toArray, List.set_cons_zero, List.set_cons_succ]
      refine Fre.made_val (.slice (some ⟨b, off, none⟩) l.length cap) (by kernel_rfl) (by kernel_rfl) (by kernel_rfl) (fun _ _ => by kernel_rfl) ?_
      simp only [Act.put, List.setIfInBounds_toArray, List.set_cons_zero, List.set_cons_succ]
      refine Fre.made_val (.int .i64 (k : Int)) (by kernel_rfl) (by kernel_rfl) (by kernel_rfl) (fun _ _ => by kernel_rfl) ?_
      simp only [Act.put, List.setIfInBounds_toArray, List.set_cons_zero, List.set_cons_succ]
      refine Fre.made_val (.pointer (some ⟨b, off + (k : Int).toNat * 20, none⟩)) (by kernel_rfl) (by kernel_rfl) (by kernel_rfl) (fun W9 _ => exec_index_off (o := ⟨some 14, _, _, _, _, _⟩) 25 23 (.tmp 12) (.tmp 13) rfl b off l.length cap (k : Int) .i64 rfl rfl ⟨k0, k1⟩ 20 Try.underlying25 sz_hash W9) ?_
      simp only [Act.put, List.setIfInBounds_toArray, List.set_cons_zero, List.set_cons_succ]
      rw [show off + (k : Int).toNat * 20 = off + k * 20 by omega]
      refine Fre.made_val (.agg (bv x).toArray) (by kernel_rfl) (by kernel_rfl) (by kernel_rfl) (fun W9 hW9 => exec_load_mid (o := ⟨some 15, _, _, _, _, _⟩) 23 (.tmp 14) rfl b (off + k * 20) rfl (bv x) _ W9 (rangeAt_alike HX.out.1 (fun j hj => (blw hW9).block j (by have := HB.out.2.size; omega)) hlt) Try.underlying23 rfl (by have := hsz HX.out.2; simpa using this)) ?_
      simp only [Act.put, List.setIfInBounds_toArray, List.set_cons_zero, List.set_cons_succ]
      show ∀ w', _ → _
      intro w2 hb2
      simp only [Fre.ended]
      have hb2 : Below wr.heap.size wr w2 := hb2
      have H2 := hide (And.intro (HB.out.1.below hb2 HB.out.1.lt) (HB.out.2.trans (Below.mono hb2 HB.out.2.size)))
      clear hb2
      have hq := HEQ.out
      cases hd : decide (h = x) with
      | true =>
        rw [hd] at hq
        have hxe := of_decide_eq_true hd
        have HD := hide hxe
        clear hd hxe
        go_wp2_with fail
        go_ret
        refine ⟨k, rfl, ⟨fun _ => ?_, fun _ => k0⟩, by omega, H2.out.2⟩
        unfold hasH
        rw [List.any_eq_true]
        exact ⟨x, List.mem_of_getElem? hx, by simp [HD.out]⟩
      | false =>
        rw [hd] at hq
        have hxe := of_decide_eq_false hd
        have HD := hide hxe
        clear hd hxe
        go_wp2_with fail
        go_roundw
        case rel =>
          refine ⟨k + 1, by omega, by go_num, fun j y hj hy e => ?_, H2.out.1, H2.out.2⟩
          rcases Nat.lt_or_ge j k with h1 | h1
          · exact HN.out j y h1 hy e
          · obtain rfl : j = k := by omega
            rw [hx] at hy
            injection hy with hy
            exact HD.out (by rw [hy, e])
        case measure => simp [intOf]; omega
    · obtain rfl : k = l.length := by omega
      go_wp2_with fail
      go_ret
      refine ⟨-1, rfl, ⟨fun h => by omega, fun hm => ?_⟩, by omega, HB.out.2⟩
      unfold hasH at hm
      rw [List.any_eq_true] at hm
      obtain ⟨y, hy, e⟩ := hm
      obtain ⟨j, hj⟩ := List.getElem?_of_mem hy
      exact absurd (by simpa using e) (HN.out j y (List.getElem?_eq_some_iff.1 hj).1 hj)
set_option maxHeartbeats 1000000 in
theorem containsH_any (l : List Hsh) (hl : l.length ≤ 1000000) (h : Hsh) (hh : okH h) (v : Value) (w : World) (hv : hashesLay.At w w.heap.size [v] l) :
    Calls Try.prog 138 #[v, .agg (bv h).toArray] w fun e w' => e = .returned (.bool (hasH l h)) ∧ Below w.heap.size w w' := by
  obtain ⟨w1, hw1⟩ : ∃ w1, w1 = w.alloc (.cells (bv h).toArray 23) := ⟨_, rfl⟩
  have hb1 : Below w.heap.size w w1 := by rw [hw1]; exact (Below.refl _ w).alloc (Nat.le_refl _) _
  have hh1 : Blk w1 w.heap.size 23 (bv h).toArray := by rw [hw1]; exact Blk.new _ _ _
  have hv1 : hashesLay.At w1 w1.heap.size [v] l := hashesLay.widen (below_at hv hb1 (Nat.le_refl _)) hb1.size
  have H1 := hide (And.intro hv1 hb1)
  clear hv hv1 hb1
  go_enter Try.func138, Try.ntmps138
  go_wp2_with (refine wpList_value (o := ⟨some 6, _, _, _, _, _⟩) rfl (.agg (bv h).toArray) (w.alloc (.cells (bv h).toArray 23)) (exec_load_blk (o := ⟨some 6, _, _, _, _, _⟩) 23 (.tmp 3) rfl w.heap.size rfl 23 _ _ _ (by rw [← hw1]; exact hh1) Try.underlying23 rfl (hsz hh)) ?_)
  rw [← hw1]
  clear hw1 hh1
  refine (indexH_any l hl h hh v w1 H1.out.1).mono ?_
  rintro e w2 ⟨i, rfl, hi, hi2, hb2⟩
  have H2 := hide (And.intro hi (H1.out.2.trans (Below.mono hb2 H1.out.2.size)))
  clear hb2 hi
  dsimp only
  by_cases h0 : 0 ≤ i
  · go_wp2_with fail
    go_ret
    exact ⟨by rw [H2.out.1.1 h0]; rfl, H2.out.2⟩
  · have : hasH l h = false := by
      cases hq : hasH l h with
      | true => exact absurd (H2.out.1.2 hq) h0
      | false => rfl
    go_wp2_with fail
    go_ret
    exact ⟨rfl, H2.out.2⟩
end Go.Proofs.Ytfppddnfdinipaa
