/- spencelaw04: great, full; what settles of a sector. -/
import Derived.Test.YtajeohmmobgcjaaDevL
import Derived.Test.YtajeohmmobgcjaaDeedsM
namespace Go.Proofs.Ytajeohmmobgcjaa
open Go Go.RowKit
def greatB (s : Int) (ls : List Deed) : Bool := decide (150 < ls.length) || decide (10000 < many (ls.take 150)) || (decide (60 < s) && decide (s ≤ 8192))
theorem great_no {s : Int} {ls : List Deed} (h : greatB s ls = false) : ls.length ≤ 150 ∧ many ls ≤ 10000 ∧ (s ≤ 60 ∨ 8192 < s) := by
  simp only [greatB, Bool.or_eq_false_iff, decide_eq_false_iff_not, Bool.and_eq_false_iff] at h
  obtain ⟨⟨h1, h2⟩, h3⟩ := h
  have h4 : ls.take 150 = ls := List.take_of_length_le (by omega)
  rw [h4] at h2
  exact ⟨by omega, by omega, by omega⟩
set_option maxRecDepth 100000 in
set_option maxHeartbeats 1000000 in
theorem great_any (s : Int) (ls : List Deed) (hl : ls.length ≤ 140737488355328) (hb : ∀ p ∈ ls, p.b.length ≤ 140737488355328) (v : Value) (B : Nat) (w : World) (hv : DeedsM w B v ls) :
    Calls Try.prog 25 #[.int .i64 s, v] w fun e w' => e = .returned (.bool (greatB s ls)) ∧ w' = w := by
  obtain ⟨A, cap, rfl, hcap, hA⟩ := hv
  have HA := hide hA
  have HB := hide hb
  clear hA hb
  go_enter Try.func25, Try.ntmps25
  go_wp2_with fail
  go_loop [5, 6] (fun n i => ∃ k r : Nat, k ≤ ls.length ∧ k ≤ 150 ∧ i = .int .i64 (k : Int) ∧ n = .int .i64 (r : Int) ∧ r = many (ls.take k) ∧ r ≤ k * 140737488355328) (fun _ i => 150 - (intOf i).toNat)
  case atStart => exact ⟨0, 0, by omega, by omega, rfl, rfl, by simp [many], by omega⟩
  case round =>
    obtain ⟨k, r, hk, hk2, rfl, rfl, hr, hr2⟩ := hrel
    have HR := hide hr
    clear hr
    by_cases hlt : k < ls.length
    · by_cases hm : k < 150
      · obtain ⟨b, off, rfl, _, hp⟩ := HA.out (by omega)
        obtain ⟨A', c', c3, _, _⟩ := (hp k hlt).c3
        obtain ⟨n, hn⟩ : ∃ n, n = (ls.getD k ⟨0, 0, 0, []⟩).b.length := ⟨_, rfl⟩
        rw [← hn] at c3
        have hn2 : n ≤ 140737488355328 := by rw [hn]; exact HB.out _ (by simp [List.getD, hlt])
        have HN := hide hn
        have i1 : (0 : Int) ≤ (k : Int) := by omega
        have i2 : (k : Int) < (ls.length : Int) := by omega
        have i3 : (k : Int) < 150 := by omega
        clear hp hn
        go_wp2_with fail
        go_round
        case rel => exact ⟨k + 1, r + n, by omega, by omega, by go_num, by go_num, by rw [many_take ls k hlt, ← HN.out, HR.out], by omega⟩
        case measure => simp [intOf]; omega
      · obtain rfl : k = 150 := by omega
        have i2 : (150 : Int) < (ls.length : Int) := by omega
        have hg : greatB s ls = true := by simp [greatB, hlt]
        have HG := hide hg
        clear hg
        go_wp2_with fail
        go_ret
        rw [HG.out]
        exact ⟨ret_bool (by simp), rfl⟩
    · obtain rfl : k = ls.length := by omega
      have i2 : ¬ (150 : Int) < (ls.length : Int) := by omega
      have hr3 := HR.out
      rw [List.take_of_length_le (Nat.le_refl _)] at hr3
      have hg : greatB s ls = (decide (10000 < r) || (decide (60 < s) && decide (s ≤ 8192))) := by
        rw [greatB, List.take_of_length_le hk2, ← hr3, decide_eq_false (by omega), Bool.false_or]
      have HG := hide hg
      clear hr3 hg
      go_wp2_with fail
      all_goals go_ret
      all_goals rw [HG.out]
      all_goals refine ⟨ret_bool ?_, rfl⟩
      all_goals rw [Bool.eq_iff_iff]
      all_goals simp only [Bool.or_eq_true, Bool.and_eq_true, decide_eq_true_eq, true_iff]
      all_goals omega
theorem own_blk {w : World} {base g n : Nat} {e : TypeId} {xs : List Value} (h : w.ownsRow base e 1 (.slice (some ⟨g, 0, none⟩) n n) n xs) : Blk w g e xs.toArray ∧ base ≤ g := by
  rcases owned_formN h with ⟨h, _⟩ | ⟨g', cap', cur, h', hb, hn, hc, hh, hs, ht, _⟩
  · cases h
  · injection h' with e1 e2 e3
    injection e1 with e1
    injection e1 with e1
    subst e1 e3
    rw [List.take_of_length_le (by simp; omega)] at ht
    rw [← ht]
    exact ⟨hh, hb⟩
theorem blk_own {w : World} {base g n : Nat} {e : TypeId} {xs : List Value} (h : Blk w g e xs.toArray) (hb : base ≤ g) (hl : xs.length = n) (hm : n ≤ maxLen) : w.ownsRow base e 1 (.slice (some ⟨g, 0, none⟩) n n) n xs :=
  ⟨by omega, .inr ⟨g, n, _, rfl, hb, h, Nat.le_refl _, hm, by simp [hl], by simp [← hl]⟩⟩
theorem pad_copy (l : List UInt8) : ((bv (List.replicate 64 0)).toArray.toList.take 0 ++ (bv l ++ (bv (List.replicate 64 0)).toArray.toList.drop (0 + (bv l).length))).toArray = (bv (pad l)).toArray := by
  have h1 : (bv l).length = l.length := bvL l
  rw [h1, Nat.zero_add, List.take_zero, List.nil_append, pad, bvA]
  congr 2
  unfold bv
  rw [← List.map_drop, List.drop_replicate]
set_option maxRecDepth 100000 in
set_option maxHeartbeats 400000 in
theorem full_any (l : List UInt8) (hl : l.length ≤ 64) (A : Option Addr) (cap : Nat) (w : World) (hs : Src w A l.length cap (bv l)) : Calls Try.prog 34 #[.slice A l.length cap] w fun e w' => ∃ v, e = .returned v ∧ w'.ownsRow w.heap.size 5 1 v 64 (bv (pad l)) ∧ Below w.heap.size w w' := by
  obtain ⟨i, hi, hz0, hz1, hz2⟩ := info_parts info_1
  have HS := hide hs
  clear hs
  go_enter Try.func34, Try.ntmps34
  go_wp2_with (at_make; refine wpList_make_full _ rfl _ _ 48 rfl w.heap.size 5 i (.int .u8 0) 1 Try.underlying48 hi hz0 hz1 _ _ _ _ 64 rfl rfl ?e0 ?e1 ?e2 ?e3 ?e4 ?_)
  case e0 => rfl
  case e1 => rfl
  case e2 => rw [hz2]; omega
  case e3 => simp only [maxLen]; omega
  case e4 => exact Nat.le_refl _
  intro w1 own1 gr1
  rw [made_bv] at own1
  have own1 : w1.ownsRow w.heap.size 5 1 (.slice (some ⟨w.heap.size, 0, none⟩) 64 64) 64 (bv (List.replicate 64 0)) := own1
  have hb1 := (own_blk own1).1
  have hB1 : Below w.heap.size w w1 := (Below.refl _ _).grown gr1 (Nat.le_refl _) (by intro k hk; cases hk)
  have hs1 : Src w1 A l.length cap (bv l) := HS.out.turned2 (Turned.of_below hB1 (fun _ => False)) (fun _ _ _ h => h)
  have HL : Hid ((bv l).length = Nat.min l.length 64) := hide (by rw [bvL]; exact (Nat.min_eq_left hl).symm)
  have HF : Hid (0 + (bv l).length ≤ (bv (List.replicate 64 0)).toArray.size) := hide (by rw [bvL]; simp [bv]; omega)
  have H1 := hide (And.intro hb1 (And.intro hB1 hs1))
  clear hb1 hB1 hs1 own1 gr1
  go_wp2_with (first
    | ((with_reducible refine wpList_copyS (o := ⟨some 7, _, _, _, _, _⟩) rfl (.tmp 5) (.tmp 6) 48 48 rfl 5 Try.underlying48 size5 w.heap.size 0 64 64 A l.length cap (bv (List.replicate 64 0)).toArray 5 H1.out.1 (bv l) HL.out H1.out.2.2 HF.out ?_ ?_ ?_); rfl; rfl; intro w3 h3 hg3; have H4 := hide (And.intro h3 hg3); clear h3 hg3; dsimp only [Act.put, List.setIfInBounds_toArray, List.set_cons_zero, List.set_cons_succ]))
  go_ret
  have h4 := H4.out
  rw [pad_copy l] at h4
  refine ⟨_, rfl, blk_own h4.1 (Nat.le_refl _) (by rw [bvL, pad_len l hl]) (by simp only [maxLen]; omega), H1.out.2.1.grown h4.2 H1.out.2.1.size (fun k hk => by injection hk with hk; omega)⟩
end Go.Proofs.Ytajeohmmobgcjaa
