/- spencelaw01.none, spencelaw01.long are true. -/
import Derived.Test.YtjmenaplgndnnaaCendA
namespace Go.Proofs.Ytjmenaplgndnnaa
open Go Go.RowKit
set_option maxRecDepth 100000 in
set_option maxHeartbeats 1000000 in
theorem none_any (w : World) : Calls Try.prog 25 #[] w fun e w' => e = .returned (.bool true) ∧ Below w.heap.size w w' := by
  go_enter Try.func25, Try.ntmps25
  go_wp2_with fail
  refine (mnum_nil _ _ _ _).mono ?_
  rintro e w' ⟨rfl, rfl⟩
  dsimp only
  go_wp2_with fail
  refine (mraw_nil _ _ _ _).mono ?_
  rintro e w' ⟨rfl, rfl⟩
  dsimp only
  go_wp2_with fail
  obtain ⟨w1, hw1⟩ : ∃ w1, w1 = ((w.alloc (.cells #[.int .i64 1] 3)).alloc (.cells #[.int .u8 1] 5)).alloc (.cells #[.int .u8 1] 5) := ⟨_, rfl⟩
  have hb1 : Below w.heap.size w w1 := by
    rw [hw1]
    exact (((Below.refl _ _).alloc (Nat.le_refl _) _).alloc (by rw [size_alloc]; omega) _).alloc (by rw [size_alloc, size_alloc]; omega) _
  have hs1 : w1.heap.size = w.heap.size + 1 + 1 + 1 := by rw [hw1]; simp only [size_alloc]
  rw [← hw1]
  have hc := (Blk.new w1 26 #[.slice (some ⟨w.heap.size + 1 + 1, 0, none⟩) 1 1]).cell 0
  rw [hs1] at hc
  have H1 := hide (And.intro hb1 hs1)
  clear hw1 hs1 hb1
  refine (mtext_nil _ _ _ hc).mono ?_
  rintro e w2 ⟨rfl, rfl⟩
  clear hc
  dsimp only
  go_wp2_with (first
    | (go_at_call 17; refine (done_nil _).mono ?_; rintro e w' ⟨rfl, rfl⟩)
    | (go_at_call 39; refine (cnum_nil _ _).mono ?_; rintro e w' ⟨rfl, rfl⟩)
    | (go_at_call 48; refine (craw_nil _ _).mono ?_; rintro e w' ⟨rfl, rfl⟩)
    | (go_at_call 51; refine (ctext_nil _ _).mono ?_; rintro e w' ⟨rfl, rfl⟩)
    | (go_at_call 53; refine (cleft_nil _).mono ?_; rintro e w' ⟨rfl, rfl⟩)
    | (go_at_call 40; refine (cend_nil _).mono ?_; rintro e w' ⟨rfl, rfl⟩))
  go_ret
  exact ⟨rfl, H1.out.1.alloc H1.out.1.size _⟩
theorem len_num20 : (num 1048576).length = 3 := by rw [num_hi (by omega), num_hi (by omega), num_lo (by omega)]; rfl
set_option maxRecDepth 100000 in
set_option maxHeartbeats 1000000 in
theorem long_any (w : World) : Calls Try.prog 24 #[] w fun e w' => e = .returned (.bool true) ∧ Below w.heap.size w w' := by
  obtain ⟨i, hi, hz0, hz1, hz2⟩ := info_parts info_u8
  obtain ⟨R, hR⟩ : ∃ R, R = w.heap.size := ⟨_, rfl⟩
  have HR := hide hR
  obtain ⟨w0, hw0⟩ : ∃ w0, w0 = (w.alloc (.cells #[.slice none 0 0, .bool false] 30)).alloc (.cells #[.slice none 0 0, .bool false] 30) := ⟨_, rfl⟩
  have m1 : MkAt w0 R R 30 [] false (.slice none 0 0) := ⟨by rw [hw0, hR]; exact (Blk.new _ _ _).alloc _, rfl, .inl ⟨rfl, rfl⟩⟩
  have m2 : MkAt w0 R (R + 1) 30 [] false (.slice none 0 0) := ⟨by rw [hw0, hR]; exact Blk.new1 _ _ _ _, rfl, .inl ⟨rfl, rfl⟩⟩
  have hb0 : Below R w w0 := by rw [hw0, hR]; exact ((Below.refl _ _).alloc (Nat.le_refl _) _).alloc (by rw [size_alloc]; omega) _
  have H0 := hide (And.intro m1 (And.intro m2 hb0))
  have HW := hide hw0
  clear m1 m2 hb0 hw0 hR
  go_enter Try.func24, Try.ntmps24
  go_wp2_with (at_make; refine wpList_make_row _ rfl _ _ 26 rfl 5 i (.int .u8 0) Try.underlying26 hi hz0 hz1 rfl _ _ 1048576 rfl rfl ?e0 ?e1 ?_)
  case e0 => rw [hz2]; omega
  case e1 => omega
  have hs0 : w0.heap.size = R + 1 + 1 := by rw [HW.out, HR.out]; simp only [size_alloc]
  rw [← HW.out, ← HR.out]
  obtain ⟨u, hu⟩ : ∃ u, u = List.replicate 1048576 (0 : UInt8) := ⟨_, rfl⟩
  have hul : u.length = 1048576 := by rw [hu, List.length_replicate]
  obtain ⟨w1, hw1⟩ : ∃ w1, w1 = w0.alloc (.cells (madeCells #[.int .u8 0] 1048576) 5) := ⟨_, rfl⟩
  have hbu : Blk w1 (R + 1 + 1) 5 (bv u).toArray := by rw [hw1, ← hs0, hu, ← made_bv]; exact Blk.new _ _ _
  have hb1 : Below w0.heap.size w0 w1 := by rw [hw1]; exact (Below.refl _ _).alloc (Nat.le_refl _) _
  have hs1 : w1.heap.size = R + 1 + 1 + 1 := by rw [hw1, size_alloc, hs0]
  rw [← hw1]
  have hal1 : Below w1.heap.size w1 (w1.alloc (.cells #[.slice (some ⟨R + 1 + 1, 0, none⟩) 1048576 1048576] 26)) := (Below.refl _ _).alloc (Nat.le_refl _) _
  have hb01 := hb1.trans (hal1.mono hb1.size)
  have m1 := H0.out.1.keeps (w2 := w1.alloc (.cells #[.slice (some ⟨R + 1 + 1, 0, none⟩) 1048576 1048576] 26)) (hb01.block R H0.out.1.blk.lt) (fun q hq hlt => hb01.block q hlt)
  have m2 := H0.out.2.1.keeps (w2 := w1.alloc (.cells #[.slice (some ⟨R + 1 + 1, 0, none⟩) 1048576 1048576] 26)) (hb01.block (R + 1) H0.out.2.1.blk.lt) (fun q hq hlt => hb01.block q hlt)
  have hcell := (Blk.new w1 26 #[.slice (some ⟨R + 1 + 1, 0, none⟩) 1048576 1048576]).cell 0
  rw [hs1] at hcell
  have hcall := mtext_any u (by omega) (some ⟨R + 1 + 1, 0, none⟩) 1048576 [] (by simp) false R R 30 (by decide) (.slice none 0 0) (R + 1 + 1 + 1) _ (by rw [size_alloc]; omega) m1 (by rw [hul]; exact hcell) (by have h := src_blk (hbu.alloc (.cells #[.slice (some ⟨R + 1 + 1, 0, none⟩) 1048576 1048576] 26)) hul; rwa [← hul] at h ⊢) (fun ad had _ hS => by
    injection had with had
    subst had
    rcases hS with h | h
    · have h : R + 1 + 1 = R := h
      omega
    · cases h)
  have hmk : mkText [] false u = ([] ++ num 1048576 ++ u, false) := by rw [mkText, if_pos (by omega), if_neg (by simp), hul]
  rw [hmk] at hcall
  obtain ⟨L, hL⟩ : ∃ L, L = [] ++ num 1048576 ++ u := ⟨_, rfl⟩
  have hLl : L.length = 1048579 := by rw [hL, List.nil_append, List.length_append, len_num20, hul]
  rw [← hL] at hcall
  have H1 := hide (And.intro m2 (H0.out.2.2.trans (hb01.mono (by omega))))
  have HC := hide hcall
  clear hu hw1 hbu hal1 hb01 m1 m2 hcell hcall hmk hL hb1
  refine HC.out.mono ?_
  rintro e w2 ⟨rfl, v2, hm2, ht2, hmv2⟩
  have hs2 := ht2.size
  have hr2 := H1.out.1.keeps (w2 := w2) (ht2.block _ H1.out.1.blk.lt (fun h => by
    rcases h with h | h
    · omega
    · cases h)) (fun q hq _ => by cases hq)
  have hb2 : Below R w w2 := H1.out.2.trans (ht2.below (by rw [size_alloc]; omega) (fun k hk => by
    rcases hk with h | h
    · omega
    · cases h))
  have H2 := hide (And.intro hm2 (And.intro hr2 hb2))
  clear hm2 ht2 hmv2 hr2 hb2 H1
  dsimp only
  go_wp2_with fail
  refine (done_ok L (by omega) R R 30 v2 w2 H2.out.1).mono ?_
  rintro e w3 ⟨v3, rfl, own3, hb3⟩
  rw [hLl] at own3
  obtain ⟨A3, k3, rfl⟩ := owned_slice own3
  have hs3 := hb3.size
  have hr3 := H2.out.2.1.keeps (w2 := w3) (hb3.block _ H2.out.2.1.blk.lt) (fun q hq _ => by cases hq)
  have H3 := hide (And.intro hr3 (H2.out.2.2.trans (hb3.mono (by rw [size_alloc] at hs2; omega))))
  clear own3 hb3 hr3 H2 H0
  dsimp only
  go_wp2_with (at_make; refine wpList_make_row _ rfl _ _ 26 rfl 5 i (.int .u8 0) Try.underlying26 hi hz0 hz1 rfl _ _ 1048577 rfl rfl ?f0 ?f1 ?_)
  case f0 => rw [hz2]; omega
  case f1 => omega
  obtain ⟨w4, hw4⟩ : ∃ w4, w4 = w3.alloc (.cells (madeCells #[.int .u8 0] 1048577) 5) := ⟨_, rfl⟩
  obtain ⟨u4, hu4⟩ : ∃ u, u = List.replicate 1048577 (0 : UInt8) := ⟨_, rfl⟩
  have hul4 : u4.length = 1048577 := by rw [hu4, List.length_replicate]
  have hbu4 : Blk w4 w3.heap.size 5 (bv u4).toArray := by rw [hw4, hu4, ← made_bv]; exact Blk.new _ _ _
  have hb4 : Below w3.heap.size w3 w4 := by rw [hw4]; exact (Below.refl _ _).alloc (Nat.le_refl _) _
  have hs4 : w4.heap.size = w3.heap.size + 1 := by rw [hw4, size_alloc]
  rw [← hw4]
  clear hw4 hu4
  go_wp2_with fail
  have hal4 : Below w4.heap.size w4 (w4.alloc (.cells #[.slice (some ⟨w3.heap.size, 0, none⟩) 1048577 1048577] 26)) := (Below.refl _ _).alloc (Nat.le_refl _) _
  have hb34 := hb4.trans (hal4.mono hb4.size)
  have m4 := H3.out.1.keeps (w2 := w4.alloc (.cells #[.slice (some ⟨w3.heap.size, 0, none⟩) 1048577 1048577] 26)) (hb34.block _ H3.out.1.blk.lt) (fun q hq _ => by cases hq)
  have hcell := (Blk.new w4 26 #[.slice (some ⟨w3.heap.size, 0, none⟩) 1048577 1048577]).cell 0
  rw [hs4] at hcell
  have hRw3 : R + 1 < w3.heap.size := H3.out.1.blk.lt
  have hcall := mtext_any u4 (by omega) (some ⟨w3.heap.size, 0, none⟩) 1048577 [] (by simp) false R (R + 1) 30 (by decide) (.slice none 0 0) (w3.heap.size + 1) _ (by rw [size_alloc]; omega) m4 (by rw [hul4]; exact hcell) (by have h := src_blk (hbu4.alloc (.cells #[.slice (some ⟨w3.heap.size, 0, none⟩) 1048577 1048577] 26)) hul4; rwa [← hul4] at h ⊢) (fun ad had _ hS => by
    injection had with had
    subst had
    rcases hS with h | h
    · have h : w3.heap.size = R + 1 := h
      omega
    · cases h)
  have hmk : mkText [] false u4 = ([], true) := by rw [mkText, if_neg (by omega)]
  rw [hmk] at hcall
  have H4 := hide (And.intro (H3.out.2.trans (hb34.mono (by omega))) (show w3.heap.size ≤ w4.heap.size by omega))
  have HC4 := hide hcall
  clear hbu4 hal4 hb34 m4 hcell hcall hmk hb4
  refine HC4.out.mono ?_
  rintro e w5 ⟨rfl, v5, hm5, ht5, hmv5⟩
  have hs5 := ht5.size
  have hb5 : Below R w w5 := H4.out.1.trans (ht5.below (by rw [size_alloc]; omega) (fun k hk => by
    rcases hk with h | h
    · omega
    · cases h))
  have hal5 : Below w5.heap.size w5 (w5.alloc (.cells #[.int .i64 1] 3)) := (Below.refl _ _).alloc (Nat.le_refl _) _
  have m5 := hm5.keeps (w2 := w5.alloc (.cells #[.int .i64 1] 3)) (hal5.block _ hm5.blk.lt) (fun q _ hlt => hal5.block q hlt)
  have hcall5 := mnum_any 1 (by omega) [] (by simp) true R (R + 1) 30 (by decide) v5 w5.heap.size _ (by have := hm5.blk.lt; rw [size_alloc]; omega) m5 ((Blk.new w5 3 #[.int .i64 1]).cell 0)
  have hmk5 : mkNum [] true 1 = ([], true) := by rw [mkNum, if_pos (by omega), if_pos rfl]
  rw [hmk5] at hcall5
  have hR5 : R ≤ w5.heap.size := by have := hm5.blk.lt; omega
  have hlt5 := fun q (hq : v5.ownBlock = some q) => (owned_lt hm5.own hq).1
  have H5 := hide (And.intro (hb5.trans (hal5.mono hR5)) hlt5)
  have HC5 := hide hcall5
  clear hm5 ht5 hmv5 hb5 hal5 m5 hcall5 hmk5 hlt5 H4 H3
  dsimp only
  go_wp2_with fail
  refine HC5.out.mono ?_
  rintro e w6 ⟨rfl, v6, hm6, ht6, hmv6⟩
  have hb6 : Below R w w6 := H5.out.1.trans (ht6.below (by rw [size_alloc]; omega) (fun k hk => by
    rcases hk with h | h
    · omega
    · exact H5.out.2 k h))
  have H6 := hide (And.intro hm6 hb6)
  clear hm6 ht6 hmv6 hb6
  dsimp only
  go_wp2_with (go_at_call 17; refine (done_bad [] R (R + 1) 30 v6 w6 H6.out.1).mono ?_; rintro e w' ⟨rfl, rfl⟩)
  go_ret
  have hb := H6.out.2
  rw [HR.out] at hb
  exact ⟨rfl, hb⟩
end Go.Proofs.Ytjmenaplgndnnaa
