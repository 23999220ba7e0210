/- spencelaw24.among, spenceref24.has, spencekit.SameInts. package pick: the plain law: the first choice without conflict, whatever the fuel. -/
import Derived.Test.YtfppddnfdinipaaMX1
import Derived.Test.YtfppddnfdinipaaPickLaw
section
namespace Go.Proofs.Ytfppddnfdinipaa
open Go Go.RowKit Go.Maps
set_option maxRecDepth 100000
theorem hasK_next {ps : List Pth} {k : Nat} {q p : Pth} (h : ps[k]? = some q) : hasK (ps.take (k + 1)) p = (hasK (ps.take k) p || decide (q = p)) := by
  unfold hasK
  rw [List.take_add_one, h, List.any_append]
  simp
set_option maxHeartbeats 1000000 in
theorem among_any (ps : List Pth) (hl : ps.length ≤ 1000000) (p : Pth) (hp : okP p) (v : Value) (w : World) (hv : pathsLay.At w w.heap.size [v] ps) :
    Calls Try.prog 58 #[v, .agg (pC p).toArray] w fun e w' => e = .returned (.bool (hasK ps p)) ∧ Below w.heap.size w w' := by
  obtain ⟨A, cap, rfl, _, _, _, hA⟩ := slice_open hv
  clear hv
  obtain ⟨w1, hw1⟩ : ∃ w1, w1 = w.alloc (.cells (pC p).toArray 53) := ⟨_, rfl⟩
  have hb1 : Below w.heap.size w w1 := by rw [hw1]; exact (Below.refl _ w).alloc (Nat.le_refl _) _
  have hk1 : Blk w1 w.heap.size 53 (pC p).toArray := by rw [hw1]; exact Blk.new _ _ _
  have H1 := hide (And.intro hb1 (And.intro hk1 hA))
  clear hb1 hk1 hA
  go_enter Try.func58, Try.ntmps58
  go_wp2_with fail
  rw [← hw1]
  clear hw1
  go_loopw [5] (fun x wr => ∃ k, k ≤ ps.length ∧ x = .int .i64 ((k : Nat) : Int) ∧ Below w1.heap.size w1 wr ∧ hasK (ps.take k) p = false) (fun x _ => ps.length - (intOf x).toNat)
  case atStart => exact ⟨0, by omega, rfl, Below.refl _ _, rfl⟩
  case round =>
    obtain ⟨k, hk, rfl, hbw, hno⟩ := hrel
    have k0 : (0 : Int) ≤ (k : Int) := by omega
    have k9 : (ps.length : Int) ≤ 1000000 := by omega
    by_cases hk2 : k < ps.length
    · have k1 : (k : Int) < (ps.length : Int) := by omega
      obtain ⟨q, hq⟩ : ∃ q, ps[k]? = some q := ⟨_, List.getElem?_eq_getElem hk2⟩
      obtain ⟨b, off, rfl, hlb, hE⟩ := H1.out.2.2 (by omega)
      obtain ⟨cs, hr, hat⟩ := hE k q hq
      obtain ⟨rfl, hqo⟩ := pathLay_at.1 hat
      have hr1 : wr.rangeAt b (off + k * 21) (pC q) := rangeAt_same hr ((hbw.block b (by have := H1.out.1.size; omega)).trans (H1.out.1.block b hlb))
      have hbl : b < wr.heap.size := by have := H1.out.1.size; have := hbw.size; omega
      have hnx := hasK_next (p := p) hq
      rw [hno, Bool.false_or] at hnx
      have H2 := hide (And.intro hr1 (And.intro hbl (And.intro hqo (And.intro (And.intro hnx (And.intro hq hbw)) (H1.out.2.1.below hbw H1.out.2.1.lt)))))
      clear hr1 hbl hnx hq hbw hno hr hat hE
      go_wp2_with fail
      refine Fre.wp_made (X := Blw) 5 [] (by kernel_rfl) (by kernel_rfl) (by simp) (by simp) (by simp) ?_
      simp only [List.take_succ_cons, List.take_zero, List.drop_succ_cons, List.drop_zero]
      refine Fre.made_val (.slice (some ⟨b, off, none⟩) ps.length cap) (by kernel_rfl) (by kernel_rfl) (by kernel_rfl) (fun _ _ => by kernel_rfl) ?_
      simp only [Act.put, List.setIfInBounds_toArray, List.set_cons_zero, List.set_cons_succ]
      refine Fre.made_val (.int .i64 (k : Int)) (by kernel_rfl) (by kernel_rfl) (by kernel_rfl) (fun _ _ => by kernel_rfl) ?_
      simp only [Act.put, List.setIfInBounds_toArray, List.set_cons_zero, List.set_cons_succ]
      refine Fre.made_val (.pointer (some ⟨b, off + (k : Int).toNat * 21, none⟩)) (by kernel_rfl) (by kernel_rfl) (by kernel_rfl) (fun W9 _ => exec_index_off (o := ⟨some 14, _, _, _, _, _⟩) 24 53 (.tmp 12) (.tmp 13) rfl b off ps.length cap (k : Int) .i64 rfl rfl ⟨k0, k1⟩ 21 Try.underlying24 sz_path W9) ?_
      simp only [Act.put, List.setIfInBounds_toArray, List.set_cons_zero, List.set_cons_succ]
      rw [show off + (k : Int).toNat * 21 = off + k * 21 by omega]
      refine Fre.made_val (.agg (pC q).toArray) (by kernel_rfl) (by kernel_rfl) (by kernel_rfl) (fun W9 hW9 => exec_load_mid (o := ⟨some 15, _, _, _, _, _⟩) 53 (.tmp 14) rfl b (off + k * 21) rfl (pC q) _ W9 (rangeAt_same H2.out.1 ((blw hW9).block b H2.out.2.1)) Try.underlying53 rfl (by have := psz H2.out.2.2.1; simpa using this)) ?_
      simp only [Act.put, List.setIfInBounds_toArray, List.set_cons_zero, List.set_cons_succ]
      refine Fre.made_val (.agg (pC p).toArray) (by kernel_rfl) (by kernel_rfl) (by kernel_rfl) (fun W9 hW9 => exec_load_blk (o := ⟨some 16, _, _, _, _, _⟩) 53 (.tmp 3) rfl w.heap.size rfl 53 _ _ W9 ((H2.out.2.2.2.2.below (blw hW9) H2.out.2.2.2.2.lt)) Try.underlying53 rfl (psz hp)) ?_
      simp only [Act.put, List.setIfInBounds_toArray, List.set_cons_zero, List.set_cons_succ]
      show ∀ w', _ → _
      intro w3 hb3
      simp only [Fre.ended]
      have H3 := hide (show Below wr.heap.size wr w3 from hb3)
      clear hb3
      by_cases hqp : q = p
      · have hd : decide (q = p) = true := by simp [hqp]
        go_wp2_with ((refine wpList_value (o := ⟨some 17, _, _, _, _, _⟩) rfl (.bool true) w3 (exec_binop_agg (o := ⟨some 17, _, _, _, _, _⟩) .eql 53 (.tmp 15) (.tmp 16) _ rfl (pC q).toArray (pC p).toArray rfl rfl (by kernel_rfl) _ (fun W => by have := bin_eq_path q p H2.out.2.2.1 hp W; rw [hd] at this; exact this) w3) ?_))
        go_ret
        have e : hasK ps p = true := hasK_mem.2 (by rw [← hqp]; exact List.mem_of_getElem? H2.out.2.2.2.1.2.1)
        rw [e]
        exact ⟨rfl, H1.out.1.trans (Below.mono (H2.out.2.2.2.1.2.2.trans (Below.mono H3.out H2.out.2.2.2.1.2.2.size)) H1.out.1.size)⟩
      · have hd : decide (q = p) = false := by simp [hqp]
        go_wp2_with ((refine wpList_value (o := ⟨some 17, _, _, _, _, _⟩) rfl (.bool false) w3 (exec_binop_agg (o := ⟨some 17, _, _, _, _, _⟩) .eql 53 (.tmp 15) (.tmp 16) _ rfl (pC q).toArray (pC p).toArray rfl rfl (by kernel_rfl) _ (fun W => by have := bin_eq_path q p H2.out.2.2.1 hp W; rw [hd] at this; exact this) w3) ?_))
        go_roundw
        case rel => exact ⟨k + 1, by omega, by go_num, H2.out.2.2.2.1.2.2.trans (Below.mono H3.out H2.out.2.2.2.1.2.2.size), by rw [H2.out.2.2.2.1.1, hd]⟩
        case measure => simp [intOf]; omega
    · obtain rfl : k = ps.length := by omega
      rw [List.take_length] at hno
      have H2 := hide (And.intro hno hbw)
      clear hno hbw
      go_wp2_with fail
      go_ret
      rw [H2.out.1]
      exact ⟨rfl, H1.out.1.trans (Below.mono H2.out.2 H1.out.1.size)⟩
set_option maxHeartbeats 1000000 in
theorem has_any (ps : List Pth) (hl : ps.length ≤ 1000000) (p : Pth) (hp : okP p) (v : Value) (w : World) (hv : pathsLay.At w w.heap.size [v] ps) :
    Calls Try.prog 96 #[v, .agg (pC p).toArray] w fun e w' => e = .returned (.bool (hasK ps p)) ∧ Below w.heap.size w w' := by
  obtain ⟨A, cap, rfl, _, _, _, hA⟩ := slice_open hv
  clear hv
  obtain ⟨w1, hw1⟩ : ∃ w1, w1 = w.alloc (.cells (pC p).toArray 53) := ⟨_, rfl⟩
  have hb1 : Below w.heap.size w w1 := by rw [hw1]; exact (Below.refl _ w).alloc (Nat.le_refl _) _
  have hk1 : Blk w1 w.heap.size 53 (pC p).toArray := by rw [hw1]; exact Blk.new _ _ _
  have H1 := hide (And.intro hb1 (And.intro hk1 hA))
  clear hb1 hk1 hA
  go_enter Try.func96, Try.ntmps96
  go_wp2_with fail
  rw [← hw1]
  clear hw1
  go_loopw [5] (fun x wr => ∃ k, k ≤ ps.length ∧ x = .int .i64 ((k : Nat) : Int) ∧ Below w1.heap.size w1 wr ∧ hasK (ps.take k) p = false) (fun x _ => ps.length - (intOf x).toNat)
  case atStart => exact ⟨0, by omega, rfl, Below.refl _ _, rfl⟩
  case round =>
    obtain ⟨k, hk, rfl, hbw, hno⟩ := hrel
    have k0 : (0 : Int) ≤ (k : Int) := by omega
    have k9 : (ps.length : Int) ≤ 1000000 := by omega
    by_cases hk2 : k < ps.length
    · have k1 : (k : Int) < (ps.length : Int) := by omega
      obtain ⟨q, hq⟩ : ∃ q, ps[k]? = some q := ⟨_, List.getElem?_eq_getElem hk2⟩
      obtain ⟨b, off, rfl, hlb, hE⟩ := H1.out.2.2 (by omega)
      obtain ⟨cs, hr, hat⟩ := hE k q hq
      obtain ⟨rfl, hqo⟩ := pathLay_at.1 hat
      have hr1 : wr.rangeAt b (off + k * 21) (pC q) := rangeAt_same hr ((hbw.block b (by have := H1.out.1.size; omega)).trans (H1.out.1.block b hlb))
      have hbl : b < wr.heap.size := by have := H1.out.1.size; have := hbw.size; omega
      have hnx := hasK_next (p := p) hq
      rw [hno, Bool.false_or] at hnx
      have H2 := hide (And.intro hr1 (And.intro hbl (And.intro hqo (And.intro (And.intro hnx (And.intro hq hbw)) (H1.out.2.1.below hbw H1.out.2.1.lt)))))
      clear hr1 hbl hnx hq hbw hno hr hat hE
      go_wp2_with fail
      refine Fre.wp_made (X := Blw) 5 [] (by kernel_rfl) (by kernel_rfl) (by simp) (by simp) (by simp) ?_
      simp only [List.take_succ_cons, List.take_zero, List.drop_succ_cons, List.drop_zero]
      refine Fre.made_val (.slice (some ⟨b, off, none⟩) ps.length cap) (by kernel_rfl) (by kernel_rfl) (by kernel_rfl) (fun _ _ => by kernel_rfl) ?_
      simp only [Act.put, List.setIfInBounds_toArray, List.set_cons_zero, List.set_cons_succ]
      refine Fre.made_val (.int .i64 (k : Int)) (by kernel_rfl) (by kernel_rfl) (by kernel_rfl) (fun _ _ => by kernel_rfl) ?_
      simp only [Act.put, List.setIfInBounds_toArray, List.set_cons_zero, List.set_cons_succ]
      refine Fre.made_val (.pointer (some ⟨b, off + (k : Int).toNat * 21, none⟩)) (by kernel_rfl) (by kernel_rfl) (by kernel_rfl) (fun W9 _ => exec_index_off (o := ⟨some 14, _, _, _, _, _⟩) 24 53 (.tmp 12) (.tmp 13) rfl b off ps.length cap (k : Int) .i64 rfl rfl ⟨k0, k1⟩ 21 Try.underlying24 sz_path W9) ?_
      simp only [Act.put, List.setIfInBounds_toArray, List.set_cons_zero, List.set_cons_succ]
      rw [show off + (k : Int).toNat * 21 = off + k * 21 by omega]
      refine Fre.made_val (.agg (pC q).toArray) (by kernel_rfl) (by kernel_rfl) (by kernel_rfl) (fun W9 hW9 => exec_load_mid (o := ⟨some 15, _, _, _, _, _⟩) 53 (.tmp 14) rfl b (off + k * 21) rfl (pC q) _ W9 (rangeAt_same H2.out.1 ((blw hW9).block b H2.out.2.1)) Try.underlying53 rfl (by have := psz H2.out.2.2.1; simpa using this)) ?_
      simp only [Act.put, List.setIfInBounds_toArray, List.set_cons_zero, List.set_cons_succ]
      refine Fre.made_val (.agg (pC p).toArray) (by kernel_rfl) (by kernel_rfl) (by kernel_rfl) (fun W9 hW9 => exec_load_blk (o := ⟨some 16, _, _, _, _, _⟩) 53 (.tmp 3) rfl w.heap.size rfl 53 _ _ W9 ((H2.out.2.2.2.2.below (blw hW9) H2.out.2.2.2.2.lt)) Try.underlying53 rfl (psz hp)) ?_
      simp only [Act.put, List.setIfInBounds_toArray, List.set_cons_zero, List.set_cons_succ]
      show ∀ w', _ → _
      intro w3 hb3
      simp only [Fre.ended]
      have H3 := hide (show Below wr.heap.size wr w3 from hb3)
      clear hb3
      by_cases hqp : q = p
      · have hd : decide (q = p) = true := by simp [hqp]
        go_wp2_with ((refine wpList_value (o := ⟨some 17, _, _, _, _, _⟩) rfl (.bool true) w3 (exec_binop_agg (o := ⟨some 17, _, _, _, _, _⟩) .eql 53 (.tmp 15) (.tmp 16) _ rfl (pC q).toArray (pC p).toArray rfl rfl (by kernel_rfl) _ (fun W => by have := bin_eq_path q p H2.out.2.2.1 hp W; rw [hd] at this; exact this) w3) ?_))
        go_ret
        have e : hasK ps p = true := hasK_mem.2 (by rw [← hqp]; exact List.mem_of_getElem? H2.out.2.2.2.1.2.1)
        rw [e]
        exact ⟨rfl, H1.out.1.trans (Below.mono (H2.out.2.2.2.1.2.2.trans (Below.mono H3.out H2.out.2.2.2.1.2.2.size)) H1.out.1.size)⟩
      · have hd : decide (q = p) = false := by simp [hqp]
        go_wp2_with ((refine wpList_value (o := ⟨some 17, _, _, _, _, _⟩) rfl (.bool false) w3 (exec_binop_agg (o := ⟨some 17, _, _, _, _, _⟩) .eql 53 (.tmp 15) (.tmp 16) _ rfl (pC q).toArray (pC p).toArray rfl rfl (by kernel_rfl) _ (fun W => by have := bin_eq_path q p H2.out.2.2.1 hp W; rw [hd] at this; exact this) w3) ?_))
        go_roundw
        case rel => exact ⟨k + 1, by omega, by go_num, H2.out.2.2.2.1.2.2.trans (Below.mono H3.out H2.out.2.2.2.1.2.2.size), by rw [H2.out.2.2.2.1.1, hd]⟩
        case measure => simp [intOf]; omega
    · obtain rfl : k = ps.length := by omega
      rw [List.take_length] at hno
      have H2 := hide (And.intro hno hbw)
      clear hno hbw
      go_wp2_with fail
      go_ret
      rw [H2.out.1]
      exact ⟨rfl, H1.out.1.trans (Below.mono H2.out.2 H1.out.1.size)⟩
set_option maxHeartbeats 1000000 in
theorem sameInts_any (xs ys : List Int) (hl : xs.length ≤ 1000000) (hl2 : ys.length ≤ 1000000) (v1 v2 : Value) (w : World) (h1 : IntsAt w w.heap.size v1 xs) (h2 : IntsAt w w.heap.size v2 ys) :
    Calls Try.prog 16 #[v1, v2] w fun e w' => e = .returned (.bool (decide (xs = ys))) ∧ Below w.heap.size w w' := by
  obtain ⟨A1, c1, rfl, hA1⟩ := h1
  obtain ⟨A2, c2, rfl, hA2⟩ := h2
  have x9 : (xs.length : Int) ≤ 1000000 := by omega
  have y9 : (ys.length : Int) ≤ 1000000 := by omega
  by_cases hne : xs.length = ys.length
  · rw [← hne]
    have H1 := hide (And.intro hA1 (And.intro hA2 hne))
    clear hA1 hA2 hne y9
    go_enter Try.func16, Try.ntmps16
    go_wp2_with fail
    go_loopw [5] (fun x wr => ∃ k, k ≤ xs.length ∧ x = .int .i64 ((k : Nat) : Int) ∧ Below w.heap.size w wr ∧ xs.take k = ys.take k) (fun x _ => xs.length - (intOf x).toNat)
    case atStart => exact ⟨0, by omega, rfl, Below.refl _ _, rfl⟩
    case round =>
      obtain ⟨k, hk, rfl, hbw, he⟩ := hrel
      have k0 : (0 : Int) ≤ (k : Int) := by omega
      by_cases hk2 : k < xs.length
      · have k1 : (k : Int) < (xs.length : Int) := by omega
        obtain ⟨x, hx⟩ : ∃ x, xs[k]? = some x := ⟨_, List.getElem?_eq_getElem hk2⟩
        obtain ⟨y, hy⟩ : ∃ y, ys[k]? = some y := ⟨_, List.getElem?_eq_getElem (by have := H1.out.2.2; omega)⟩
        obtain ⟨b1, o1, rfl, hb1, hc1⟩ := H1.out.1 k x hx
        obtain ⟨b2, o2, rfl, hb2, hc2⟩ := H1.out.2.1 k y hy
        rw [← World.cell?_of_block (w' := wr) (hbw.block b1 hb1)] at hc1
        rw [← World.cell?_of_block (w' := wr) (hbw.block b2 hb2)] at hc2
        have H2 := hide (And.intro hc1 (And.intro hc2 (And.intro hx (And.intro hy (And.intro hbw he)))))
        clear hc1 hc2 hx hy hbw he
        go_wp2_with fail
        refine Fre.wp_made (X := Blw) 8 [] (by kernel_rfl) (by kernel_rfl) (by simp) (by simp) (by simp) ?_
        simp only [List.take_succ_cons, List.take_zero, List.drop_succ_cons, List.drop_zero]
        refine Fre.made_val (.slice (some ⟨b1, o1, none⟩) xs.length c1) (by kernel_rfl) (by kernel_rfl) (by kernel_rfl) (fun _ _ => by kernel_rfl) ?_
        simp only [Act.put, List.setIfInBounds_toArray, List.set_cons_zero, List.set_cons_succ]
        refine Fre.made_val (.int .i64 (k : Int)) (by kernel_rfl) (by kernel_rfl) (by kernel_rfl) (fun _ _ => by kernel_rfl) ?_
        simp only [Act.put, List.setIfInBounds_toArray, List.set_cons_zero, List.set_cons_succ]
        refine Fre.made_val (.pointer (some ⟨b1, o1 + (k : Int).toNat * 1, none⟩)) (by kernel_rfl) (by kernel_rfl) (by kernel_rfl) (fun W9 _ => exec_index_off (o := ⟨some 19, _, _, _, _, _⟩) 33 3 (.tmp 17) (.tmp 18) rfl b1 o1 xs.length c1 (k : Int) .i64 rfl rfl ⟨k0, k1⟩ 1 Try.underlying33 (by kernel_rfl) W9) ?_
        simp only [Act.put, List.setIfInBounds_toArray, List.set_cons_zero, List.set_cons_succ]
        rw [show o1 + (k : Int).toNat * 1 = o1 + k by omega]
        refine Fre.made_val (.int .i64 x) (by kernel_rfl) (by kernel_rfl) (by kernel_rfl) (fun W9 hW9 => exec_load_cell (o := ⟨some 20, _, _, _, _, _⟩) 3 (.tmp 19) rfl ⟨b1, o1 + k, none⟩ rfl _ _ W9 Try.underlying3 rfl (by rw [World.cell?_of_block ((blw hW9).block b1 (World.block_lt_of_cell? wr _ H2.out.1))]; exact H2.out.1)) ?_
        simp only [Act.put, List.setIfInBounds_toArray, List.set_cons_zero, List.set_cons_succ]
        refine Fre.made_val (.slice (some ⟨b2, o2, none⟩) xs.length c2) (by kernel_rfl) (by kernel_rfl) (by kernel_rfl) (fun _ _ => by kernel_rfl) ?_
        simp only [Act.put, List.setIfInBounds_toArray, List.set_cons_zero, List.set_cons_succ]
        refine Fre.made_val (.int .i64 (k : Int)) (by kernel_rfl) (by kernel_rfl) (by kernel_rfl) (fun _ _ => by kernel_rfl) ?_
        simp only [Act.put, List.setIfInBounds_toArray, List.set_cons_zero, List.set_cons_succ]
        refine Fre.made_val (.pointer (some ⟨b2, o2 + (k : Int).toNat * 1, none⟩)) (by kernel_rfl) (by kernel_rfl) (by kernel_rfl) (fun W9 _ => exec_index_off (o := ⟨some 23, _, _, _, _, _⟩) 33 3 (.tmp 21) (.tmp 22) rfl b2 o2 xs.length c2 (k : Int) .i64 rfl rfl ⟨k0, k1⟩ 1 Try.underlying33 (by kernel_rfl) W9) ?_
        simp only [Act.put, List.setIfInBounds_toArray, List.set_cons_zero, List.set_cons_succ]
        rw [show o2 + (k : Int).toNat * 1 = o2 + k by omega]
        refine Fre.made_val (.int .i64 y) (by kernel_rfl) (by kernel_rfl) (by kernel_rfl) (fun W9 hW9 => exec_load_cell (o := ⟨some 24, _, _, _, _, _⟩) 3 (.tmp 23) rfl ⟨b2, o2 + k, none⟩ rfl _ _ W9 Try.underlying3 rfl (by rw [World.cell?_of_block ((blw hW9).block b2 (World.block_lt_of_cell? wr _ H2.out.2.1))]; exact H2.out.2.1)) ?_
        simp only [Act.put, List.setIfInBounds_toArray, List.set_cons_zero, List.set_cons_succ]
        show ∀ w', _ → _
        intro w3 hb3
        simp only [Fre.ended]
        have H3 := hide (show Below wr.heap.size wr w3 from hb3)
        clear hb3
        by_cases hxy : x = y
        · subst hxy
          go_wp2_with fail
          go_roundw
          case rel =>
            refine ⟨k + 1, by omega, by go_num, H2.out.2.2.2.2.1.trans (Below.mono H3.out H2.out.2.2.2.2.1.size), ?_⟩
            rw [List.take_add_one, List.take_add_one, H2.out.2.2.2.2.2, H2.out.2.2.1, H2.out.2.2.2.1]
          case measure => simp [intOf]; omega
        · go_wp2_with fail
          go_ret
          have e : decide (xs = ys) = false := decide_eq_false fun e => hxy (by
            have h1 := H2.out.2.2.1
            have h2 := H2.out.2.2.2.1
            rw [e, h2] at h1
            injection h1 with h1
            exact h1.symm)
          rw [e]
          exact ⟨rfl, H2.out.2.2.2.2.1.trans (Below.mono H3.out H2.out.2.2.2.2.1.size)⟩
      · obtain rfl : k = xs.length := by omega
        have hxy : xs = ys := by
          have := he
          rw [List.take_length, H1.out.2.2, List.take_length] at this
          exact this
        have H2 := hide (And.intro hbw hxy)
        clear hbw he hxy
        go_wp2_with fail
        go_ret
        exact ⟨by rw [decide_eq_true H2.out.2]; rfl, H2.out.1⟩
  · have hni : ¬ (xs.length : Int) = (ys.length : Int) := by omega
    go_enter Try.func16, Try.ntmps16
    go_wp2_with fail
    go_ret
    have e : decide (xs = ys) = false := decide_eq_false fun e => hne (by rw [e])
    rw [e]
    exact ⟨rfl, Below.refl _ _⟩
end Go.Proofs.Ytfppddnfdinipaa
end
section
namespace Go.Proofs.Ytfppddnfdinipaa
open Go Go.RowKit Go.Maps
/-- all choices of rows, in order -/
def rowC (rest : List (List Nat)) : Nat → List Opt → List (List Nat)
  | _, [] => []
  | k, _ :: xs => rest.map (k :: ·) ++ rowC rest (k + 1) xs
def allC : List (List Opt) → List (List Nat)
  | [] => [[]]
  | os :: r => rowC (allC r) 0 os
def nodes : List (List Opt) → Nat
  | [] => 0
  | os :: r => os.length * (1 + nodes r)
/-- is a choice clean behind what is there? -/
def clean1 (own : Hsh) (rows : List (Hsh × List Opt)) (ps : List Pth) (of : List Mde) (l : List Nat) : Bool := cleanB own (foldT rows l ps of).1 (foldT rows l ps of).2
theorem cleanB_mono {own : Hsh} {ps ps' : List Pth} {of of' : List Mde} (h : cleanB own ps of = false) (hp : ∀ p ∈ ps, p ∈ ps') (ho : ∀ m ∈ of, m ∈ of') : cleanB own ps' of' = false := by
  obtain ⟨m, hm, h1, h2⟩ := cleanB_iff.1 h
  refine cleanB_iff.2 ⟨m, ho m hm, hp _ h1, h2.imp id ?_⟩
  rintro ⟨k, hk, e1, e2, e3⟩
  exact ⟨k, ho k hk, e1, e2, hp _ e3⟩
theorem foldT_sub : ∀ (rows : List (Hsh × List Opt)) (l : List Nat) (ps : List Pth) (of : List Mde), (∀ p ∈ ps, p ∈ (foldT rows l ps of).1) ∧ ∀ m ∈ of, m ∈ (foldT rows l ps of).2
  | [], l, ps, of => by unfold foldT; exact ⟨fun _ h => h, fun _ h => h⟩
  | (h, os) :: rows, [], ps, of => by unfold foldT; exact ⟨fun _ h => h, fun _ h => h⟩
  | (h, os) :: rows, k :: l, ps, of => by
    unfold foldT
    cases e : os[k]? with
    | none => exact ⟨fun _ h => h, fun _ h => h⟩
    | some x =>
      obtain ⟨h1, h2⟩ := foldT_sub rows l (ps ++ x.1 :: x.2) (of ++ [(h, x.1)])
      exact ⟨fun p hp => h1 p (List.mem_append_left _ hp), fun m hm => h2 m (List.mem_append_left _ hm)⟩
theorem clean1_cons {own : Hsh} {h : Hsh} {os : List Opt} {rows : List (Hsh × List Opt)} {ps : List Pth} {of : List Mde} {k : Nat} {x : Opt} (hx : os[k]? = some x) (l : List Nat) : clean1 own ((h, os) :: rows) ps of (k :: l) = clean1 own rows (ps ++ x.1 :: x.2) (of ++ [(h, x.1)]) l := by
  unfold clean1
  conv => lhs; unfold foldT
  rw [hx]
theorem clean1_not {own : Hsh} {rows : List (Hsh × List Opt)} {ps : List Pth} {of : List Mde} (h : cleanB own ps of = false) (l : List Nat) : clean1 own rows ps of l = false := cleanB_mono h (foldT_sub rows l ps of).1 (foldT_sub rows l ps of).2
/-- what the search tells -/
structure Best (own : Hsh) (fuel : Int) (p : List Nat → Bool) (all : List (List Nat)) (cnt : Nat) (n : Int) (r : Res × Int) : Prop where
  le : n ≤ r.2
  ge : r.2 ≤ n + cnt
  fuel_ : r.1 = .fuel → fuel ≤ r.2
  ok : ∀ l, r.1 = .ok l → all.find? p = some l
  no : r.1 = .conflict → all.find? p = none
theorem find_none {α : Type} {p : α → Bool} : ∀ {l : List α}, (∀ x ∈ l, p x = false) → l.find? p = none
  | [], _ => rfl
  | x :: l, h => by
    rw [List.find?_cons, h x (by simp)]
    exact find_none fun y hy => h y (by simp [hy])
theorem best_from {own : Hsh} {fuel : Int} : ∀ (rows : List (Hsh × List Opt)) (ps : List Pth) (of : List Mde) (n : Int), cleanB own ps of = true →
    Best own fuel (clean1 own rows ps of) (allC (rows.map (·.2))) (nodes (rows.map (·.2))) n (fromB own fuel rows ps of n)
  | [], ps, of, n, hc => by
    refine ⟨Int.le_refl _, by show n ≤ n + ((0 : Nat) : Int); omega, (fun h => by cases h), fun l hl => ?_, (fun h => by cases h)⟩
    have hl : Res.ok [] = .ok l := hl
    injection hl with hl
    subst hl
    have : clean1 own [] ps of [] = true := hc
    show [([] : List Nat)].find? (clean1 own [] ps of) = some []
    rw [List.find?_cons, this]
  | (h, os) :: rows, ps, of, n, hc => by
    have ih := fun ps of n hc => best_from (own := own) (fuel := fuel) rows ps of n hc
    have key : ∀ (xs : List Opt) (k : Nat) (n : Int), os.drop k = xs → Best own fuel (clean1 own ((h, os) :: rows) ps of) (rowC (allC (rows.map (·.2))) k xs) (xs.length * (1 + nodes (rows.map (·.2)))) n (tryB own fuel h ps of (fromB own fuel rows) k xs n) := by
      intro xs
      induction xs with
      | nil =>
        intro k n _
        exact ⟨Int.le_refl _, by show n ≤ n + ((0 * (1 + nodes (rows.map (·.2))) : Nat) : Int); omega, (fun h => by cases h), (fun l h => by cases h), fun _ => rfl⟩
      | cons x xs ih2 =>
        intro k n hk
        have hx : os[k]? = some x := by
          have := congrArg (fun l => l[0]?) hk
          simpa using this
        have hk' : os.drop (k + 1) = xs := by
          have := congrArg (List.drop 1) hk
          rw [List.drop_drop] at this
          simpa using this
        have hlen : (x :: xs).length * (1 + nodes (rows.map (·.2))) = (1 + nodes (rows.map (·.2))) + xs.length * (1 + nodes (rows.map (·.2))) := by
          rw [List.length_cons, Nat.add_mul]
          omega
        rw [hlen]
        have hfm : ((allC (rows.map (·.2))).map (k :: ·)).find? (clean1 own ((h, os) :: rows) ps of) = ((allC (rows.map (·.2))).find? (clean1 own rows (ps ++ x.1 :: x.2) (of ++ [(h, x.1)]))).map (k :: ·) := by
          rw [List.find?_map]
          congr 1
          congr 1
          funext l
          exact clean1_cons hx l
        have hsum : ∀ r : Res × Int, Best own fuel (clean1 own rows (ps ++ x.1 :: x.2) (of ++ [(h, x.1)])) (allC (rows.map (·.2))) (1 + nodes (rows.map (·.2))) n r →
            Best own fuel (clean1 own ((h, os) :: rows) ps of) (rowC (allC (rows.map (·.2))) k (x :: xs)) ((1 + nodes (rows.map (·.2))) + xs.length * (1 + nodes (rows.map (·.2)))) n
              (match r with
                | (.conflict, m) => tryB own fuel h ps of (fromB own fuel rows) (k + 1) xs m
                | (.fuel, m) => (.fuel, m)
                | (.ok l, m) => (.ok (k :: l), m)) := by
          rintro ⟨r, m⟩ hb
          have hb1 : n ≤ m := hb.le
          have hb2 : m ≤ n + ((1 + nodes (rows.map (·.2)) : Nat) : Int) := hb.ge
          cases r with
          | ok l =>
            refine ⟨hb1, by dsimp only; omega, (fun h => by cases h), fun l' hl' => ?_, (fun h => by cases h)⟩
            have hl' : Res.ok (k :: l) = .ok l' := hl'
            injection hl' with hl'
            subst hl'
            show ((allC (rows.map (·.2))).map (k :: ·) ++ _).find? _ = _
            rw [List.find?_append, hfm, hb.ok l rfl]
            rfl
          | fuel => exact ⟨hb1, by dsimp only; omega, fun _ => hb.fuel_ rfl, (fun l h => by cases h), (fun h => by cases h)⟩
          | conflict =>
            have h2 := ih2 (k + 1) m hk'
            have hf : ∀ o, (rowC (allC (rows.map (·.2))) (k + 1) xs).find? (clean1 own ((h, os) :: rows) ps of) = o → (rowC (allC (rows.map (·.2))) k (x :: xs)).find? (clean1 own ((h, os) :: rows) ps of) = o := by
              intro o ho
              show ((allC (rows.map (·.2))).map (k :: ·) ++ _).find? _ = _
              rw [List.find?_append, hfm, hb.no rfl, ho]
              rfl
            exact ⟨Int.le_trans hb1 h2.le, by have := h2.ge; dsimp only; omega, h2.fuel_, fun l hl => hf _ (h2.ok l hl), fun hn => hf _ (h2.no hn)⟩
        unfold tryB
        refine hsum _ ?_
        split
        · rename_i hfu
          exact ⟨Int.le_refl _, by dsimp only; omega, fun _ => hfu, (fun l h => by cases h), (fun h => by cases h)⟩
        · split
          · rename_i _ hcl
            have h3 := ih _ _ (n + 1) hcl
            exact ⟨by have := h3.le; omega, by have := h3.ge; omega, h3.fuel_, h3.ok, h3.no⟩
          · rename_i _ hcl
            refine ⟨by dsimp only; omega, by dsimp only; omega, (fun h => by cases h), (fun l h => by cases h), fun _ => find_none fun l _ => clean1_not ?_ l⟩
            simpa using hcl
    exact key os 0 n rfl
/-- another fuel -/
structure Fuels (f : Int → Res × Int) (n : Int) (r : Res × Int) : Prop where
  le : n ≤ r.2
  more : ∀ g, r.2 ≤ g → f g = r
  less : ∀ g, n ≤ g → g < r.2 → f g = (.fuel, g)
theorem fuels_from {own : Hsh} {F : Int} : ∀ (rows : List (Hsh × List Opt)) (ps : List Pth) (of : List Mde) (n : Int), (fromB own F rows ps of n).1 ≠ .fuel → Fuels (fun g => fromB own g rows ps of n) n (fromB own F rows ps of n)
  | [], ps, of, n, _ => ⟨Int.le_refl _, fun _ _ => rfl, fun g h1 h2 => absurd h1 (by have h2 : g < n := h2; omega)⟩
  | (h, os) :: rows, ps, of, n, hne => by
    have ih := fun ps of n hc => fuels_from (own := own) (F := F) rows ps of n hc
    have key : ∀ (xs : List Opt) (k : Nat) (n : Int), (tryB own F h ps of (fromB own F rows) k xs n).1 ≠ .fuel → Fuels (fun g => tryB own g h ps of (fromB own g rows) k xs n) n (tryB own F h ps of (fromB own F rows) k xs n) := by
      intro xs
      induction xs with
      | nil => exact fun k n _ => ⟨Int.le_refl _, fun _ _ => rfl, fun g h1 h2 => absurd h1 (by have h2 : g < n := h2; omega)⟩
      | cons x xs ih2 =>
        intro k n hne
        have hstep : ∀ g, tryB own g h ps of (fromB own g rows) k (x :: xs) n = (match (if g ≤ n then (Res.fuel, n) else if cleanB own (ps ++ x.1 :: x.2) (of ++ [(h, x.1)]) then fromB own g rows (ps ++ x.1 :: x.2) (of ++ [(h, x.1)]) (n + 1) else (.conflict, n + 1)) with
          | (.conflict, m) => tryB own g h ps of (fromB own g rows) (k + 1) xs m
          | (.fuel, m) => (.fuel, m)
          | (.ok l, m) => (.ok (k :: l), m)) := fun g => by
          conv => lhs; unfold tryB
          rfl
        have hF : ¬ F ≤ n := fun hle => by
          rw [hstep, if_pos hle] at hne
          exact hne rfl
        -- what one option tells
        obtain ⟨one, hone⟩ : ∃ one : Int → Res × Int, one = fun g => if cleanB own (ps ++ x.1 :: x.2) (of ++ [(h, x.1)]) then fromB own g rows (ps ++ x.1 :: x.2) (of ++ [(h, x.1)]) (n + 1) else (.conflict, n + 1) := ⟨_, rfl⟩
        have hstep2 : ∀ g, ¬ g ≤ n → tryB own g h ps of (fromB own g rows) k (x :: xs) n = (match one g with
          | (.conflict, m) => tryB own g h ps of (fromB own g rows) (k + 1) xs m
          | (.fuel, m) => (.fuel, m)
          | (.ok l, m) => (.ok (k :: l), m)) := fun g hg => by rw [hstep, if_neg hg, hone]
        have hnf : (one F).1 ≠ .fuel := fun hf => by
          rw [hstep2 F hF] at hne
          cases hr : one F with
          | mk r m =>
            rw [hr] at hf hne
            have hf : r = .fuel := hf
            subst hf
            exact hne rfl
        have h1 : Fuels one (n + 1) (one F) := by
          rw [hone] at hnf ⊢
          dsimp only at hnf ⊢
          split
          · rename_i hcl
            rw [if_pos hcl] at hnf
            exact ih _ _ (n + 1) hnf
          · exact ⟨Int.le_refl _, fun _ _ => rfl, fun g h1 h2 => absurd h1 (by have h2 : g < n + 1 := h2; omega)⟩
        rw [hstep2 F hF] at hne ⊢
        have ew : ∀ g, ∀ r m, one g = (r, m) → ¬ g ≤ n → tryB own g h ps of (fromB own g rows) k (x :: xs) n = (match (r, m) with
          | (.conflict, m) => tryB own g h ps of (fromB own g rows) (k + 1) xs m
          | (.fuel, m) => (.fuel, m)
          | (.ok l, m) => (.ok (k :: l), m)) := fun g r m hg hle => by rw [hstep2 g hle, hg]
        have e0 : ∀ g, g ≤ n → n ≤ g → tryB own g h ps of (fromB own g rows) k (x :: xs) n = (.fuel, g) := fun g h1 h2 => by
          rw [hstep, if_pos h1, show n = g by omega]
        obtain ⟨⟨r, m⟩, hrm⟩ : ∃ r, one F = r := ⟨_, rfl⟩
        rw [hrm] at h1 hne hnf ⊢
        have hm : n + 1 ≤ m := h1.le
        have hless : ∀ g, n ≤ g → g < m → tryB own g h ps of (fromB own g rows) k (x :: xs) n = (.fuel, g) := fun g h2 h3 => by
          by_cases hg : g ≤ n
          · exact e0 g hg h2
          · rw [ew g _ _ (h1.less g (by omega) h3) hg]
        cases r with
        | fuel => exact absurd rfl hnf
        | ok l =>
          refine ⟨by show n ≤ m; omega, fun g hg => ?_, fun g h2 h3 => hless g h2 h3⟩
          have hg : m ≤ g := hg
          show tryB own g h ps of (fromB own g rows) k (x :: xs) n = _
          rw [ew g _ _ (h1.more g hg) (by omega)]
        | conflict =>
          have h4 := ih2 (k + 1) m hne
          have h5 := h4.le
          refine ⟨by dsimp only at h5 ⊢; omega, fun g hg => ?_, fun g h2 h3 => ?_⟩
          · show tryB own g h ps of (fromB own g rows) k (x :: xs) n = _
            dsimp only at hg h5
            rw [ew g _ _ (h1.more g (by show m ≤ g; omega)) (by omega)]
            exact h4.more g hg
          · by_cases hg : g < m
            · exact hless g h2 hg
            · show tryB own g h ps of (fromB own g rows) k (x :: xs) n = _
              rw [ew g _ _ (h1.more g (by show m ≤ g; omega)) (by omega)]
              exact h4.less g (by omega) h3
    exact key os 0 n hne
end Go.Proofs.Ytfppddnfdinipaa
end
