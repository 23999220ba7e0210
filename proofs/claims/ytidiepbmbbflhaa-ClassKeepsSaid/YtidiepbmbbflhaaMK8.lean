/- spencekit.SameDrv; spencelaw19.alike. spencelaw19.ClassGrows. -/
import Derived.Test.YtidiepbmbbflhaaMK7
import Derived.Test.YtidiepbmbbflhaaMK5
section
namespace Go.Proofs.Ytidiepbmbbflhaa
open Go Go.RowKit Go.Maps
set_option maxRecDepth 100000
theorem sameN_v (w : World) (a b : List Nam) (u v : Value) (ha : namsLay.At w w.heap.size [u] a) (hb : namsLay.At w w.heap.size [v] b) (c : Bool) (hc : decide (a = b) = c) :
    Calls Try.prog 27 #[u, v] w fun e w' => e = .returned (.bool c) ∧ Below w.heap.size w w' := by
  subst hc
  obtain ⟨A, ca, rfl, _⟩ := slice_open ha
  obtain ⟨B, cb, rfl, _⟩ := slice_open hb
  exact sameN_any w a b A B ca cb ha hb
theorem sameB_v (w : World) (a b : List Int) (u v : Value) (ha : bytesLay.At w w.heap.size [u] a) (hb : bytesLay.At w w.heap.size [v] b) (c : Bool) (hc : decide (a = b) = c) :
    Calls Try.prog 28 #[u, v] w fun e w' => e = .returned (.bool c) ∧ Below w.heap.size w w' := by
  subst hc
  obtain ⟨A, ca, rfl, _⟩ := slice_open ha
  obtain ⟨B, cb, rfl, _⟩ := slice_open hb
  exact sameB_any w a b A B ca cb ha hb
set_option maxHeartbeats 1000000 in
theorem sameD_any (w : World) (a b : Drv) (u1 u2 v1 v2 : Value) (ha : DrvAt w w.heap.size a u1 u2) (hb : DrvAt w w.heap.size b v1 v2) :
    Calls Try.prog 11 #[.agg (dC a u1 u2).toArray, .agg (dC b v1 v2).toArray] w fun e w' => e = .returned (.bool (decide (a = b))) ∧ Below w.heap.size w w' := by
  obtain ⟨oa1, oa2⟩ := ha.ones
  obtain ⟨ob1, ob2⟩ := hb.ones
  have HA := hide (And.intro ha.ins ha.rcp)
  have HB := hide (And.intro hb.ins hb.rcp)
  clear ha hb
  have he : decide (a = b) = (decide (a.1 = b.1) && (decide (a.2.1 = b.2.1) && decide (a.2.2 = b.2.2))) := by
    rw [Bool.eq_iff_iff]
    simp only [Bool.and_eq_true, decide_eq_true_iff]
    exact ⟨fun h => by rw [h]; exact ⟨rfl, rfl, rfl⟩, fun h => Prod.ext h.1 (Prod.ext h.2.1 h.2.2)⟩
  cases hn : decide (a.1 = b.1)
  · have HN := hide hn
    have HE := hide (show decide (a = b) = false by rw [he, hn]; rfl)
    clear he hn
    have H0 := hide (Mem.start w)
    go_enter Try.func11, Try.ntmps11
    go_wp2_with (first | ((with_reducible refine at_slot 2 ?_); (refine wpList_boxA (o := ⟨some 2, _, _, _, _, _⟩) rfl 34 (.tmp 0) rfl (dC a u1 u2).toArray rfl ?_); intro w1 hn; have H1 := hide (Mem.new1 H0.out hn); clear hn; simp only [Act.put, List.setIfInBounds_toArray, List.set_cons_zero, List.set_cons_succ]) | ((with_reducible refine at_slot 3 ?_); (refine wpList_boxA (o := ⟨some 3, _, _, _, _, _⟩) rfl 34 (.tmp 1) rfl (dC b v1 v2).toArray rfl ?_); intro w2 hn; have H2 := hide (Mem.new1 H1.out hn); clear hn; simp only [Act.put, List.setIfInBounds_toArray, List.set_cons_zero, List.set_cons_succ]) | ((with_reducible refine at_slot 6 ?_); (refine wpList_value (o := ⟨some 6, _, _, _, _, _⟩) rfl (.string a.1) w2 (exec_load_cell (o := ⟨some 6, _, _, _, _, _⟩) 9 (.tmp 5) rfl ⟨w.heap.size, 0, none⟩ rfl _ _ w2 Try.underlying9 rfl (range_cell (dC_name (Blk.range (Mem.blk H2.out 1 rfl))))) ?_)) | ((with_reducible refine at_slot 8 ?_); (refine wpList_value (o := ⟨some 8, _, _, _, _, _⟩) rfl (.string b.1) w2 (exec_load_cell (o := ⟨some 8, _, _, _, _, _⟩) 9 (.tmp 7) rfl ⟨w1.heap.size, 0, none⟩ rfl _ _ w2 Try.underlying9 rfl (range_cell (dC_name (Blk.range (Mem.blk H2.out 0 rfl))))) ?_)) | ((with_reducible refine at_slot 9 ?_); (refine wpList_value (o := ⟨some 9, _, _, _, _, _⟩) rfl (.bool false) w2 (exec_eqS (o := ⟨some 9, _, _, _, _, _⟩) 9 9 (.tmp 6) (.tmp 8) rfl a.1 b.1 rfl rfl false HN.out w2) ?_)))
    go_ret
    exact ⟨by rw [HE.out]; rfl, Mem.below H2.out⟩
  · cases hi : decide (a.2.1 = b.2.1)
    · have HN := hide hn
      have HI := hide hi
      have HE := hide (show decide (a = b) = false by rw [he, hn, hi]; rfl)
      clear he hn hi
      have H0 := hide (Mem.start w)
      go_enter Try.func11, Try.ntmps11
      go_wp2_with (first | ((with_reducible refine at_slot 2 ?_); (refine wpList_boxA (o := ⟨some 2, _, _, _, _, _⟩) rfl 34 (.tmp 0) rfl (dC a u1 u2).toArray rfl ?_); intro w1 hn; have H1 := hide (Mem.new1 H0.out hn); clear hn; simp only [Act.put, List.setIfInBounds_toArray, List.set_cons_zero, List.set_cons_succ]) | ((with_reducible refine at_slot 3 ?_); (refine wpList_boxA (o := ⟨some 3, _, _, _, _, _⟩) rfl 34 (.tmp 1) rfl (dC b v1 v2).toArray rfl ?_); intro w2 hn; have H2 := hide (Mem.new1 H1.out hn); clear hn; simp only [Act.put, List.setIfInBounds_toArray, List.set_cons_zero, List.set_cons_succ]) | ((with_reducible refine at_slot 6 ?_); (refine wpList_value (o := ⟨some 6, _, _, _, _, _⟩) rfl (.string a.1) w2 (exec_load_cell (o := ⟨some 6, _, _, _, _, _⟩) 9 (.tmp 5) rfl ⟨w.heap.size, 0, none⟩ rfl _ _ w2 Try.underlying9 rfl (range_cell (dC_name (Blk.range (Mem.blk H2.out 1 rfl))))) ?_)) | ((with_reducible refine at_slot 8 ?_); (refine wpList_value (o := ⟨some 8, _, _, _, _, _⟩) rfl (.string b.1) w2 (exec_load_cell (o := ⟨some 8, _, _, _, _, _⟩) 9 (.tmp 7) rfl ⟨w1.heap.size, 0, none⟩ rfl _ _ w2 Try.underlying9 rfl (range_cell (dC_name (Blk.range (Mem.blk H2.out 0 rfl))))) ?_)) | ((with_reducible refine at_slot 9 ?_); (refine wpList_value (o := ⟨some 9, _, _, _, _, _⟩) rfl (.bool true) w2 (exec_eqS (o := ⟨some 9, _, _, _, _, _⟩) 9 9 (.tmp 6) (.tmp 8) rfl a.1 b.1 rfl rfl true HN.out w2) ?_)) | ((with_reducible refine at_slot 12 ?_); (refine wpList_value_w (o := ⟨some 12, _, _, _, _, _⟩) (by kernel_rfl) (u1) w2 (exec_load_cell (o := ⟨some 12, _, _, _, _, _⟩) 31 (.tmp 11) rfl ⟨w.heap.size, 1, none⟩ rfl _ _ w2 Try.underlying31 rfl (range_cell (dC_ins (Blk.range (Mem.blk H2.out 1 rfl))))) ?_)) | ((with_reducible refine at_slot 14 ?_); (refine wpList_value_w (o := ⟨some 14, _, _, _, _, _⟩) (by kernel_rfl) (v1) w2 (exec_load_cell (o := ⟨some 14, _, _, _, _, _⟩) 31 (.tmp 13) rfl ⟨w1.heap.size, 1, none⟩ rfl _ _ w2 Try.underlying31 rfl (range_cell (dC_ins (Blk.range (Mem.blk H2.out 0 rfl))))) ?_)))
      refine (sameN_v w2 a.2.1 b.2.1 u1 v1 (Mem.lay H2.out HA.out.1) (Mem.lay H2.out HB.out.1) _ HI.out).mono ?_
      rintro e w3 ⟨rfl, hb⟩
      dsimp only
      have H3 := hide (Mem.call H2.out hb)
      clear hb
      go_wp2_with fail
      go_ret
      exact ⟨by rw [HE.out]; rfl, Mem.below H3.out⟩
    · have HN := hide hn
      have HI := hide hi
      have HE := hide (show decide (a = b) = decide (a.2.2 = b.2.2) by rw [he, hn, hi]; rfl)
      clear he hn hi
      have H0 := hide (Mem.start w)
      go_enter Try.func11, Try.ntmps11
      go_wp2_with (first | ((with_reducible refine at_slot 2 ?_); (refine wpList_boxA (o := ⟨some 2, _, _, _, _, _⟩) rfl 34 (.tmp 0) rfl (dC a u1 u2).toArray rfl ?_); intro w1 hn; have H1 := hide (Mem.new1 H0.out hn); clear hn; simp only [Act.put, List.setIfInBounds_toArray, List.set_cons_zero, List.set_cons_succ]) | ((with_reducible refine at_slot 3 ?_); (refine wpList_boxA (o := ⟨some 3, _, _, _, _, _⟩) rfl 34 (.tmp 1) rfl (dC b v1 v2).toArray rfl ?_); intro w2 hn; have H2 := hide (Mem.new1 H1.out hn); clear hn; simp only [Act.put, List.setIfInBounds_toArray, List.set_cons_zero, List.set_cons_succ]) | ((with_reducible refine at_slot 6 ?_); (refine wpList_value (o := ⟨some 6, _, _, _, _, _⟩) rfl (.string a.1) w2 (exec_load_cell (o := ⟨some 6, _, _, _, _, _⟩) 9 (.tmp 5) rfl ⟨w.heap.size, 0, none⟩ rfl _ _ w2 Try.underlying9 rfl (range_cell (dC_name (Blk.range (Mem.blk H2.out 1 rfl))))) ?_)) | ((with_reducible refine at_slot 8 ?_); (refine wpList_value (o := ⟨some 8, _, _, _, _, _⟩) rfl (.string b.1) w2 (exec_load_cell (o := ⟨some 8, _, _, _, _, _⟩) 9 (.tmp 7) rfl ⟨w1.heap.size, 0, none⟩ rfl _ _ w2 Try.underlying9 rfl (range_cell (dC_name (Blk.range (Mem.blk H2.out 0 rfl))))) ?_)) | ((with_reducible refine at_slot 9 ?_); (refine wpList_value (o := ⟨some 9, _, _, _, _, _⟩) rfl (.bool true) w2 (exec_eqS (o := ⟨some 9, _, _, _, _, _⟩) 9 9 (.tmp 6) (.tmp 8) rfl a.1 b.1 rfl rfl true HN.out w2) ?_)) | ((with_reducible refine at_slot 12 ?_); (refine wpList_value_w (o := ⟨some 12, _, _, _, _, _⟩) (by kernel_rfl) (u1) w2 (exec_load_cell (o := ⟨some 12, _, _, _, _, _⟩) 31 (.tmp 11) rfl ⟨w.heap.size, 1, none⟩ rfl _ _ w2 Try.underlying31 rfl (range_cell (dC_ins (Blk.range (Mem.blk H2.out 1 rfl))))) ?_)) | ((with_reducible refine at_slot 14 ?_); (refine wpList_value_w (o := ⟨some 14, _, _, _, _, _⟩) (by kernel_rfl) (v1) w2 (exec_load_cell (o := ⟨some 14, _, _, _, _, _⟩) 31 (.tmp 13) rfl ⟨w1.heap.size, 1, none⟩ rfl _ _ w2 Try.underlying31 rfl (range_cell (dC_ins (Blk.range (Mem.blk H2.out 0 rfl))))) ?_)))
      refine (sameN_v w2 a.2.1 b.2.1 u1 v1 (Mem.lay H2.out HA.out.1) (Mem.lay H2.out HB.out.1) _ HI.out).mono ?_
      rintro e w3 ⟨rfl, hb⟩
      dsimp only
      have H3 := hide (Mem.call H2.out hb)
      clear hb
      go_wp2_with (first | ((with_reducible refine at_slot 19 ?_); (refine wpList_value_w (o := ⟨some 19, _, _, _, _, _⟩) (by kernel_rfl) (u2) w3 (exec_load_cell (o := ⟨some 19, _, _, _, _, _⟩) 32 (.tmp 18) rfl ⟨w.heap.size, 2, none⟩ rfl _ _ w3 Try.underlying32 rfl (range_cell (dC_rcp (Blk.range (Mem.blk H3.out 1 rfl))))) ?_)) | ((with_reducible refine at_slot 21 ?_); (refine wpList_value_w (o := ⟨some 21, _, _, _, _, _⟩) (by kernel_rfl) (v2) w3 (exec_load_cell (o := ⟨some 21, _, _, _, _, _⟩) 32 (.tmp 20) rfl ⟨w1.heap.size, 2, none⟩ rfl _ _ w3 Try.underlying32 rfl (range_cell (dC_rcp (Blk.range (Mem.blk H3.out 0 rfl))))) ?_)))
      refine (sameB_v w3 a.2.2 b.2.2 u2 v2 (Mem.lay H3.out HA.out.2) (Mem.lay H3.out HB.out.2) _ rfl).mono ?_
      rintro e w4 ⟨rfl, hb⟩
      dsimp only
      have H4 := hide (Mem.call H3.out hb)
      clear hb
      go_wp2_with fail
      go_ret
      exact ⟨by rw [HE.out]; rfl, Mem.below H4.out⟩
theorem sameD_c (w : World) (a b : Drv) (u1 u2 v1 v2 : Value) (ha : DrvAt w w.heap.size a u1 u2) (hb : DrvAt w w.heap.size b v1 v2) (c : Bool) (hc : decide (a = b) = c) :
    Calls Try.prog 11 #[.agg (dC a u1 u2).toArray, .agg (dC b v1 v2).toArray] w fun e w' => e = .returned (.bool c) ∧ Below w.heap.size w w' := hc ▸ sameD_any w a b u1 u2 v1 v2 ha hb
set_option maxHeartbeats 1000000 in
theorem alike_any (w : World) (a b : List Itm) (A B : Option Addr) (ca cb : Nat) (ha : itmsLay.At w w.heap.size [.slice A a.length ca] a) (hb : itmsLay.At w w.heap.size [.slice B b.length cb] b) :
    Calls Try.prog 12 #[.slice A a.length ca, .slice B b.length cb] w fun e w' => e = .returned (.bool (decide (a = b))) ∧ Below w.heap.size w w' := by
  obtain ⟨A', ca', e, _, hcm, _, hA⟩ := slice_open ha
  injection e with e1 e2 e3
  subst e1 e3
  obtain ⟨B', cb', e, _, _, _, hB⟩ := slice_open hb
  injection e with e1 e4 e3
  subst e1 e3
  clear ha hb e2 e4
  have k9 : (a.length : Int) ≤ 9223372036854775807 := by simp only [maxLen] at hcm; omega
  clear hcm
  by_cases hlen : a.length = b.length
  · rw [← hlen]
    have HA := hide hA
    have HB := hide hB
    have HLN := hide hlen
    clear hA hB hlen
    have H0 := hide (Mem.start w)
    go_enter Try.func12, Try.ntmps12
    go_wp2_with fail
    go_loopw [5] (fun x5 wr => ∃ j : Nat, j ≤ a.length ∧ x5 = .int .i64 (j : Int) ∧ a.take j = b.take j ∧ Mem w wr []) (fun x5 _ => a.length - (intOf x5).toNat)
    case atStart => exact ⟨0, by omega, rfl, rfl, H0.out⟩
    case round =>
      obtain ⟨wo, rfl⟩ : ∃ wo, wo = wr := ⟨_, rfl⟩
      obtain ⟨j, hj, rfl, htk, hm⟩ := hrel
      have HM := hide hm
      have HT := hide htk
      clear hm htk
      have j0 : (0 : Int) ≤ (j : Int) := by omega
      by_cases hj2 : j < a.length
      · have j1 : (j : Int) < (a.length : Int) := by omega
        obtain ⟨x, hx⟩ : ∃ x, a[j]? = some x := ⟨_, List.getElem?_eq_getElem (by omega)⟩
        obtain ⟨p, o1, rfl, hltp, hE⟩ := HA.out (by omega)
        obtain ⟨cs, hrx, hatx⟩ := hE j x hx
        clear hE
        obtain ⟨y, hy⟩ : ∃ y, b[j]? = some y := ⟨_, List.getElem?_eq_getElem (by have := HLN.out; omega)⟩
        obtain ⟨q, o2, rfl, hltq, hE⟩ := HB.out (by have := HLN.out; omega)
        obtain ⟨cs2, hry, haty⟩ := hE j y hy
        obtain ⟨x1, x2, rfl, hxo, hxd⟩ := itmLay_at.1 hatx
        obtain ⟨y1, y2, rfl, hyo, hyd⟩ := itmLay_at.1 haty
        obtain ⟨ox1, ox2⟩ := hxd.ones
        obtain ⟨oy1, oy2⟩ := hyd.ones
        have HX := hide (And.intro hrx (And.intro hltp (And.intro hx hxd)))
        have HY := hide (And.intro hry (And.intro hltq (And.intro hy hyd)))
        clear hrx hltp hx hry hltq hy hE hatx haty hxd hyd
        cases hc1 : decide (x.1 = y.1)
        · have HC1 := hide hc1
          clear hc1
          go_wp2_with fail
          refine Fre.wp_made (X := Bel) 24 [] (by kernel_rfl) (by kernel_rfl) (by simp) (by simp) (by simp) ?_
          simp only [List.take_succ_cons, List.take_zero, List.drop_succ_cons, List.drop_zero]
          refine Fre.made_val (.slice (some ⟨p, o1, none⟩) a.length ca) (by kernel_rfl) (by kernel_rfl) (by kernel_rfl) (fun _ _ => by kernel_rfl) ?_
          simp only [Act.put, List.setIfInBounds_toArray, List.set_cons_zero, List.set_cons_succ]
          refine Fre.made_val (.int .i64 (j : Int)) (by kernel_rfl) (by kernel_rfl) (by kernel_rfl) (fun _ _ => by kernel_rfl) ?_
          simp only [Act.put, List.setIfInBounds_toArray, List.set_cons_zero, List.set_cons_succ]
          refine Fre.made_val (.pointer (some ⟨p, o1 + j * 23, none⟩)) (by kernel_rfl) (by kernel_rfl) (by kernel_rfl) (fun W9 hW9 => (exec_idxO (o := ⟨some 19, _, _, _, _, _⟩) 25 43 (.tmp 17) (.tmp 18) rfl p o1 a.length ca j rfl rfl hj2 23 Try.underlying25 sz_itm W9)) ?_
          simp only [Act.put, List.setIfInBounds_toArray, List.set_cons_zero, List.set_cons_succ]
          refine Fre.made_val (.pointer (some ⟨p, o1 + j * 23, none⟩)) (by kernel_rfl) (by kernel_rfl) (by kernel_rfl) (fun _ _ => by kernel_rfl) ?_
          simp only [Act.put, List.setIfInBounds_toArray, List.set_cons_zero, List.set_cons_succ]
          refine Fre.made_val (.agg (bv x.1).toArray) (by kernel_rfl) (by kernel_rfl) (by kernel_rfl) (fun W9 hW9 => (exec_load_mid (o := ⟨some 21, _, _, _, _, _⟩) 27 (.tmp 20) rfl p (o1 + j * 23) rfl (bv x.1) _ W9 (item_cls9 (Mem.range (Mem.call HM.out hW9) HX.out.1 HX.out.2.1)) Try.underlying27 rfl (hszL hxo))) ?_
          simp only [Act.put, List.setIfInBounds_toArray, List.set_cons_zero, List.set_cons_succ]
          refine Fre.made_val (.slice (some ⟨q, o2, none⟩) a.length cb) (by kernel_rfl) (by kernel_rfl) (by kernel_rfl) (fun _ _ => by kernel_rfl) ?_
          simp only [Act.put, List.setIfInBounds_toArray, List.set_cons_zero, List.set_cons_succ]
          refine Fre.made_val (.int .i64 (j : Int)) (by kernel_rfl) (by kernel_rfl) (by kernel_rfl) (fun _ _ => by kernel_rfl) ?_
          simp only [Act.put, List.setIfInBounds_toArray, List.set_cons_zero, List.set_cons_succ]
          refine Fre.made_val (.pointer (some ⟨q, o2 + j * 23, none⟩)) (by kernel_rfl) (by kernel_rfl) (by kernel_rfl) (fun W9 hW9 => (exec_idxO (o := ⟨some 24, _, _, _, _, _⟩) 25 43 (.tmp 22) (.tmp 23) rfl q o2 a.length cb j rfl rfl hj2 23 Try.underlying25 sz_itm W9)) ?_
          simp only [Act.put, List.setIfInBounds_toArray, List.set_cons_zero, List.set_cons_succ]
          refine Fre.made_val (.pointer (some ⟨q, o2 + j * 23, none⟩)) (by kernel_rfl) (by kernel_rfl) (by kernel_rfl) (fun _ _ => by kernel_rfl) ?_
          simp only [Act.put, List.setIfInBounds_toArray, List.set_cons_zero, List.set_cons_succ]
          refine Fre.made_val (.agg (bv y.1).toArray) (by kernel_rfl) (by kernel_rfl) (by kernel_rfl) (fun W9 hW9 => (exec_load_mid (o := ⟨some 26, _, _, _, _, _⟩) 27 (.tmp 25) rfl q (o2 + j * 23) rfl (bv y.1) _ W9 (item_cls9 (Mem.range (Mem.call HM.out hW9) HY.out.1 HY.out.2.1)) Try.underlying27 rfl (hszL hyo))) ?_
          simp only [Act.put, List.setIfInBounds_toArray, List.set_cons_zero, List.set_cons_succ]
          refine Fre.made_val (.bool true) (by kernel_rfl) (by kernel_rfl) (by kernel_rfl) (fun W9 hW9 => (exec_neA (o := ⟨some 27, _, _, _, _, _⟩) 27 27 (.tmp 21) (.tmp 26) rfl (bv x.1).toArray (bv y.1).toArray rfl rfl (by kernel_rfl) false W9 (by have h9 := eq_hash x.1 y.1 hxo hyo W9; rw [HC1.out] at h9; exact h9))) ?_
          simp only [Act.put, List.setIfInBounds_toArray, List.set_cons_zero, List.set_cons_succ]
          refine Fre.made_val (.bool true) (by kernel_rfl) (by kernel_rfl) (by kernel_rfl) (fun _ _ => by kernel_rfl) ?_
          simp only [Act.put, List.setIfInBounds_toArray, List.set_cons_zero, List.set_cons_succ]
          refine Fre.made_skip (by kernel_rfl) (by kernel_rfl) (by kernel_rfl) ?_
          simp only [Act.put, List.setIfInBounds_toArray, List.set_cons_zero, List.set_cons_succ]
          refine Fre.made_skip (by kernel_rfl) (by kernel_rfl) (by kernel_rfl) ?_
          simp only [Act.put, List.setIfInBounds_toArray, List.set_cons_zero, List.set_cons_succ]
          refine Fre.made_skip (by kernel_rfl) (by kernel_rfl) (by kernel_rfl) ?_
          simp only [Act.put, List.setIfInBounds_toArray, List.set_cons_zero, List.set_cons_succ]
          refine Fre.made_skip (by kernel_rfl) (by kernel_rfl) (by kernel_rfl) ?_
          simp only [Act.put, List.setIfInBounds_toArray, List.set_cons_zero, List.set_cons_succ]
          refine Fre.made_skip (by kernel_rfl) (by kernel_rfl) (by kernel_rfl) ?_
          simp only [Act.put, List.setIfInBounds_toArray, List.set_cons_zero, List.set_cons_succ]
          refine Fre.made_skip (by kernel_rfl) (by kernel_rfl) (by kernel_rfl) ?_
          simp only [Act.put, List.setIfInBounds_toArray, List.set_cons_zero, List.set_cons_succ]
          refine Fre.made_skip (by kernel_rfl) (by kernel_rfl) (by kernel_rfl) ?_
          simp only [Act.put, List.setIfInBounds_toArray, List.set_cons_zero, List.set_cons_succ]
          refine Fre.made_skip (by kernel_rfl) (by kernel_rfl) (by kernel_rfl) ?_
          simp only [Act.put, List.setIfInBounds_toArray, List.set_cons_zero, List.set_cons_succ]
          refine Fre.made_skip (by kernel_rfl) (by kernel_rfl) (by kernel_rfl) ?_
          simp only [Act.put, List.setIfInBounds_toArray, List.set_cons_zero, List.set_cons_succ]
          refine Fre.made_skip (by kernel_rfl) (by kernel_rfl) (by kernel_rfl) ?_
          simp only [Act.put, List.setIfInBounds_toArray, List.set_cons_zero, List.set_cons_succ]
          refine Fre.made_skip (by kernel_rfl) (by kernel_rfl) (by kernel_rfl) ?_
          simp only [Act.put, List.setIfInBounds_toArray, List.set_cons_zero, List.set_cons_succ]
          refine Fre.made_skip (by kernel_rfl) (by kernel_rfl) (by kernel_rfl) ?_
          simp only [Act.put, List.setIfInBounds_toArray, List.set_cons_zero, List.set_cons_succ]
          intro w1 hx
          dsimp only [Fre.ended, List.drop]
          have H1 := hide (Mem.call HM.out hx)
          clear hx
          go_wp2_with fail
          go_ret
          refine ⟨?_, Mem.below H1.out⟩
          have hne : ¬ a = b := by
            rintro rfl
            have h1 := HX.out.2.2.1
            rw [HY.out.2.2.1] at h1
            have h2 := Option.some.inj h1
            subst h2
            exact of_decide_eq_false HC1.out rfl
          rw [decide_eq_false hne]; rfl
        · cases hc2 : decide (x.2 = y.2)
          · have HC1 := hide hc1
            clear hc1
            have HC2 := hide hc2
            clear hc2
            go_wp2_with fail
            refine Fre.wp_made (X := Bel) 24 [] (by kernel_rfl) (by kernel_rfl) (by simp) (by simp) (by simp) ?_
            simp only [List.take_succ_cons, List.take_zero, List.drop_succ_cons, List.drop_zero]
            refine Fre.made_val (.slice (some ⟨p, o1, none⟩) a.length ca) (by kernel_rfl) (by kernel_rfl) (by kernel_rfl) (fun _ _ => by kernel_rfl) ?_
            simp only [Act.put, List.setIfInBounds_toArray, List.set_cons_zero, List.set_cons_succ]
            refine Fre.made_val (.int .i64 (j : Int)) (by kernel_rfl) (by kernel_rfl) (by kernel_rfl) (fun _ _ => by kernel_rfl) ?_
            simp only [Act.put, List.setIfInBounds_toArray, List.set_cons_zero, List.set_cons_succ]
            refine Fre.made_val (.pointer (some ⟨p, o1 + j * 23, none⟩)) (by kernel_rfl) (by kernel_rfl) (by kernel_rfl) (fun W9 hW9 => (exec_idxO (o := ⟨some 19, _, _, _, _, _⟩) 25 43 (.tmp 17) (.tmp 18) rfl p o1 a.length ca j rfl rfl hj2 23 Try.underlying25 sz_itm W9)) ?_
            simp only [Act.put, List.setIfInBounds_toArray, List.set_cons_zero, List.set_cons_succ]
            refine Fre.made_val (.pointer (some ⟨p, o1 + j * 23, none⟩)) (by kernel_rfl) (by kernel_rfl) (by kernel_rfl) (fun _ _ => by kernel_rfl) ?_
            simp only [Act.put, List.setIfInBounds_toArray, List.set_cons_zero, List.set_cons_succ]
            refine Fre.made_val (.agg (bv x.1).toArray) (by kernel_rfl) (by kernel_rfl) (by kernel_rfl) (fun W9 hW9 => (exec_load_mid (o := ⟨some 21, _, _, _, _, _⟩) 27 (.tmp 20) rfl p (o1 + j * 23) rfl (bv x.1) _ W9 (item_cls9 (Mem.range (Mem.call HM.out hW9) HX.out.1 HX.out.2.1)) Try.underlying27 rfl (hszL hxo))) ?_
            simp only [Act.put, List.setIfInBounds_toArray, List.set_cons_zero, List.set_cons_succ]
            refine Fre.made_val (.slice (some ⟨q, o2, none⟩) a.length cb) (by kernel_rfl) (by kernel_rfl) (by kernel_rfl) (fun _ _ => by kernel_rfl) ?_
            simp only [Act.put, List.setIfInBounds_toArray, List.set_cons_zero, List.set_cons_succ]
            refine Fre.made_val (.int .i64 (j : Int)) (by kernel_rfl) (by kernel_rfl) (by kernel_rfl) (fun _ _ => by kernel_rfl) ?_
            simp only [Act.put, List.setIfInBounds_toArray, List.set_cons_zero, List.set_cons_succ]
            refine Fre.made_val (.pointer (some ⟨q, o2 + j * 23, none⟩)) (by kernel_rfl) (by kernel_rfl) (by kernel_rfl) (fun W9 hW9 => (exec_idxO (o := ⟨some 24, _, _, _, _, _⟩) 25 43 (.tmp 22) (.tmp 23) rfl q o2 a.length cb j rfl rfl hj2 23 Try.underlying25 sz_itm W9)) ?_
            simp only [Act.put, List.setIfInBounds_toArray, List.set_cons_zero, List.set_cons_succ]
            refine Fre.made_val (.pointer (some ⟨q, o2 + j * 23, none⟩)) (by kernel_rfl) (by kernel_rfl) (by kernel_rfl) (fun _ _ => by kernel_rfl) ?_
            simp only [Act.put, List.setIfInBounds_toArray, List.set_cons_zero, List.set_cons_succ]
            refine Fre.made_val (.agg (bv y.1).toArray) (by kernel_rfl) (by kernel_rfl) (by kernel_rfl) (fun W9 hW9 => (exec_load_mid (o := ⟨some 26, _, _, _, _, _⟩) 27 (.tmp 25) rfl q (o2 + j * 23) rfl (bv y.1) _ W9 (item_cls9 (Mem.range (Mem.call HM.out hW9) HY.out.1 HY.out.2.1)) Try.underlying27 rfl (hszL hyo))) ?_
            simp only [Act.put, List.setIfInBounds_toArray, List.set_cons_zero, List.set_cons_succ]
            refine Fre.made_val (.bool false) (by kernel_rfl) (by kernel_rfl) (by kernel_rfl) (fun W9 hW9 => (exec_neA (o := ⟨some 27, _, _, _, _, _⟩) 27 27 (.tmp 21) (.tmp 26) rfl (bv x.1).toArray (bv y.1).toArray rfl rfl (by kernel_rfl) true W9 (by have h9 := eq_hash x.1 y.1 hxo hyo W9; rw [HC1.out] at h9; exact h9))) ?_
            simp only [Act.put, List.setIfInBounds_toArray, List.set_cons_zero, List.set_cons_succ]
            refine Fre.made_val (.bool false) (by kernel_rfl) (by kernel_rfl) (by kernel_rfl) (fun _ _ => by kernel_rfl) ?_
            simp only [Act.put, List.setIfInBounds_toArray, List.set_cons_zero, List.set_cons_succ]
            refine Fre.made_val (.slice (some ⟨p, o1, none⟩) a.length ca) (by kernel_rfl) (by kernel_rfl) (by kernel_rfl) (fun _ _ => by kernel_rfl) ?_
            simp only [Act.put, List.setIfInBounds_toArray, List.set_cons_zero, List.set_cons_succ]
            refine Fre.made_val (.int .i64 (j : Int)) (by kernel_rfl) (by kernel_rfl) (by kernel_rfl) (fun _ _ => by kernel_rfl) ?_
            simp only [Act.put, List.setIfInBounds_toArray, List.set_cons_zero, List.set_cons_succ]
            refine Fre.made_val (.pointer (some ⟨p, o1 + j * 23, none⟩)) (by kernel_rfl) (by kernel_rfl) (by kernel_rfl) (fun W9 hW9 => (exec_idxO (o := ⟨some 31, _, _, _, _, _⟩) 25 43 (.tmp 29) (.tmp 30) rfl p o1 a.length ca j rfl rfl hj2 23 Try.underlying25 sz_itm W9)) ?_
            simp only [Act.put, List.setIfInBounds_toArray, List.set_cons_zero, List.set_cons_succ]
            refine Fre.made_val (.pointer (some ⟨p, o1 + j * 23 + 20, none⟩)) (by kernel_rfl) (by kernel_rfl) (by kernel_rfl) (fun _ _ => by kernel_rfl) ?_
            simp only [Act.put, List.setIfInBounds_toArray, List.set_cons_zero, List.set_cons_succ]
            refine Fre.made_val (.agg (dC x.2 x1 x2).toArray) (by kernel_rfl) (by kernel_rfl) (by kernel_rfl) (fun W9 hW9 => (exec_load_mid (o := ⟨some 33, _, _, _, _, _⟩) 34 (.tmp 32) rfl p (o1 + j * 23 + 20) rfl (dC x.2 x1 x2) _ W9 (item_drv9 hxo (Mem.range (Mem.call HM.out hW9) HX.out.1 HX.out.2.1)) Try.underlying34 rfl (dC_szl x.2 x1 x2))) ?_
            simp only [Act.put, List.setIfInBounds_toArray, List.set_cons_zero, List.set_cons_succ]
            refine Fre.made_val (.slice (some ⟨q, o2, none⟩) a.length cb) (by kernel_rfl) (by kernel_rfl) (by kernel_rfl) (fun _ _ => by kernel_rfl) ?_
            simp only [Act.put, List.setIfInBounds_toArray, List.set_cons_zero, List.set_cons_succ]
            refine Fre.made_val (.int .i64 (j : Int)) (by kernel_rfl) (by kernel_rfl) (by kernel_rfl) (fun _ _ => by kernel_rfl) ?_
            simp only [Act.put, List.setIfInBounds_toArray, List.set_cons_zero, List.set_cons_succ]
            refine Fre.made_val (.pointer (some ⟨q, o2 + j * 23, none⟩)) (by kernel_rfl) (by kernel_rfl) (by kernel_rfl) (fun W9 hW9 => (exec_idxO (o := ⟨some 36, _, _, _, _, _⟩) 25 43 (.tmp 34) (.tmp 35) rfl q o2 a.length cb j rfl rfl hj2 23 Try.underlying25 sz_itm W9)) ?_
            simp only [Act.put, List.setIfInBounds_toArray, List.set_cons_zero, List.set_cons_succ]
            refine Fre.made_val (.pointer (some ⟨q, o2 + j * 23 + 20, none⟩)) (by kernel_rfl) (by kernel_rfl) (by kernel_rfl) (fun _ _ => by kernel_rfl) ?_
            simp only [Act.put, List.setIfInBounds_toArray, List.set_cons_zero, List.set_cons_succ]
            refine Fre.made_val (.agg (dC y.2 y1 y2).toArray) (by kernel_rfl) (by kernel_rfl) (by kernel_rfl) (fun W9 hW9 => (exec_load_mid (o := ⟨some 38, _, _, _, _, _⟩) 34 (.tmp 37) rfl q (o2 + j * 23 + 20) rfl (dC y.2 y1 y2) _ W9 (item_drv9 hyo (Mem.range (Mem.call HM.out hW9) HY.out.1 HY.out.2.1)) Try.underlying34 rfl (dC_szl y.2 y1 y2))) ?_
            simp only [Act.put, List.setIfInBounds_toArray, List.set_cons_zero, List.set_cons_succ]
            refine Fre.made_call (.bool false) 11 #[.agg (dC x.2 x1 x2).toArray, .agg (dC y.2 y1 y2).toArray] (by kernel_rfl) (by kernel_rfl) (by kernel_rfl) (fun W9 => by kernel_rfl) (fun W9 hW9 => sameD_c W9 x.2 y.2 x1 x2 y1 y2 (Mem.drv (Mem.call HM.out hW9) HX.out.2.2.2) (Mem.drv (Mem.call HM.out hW9) HY.out.2.2.2) _ HC2.out) ?_
            simp only [Act.put, List.setIfInBounds_toArray, List.set_cons_zero, List.set_cons_succ]
            refine Fre.made_val (.bool true) (by kernel_rfl) (by kernel_rfl) (by kernel_rfl) (fun _ _ => by kernel_rfl) ?_
            simp only [Act.put, List.setIfInBounds_toArray, List.set_cons_zero, List.set_cons_succ]
            intro w2 hx
            dsimp only [Fre.ended, List.drop]
            have H2 := hide (Mem.call HM.out hx)
            clear hx
            go_wp2_with fail
            go_ret
            refine ⟨?_, Mem.below H2.out⟩
            have hne : ¬ a = b := by
              rintro rfl
              have h1 := HX.out.2.2.1
              rw [HY.out.2.2.1] at h1
              have h2 := Option.some.inj h1
              subst h2
              exact of_decide_eq_false HC2.out rfl
            rw [decide_eq_false hne]; rfl
          · have HC1 := hide hc1
            clear hc1
            have HC2 := hide hc2
            clear hc2
            go_wp2_with fail
            refine Fre.wp_made (X := Bel) 24 [] (by kernel_rfl) (by kernel_rfl) (by simp) (by simp) (by simp) ?_
            simp only [List.take_succ_cons, List.take_zero, List.drop_succ_cons, List.drop_zero]
            refine Fre.made_val (.slice (some ⟨p, o1, none⟩) a.length ca) (by kernel_rfl) (by kernel_rfl) (by kernel_rfl) (fun _ _ => by kernel_rfl) ?_
            simp only [Act.put, List.setIfInBounds_toArray, List.set_cons_zero, List.set_cons_succ]
            refine Fre.made_val (.int .i64 (j : Int)) (by kernel_rfl) (by kernel_rfl) (by kernel_rfl) (fun _ _ => by kernel_rfl) ?_
            simp only [Act.put, List.setIfInBounds_toArray, List.set_cons_zero, List.set_cons_succ]
            refine Fre.made_val (.pointer (some ⟨p, o1 + j * 23, none⟩)) (by kernel_rfl) (by kernel_rfl) (by kernel_rfl) (fun W9 hW9 => (exec_idxO (o := ⟨some 19, _, _, _, _, _⟩) 25 43 (.tmp 17) (.tmp 18) rfl p o1 a.length ca j rfl rfl hj2 23 Try.underlying25 sz_itm W9)) ?_
            simp only [Act.put, List.setIfInBounds_toArray, List.set_cons_zero, List.set_cons_succ]
            refine Fre.made_val (.pointer (some ⟨p, o1 + j * 23, none⟩)) (by kernel_rfl) (by kernel_rfl) (by kernel_rfl) (fun _ _ => by kernel_rfl) ?_
            simp only [Act.put, List.setIfInBounds_toArray, List.set_cons_zero, List.set_cons_succ]
            refine Fre.made_val (.agg (bv x.1).toArray) (by kernel_rfl) (by kernel_rfl) (by kernel_rfl) (fun W9 hW9 => (exec_load_mid (o := ⟨some 21, _, _, _, _, _⟩) 27 (.tmp 20) rfl p (o1 + j * 23) rfl (bv x.1) _ W9 (item_cls9 (Mem.range (Mem.call HM.out hW9) HX.out.1 HX.out.2.1)) Try.underlying27 rfl (hszL hxo))) ?_
            simp only [Act.put, List.setIfInBounds_toArray, List.set_cons_zero, List.set_cons_succ]
            refine Fre.made_val (.slice (some ⟨q, o2, none⟩) a.length cb) (by kernel_rfl) (by kernel_rfl) (by kernel_rfl) (fun _ _ => by kernel_rfl) ?_
            simp only [Act.put, List.setIfInBounds_toArray, List.set_cons_zero, List.set_cons_succ]
            refine Fre.made_val (.int .i64 (j : Int)) (by kernel_rfl) (by kernel_rfl) (by kernel_rfl) (fun _ _ => by kernel_rfl) ?_
            simp only [Act.put, List.setIfInBounds_toArray, List.set_cons_zero, List.set_cons_succ]
            refine Fre.made_val (.pointer (some ⟨q, o2 + j * 23, none⟩)) (by kernel_rfl) (by kernel_rfl) (by kernel_rfl) (fun W9 hW9 => (exec_idxO (o := ⟨some 24, _, _, _, _, _⟩) 25 43 (.tmp 22) (.tmp 23) rfl q o2 a.length cb j rfl rfl hj2 23 Try.underlying25 sz_itm W9)) ?_
            simp only [Act.put, List.setIfInBounds_toArray, List.set_cons_zero, List.set_cons_succ]
            refine Fre.made_val (.pointer (some ⟨q, o2 + j * 23, none⟩)) (by kernel_rfl) (by kernel_rfl) (by kernel_rfl) (fun _ _ => by kernel_rfl) ?_
            simp only [Act.put, List.setIfInBounds_toArray, List.set_cons_zero, List.set_cons_succ]
            refine Fre.made_val (.agg (bv y.1).toArray) (by kernel_rfl) (by kernel_rfl) (by kernel_rfl) (fun W9 hW9 => (exec_load_mid (o := ⟨some 26, _, _, _, _, _⟩) 27 (.tmp 25) rfl q (o2 + j * 23) rfl (bv y.1) _ W9 (item_cls9 (Mem.range (Mem.call HM.out hW9) HY.out.1 HY.out.2.1)) Try.underlying27 rfl (hszL hyo))) ?_
            simp only [Act.put, List.setIfInBounds_toArray, List.set_cons_zero, List.set_cons_succ]
            refine Fre.made_val (.bool false) (by kernel_rfl) (by kernel_rfl) (by kernel_rfl) (fun W9 hW9 => (exec_neA (o := ⟨some 27, _, _, _, _, _⟩) 27 27 (.tmp 21) (.tmp 26) rfl (bv x.1).toArray (bv y.1).toArray rfl rfl (by kernel_rfl) true W9 (by have h9 := eq_hash x.1 y.1 hxo hyo W9; rw [HC1.out] at h9; exact h9))) ?_
            simp only [Act.put, List.setIfInBounds_toArray, List.set_cons_zero, List.set_cons_succ]
            refine Fre.made_val (.bool false) (by kernel_rfl) (by kernel_rfl) (by kernel_rfl) (fun _ _ => by kernel_rfl) ?_
            simp only [Act.put, List.setIfInBounds_toArray, List.set_cons_zero, List.set_cons_succ]
            refine Fre.made_val (.slice (some ⟨p, o1, none⟩) a.length ca) (by kernel_rfl) (by kernel_rfl) (by kernel_rfl) (fun _ _ => by kernel_rfl) ?_
            simp only [Act.put, List.setIfInBounds_toArray, List.set_cons_zero, List.set_cons_succ]
            refine Fre.made_val (.int .i64 (j : Int)) (by kernel_rfl) (by kernel_rfl) (by kernel_rfl) (fun _ _ => by kernel_rfl) ?_
            simp only [Act.put, List.setIfInBounds_toArray, List.set_cons_zero, List.set_cons_succ]
            refine Fre.made_val (.pointer (some ⟨p, o1 + j * 23, none⟩)) (by kernel_rfl) (by kernel_rfl) (by kernel_rfl) (fun W9 hW9 => (exec_idxO (o := ⟨some 31, _, _, _, _, _⟩) 25 43 (.tmp 29) (.tmp 30) rfl p o1 a.length ca j rfl rfl hj2 23 Try.underlying25 sz_itm W9)) ?_
            simp only [Act.put, List.setIfInBounds_toArray, List.set_cons_zero, List.set_cons_succ]
            refine Fre.made_val (.pointer (some ⟨p, o1 + j * 23 + 20, none⟩)) (by kernel_rfl) (by kernel_rfl) (by kernel_rfl) (fun _ _ => by kernel_rfl) ?_
            simp only [Act.put, List.setIfInBounds_toArray, List.set_cons_zero, List.set_cons_succ]
            refine Fre.made_val (.agg (dC x.2 x1 x2).toArray) (by kernel_rfl) (by kernel_rfl) (by kernel_rfl) (fun W9 hW9 => (exec_load_mid (o := ⟨some 33, _, _, _, _, _⟩) 34 (.tmp 32) rfl p (o1 + j * 23 + 20) rfl (dC x.2 x1 x2) _ W9 (item_drv9 hxo (Mem.range (Mem.call HM.out hW9) HX.out.1 HX.out.2.1)) Try.underlying34 rfl (dC_szl x.2 x1 x2))) ?_
            simp only [Act.put, List.setIfInBounds_toArray, List.set_cons_zero, List.set_cons_succ]
            refine Fre.made_val (.slice (some ⟨q, o2, none⟩) a.length cb) (by kernel_rfl) (by kernel_rfl) (by kernel_rfl) (fun _ _ => by kernel_rfl) ?_
            simp only [Act.put, List.setIfInBounds_toArray, List.set_cons_zero, List.set_cons_succ]
            refine Fre.made_val (.int .i64 (j : Int)) (by kernel_rfl) (by kernel_rfl) (by kernel_rfl) (fun _ _ => by kernel_rfl) ?_
            simp only [Act.put, List.setIfInBounds_toArray, List.set_cons_zero, List.set_cons_succ]
            refine Fre.made_val (.pointer (some ⟨q, o2 + j * 23, none⟩)) (by kernel_rfl) (by kernel_rfl) (by kernel_rfl) (fun W9 hW9 => (exec_idxO (o := ⟨some 36, _, _, _, _, _⟩) 25 43 (.tmp 34) (.tmp 35) rfl q o2 a.length cb j rfl rfl hj2 23 Try.underlying25 sz_itm W9)) ?_
            simp only [Act.put, List.setIfInBounds_toArray, List.set_cons_zero, List.set_cons_succ]
            refine Fre.made_val (.pointer (some ⟨q, o2 + j * 23 + 20, none⟩)) (by kernel_rfl) (by kernel_rfl) (by kernel_rfl) (fun _ _ => by kernel_rfl) ?_
            simp only [Act.put, List.setIfInBounds_toArray, List.set_cons_zero, List.set_cons_succ]
            refine Fre.made_val (.agg (dC y.2 y1 y2).toArray) (by kernel_rfl) (by kernel_rfl) (by kernel_rfl) (fun W9 hW9 => (exec_load_mid (o := ⟨some 38, _, _, _, _, _⟩) 34 (.tmp 37) rfl q (o2 + j * 23 + 20) rfl (dC y.2 y1 y2) _ W9 (item_drv9 hyo (Mem.range (Mem.call HM.out hW9) HY.out.1 HY.out.2.1)) Try.underlying34 rfl (dC_szl y.2 y1 y2))) ?_
            simp only [Act.put, List.setIfInBounds_toArray, List.set_cons_zero, List.set_cons_succ]
            refine Fre.made_call (.bool true) 11 #[.agg (dC x.2 x1 x2).toArray, .agg (dC y.2 y1 y2).toArray] (by kernel_rfl) (by kernel_rfl) (by kernel_rfl) (fun W9 => by kernel_rfl) (fun W9 hW9 => sameD_c W9 x.2 y.2 x1 x2 y1 y2 (Mem.drv (Mem.call HM.out hW9) HX.out.2.2.2) (Mem.drv (Mem.call HM.out hW9) HY.out.2.2.2) _ HC2.out) ?_
            simp only [Act.put, List.setIfInBounds_toArray, List.set_cons_zero, List.set_cons_succ]
            refine Fre.made_val (.bool false) (by kernel_rfl) (by kernel_rfl) (by kernel_rfl) (fun _ _ => by kernel_rfl) ?_
            simp only [Act.put, List.setIfInBounds_toArray, List.set_cons_zero, List.set_cons_succ]
            intro w3 hx
            dsimp only [Fre.ended, List.drop]
            have H3 := hide (Mem.call HM.out hx)
            clear hx
            go_wp2_with fail
            go_roundw
            case rel => exact ⟨j + 1, by omega, by go_num, (by rw [List.take_add_one, List.take_add_one, HT.out, HX.out.2.2.1, HY.out.2.2.1, Prod.ext (of_decide_eq_true HC1.out) (of_decide_eq_true HC2.out)]), H3.out⟩
            case measure => simp [intOf]; omega
      · obtain rfl : j = a.length := by omega
        go_wp2_with fail
        go_ret
        refine ⟨?_, Mem.below HM.out⟩
        have : a = b := by
          have h2 := HT.out
          rwa [List.take_of_length_le (Nat.le_refl _), List.take_of_length_le (by have := HLN.out; omega)] at h2
        rw [decide_eq_true this]; rfl
  · have hne : ¬ (a.length : Int) = (b.length : Int) := by omega
    have hd : decide (a = b) = false := decide_eq_false (by rintro rfl; exact hlen rfl)
    rw [hd]
    clear hA hB
    go_enter Try.func12, Try.ntmps12
    go_wp2_with fail
    go_ret
    exact ⟨rfl, Below.refl _ _⟩
end Go.Proofs.Ytidiepbmbbflhaa
end
section
namespace Go.Proofs.Ytidiepbmbbflhaa
open Go Go.RowKit Go.Maps
set_option maxRecDepth 100000
/-- what is so of the table behind j derivations -/
structure GI (T : List Itm) (j : Nat) : Prop where
  tab : tabP hofP T = true
  ok : ∀ x ∈ T, OkD x.2
  len : T.length ≤ j
  small : ∀ x ∈ T, x.2.2.1.length ≤ 1500 ∧ x.2.2.2.length ≤ 1500
theorem GI.nil : GI [] 0 := ⟨rfl, (fun _ h => by cases h), Nat.le_refl _, (fun _ h => by cases h)⟩
theorem GI.more {T : List Itm} {j : Nat} (h : GI T j) : GI T (j + 1) := ⟨h.tab, h.ok, Nat.le_succ_of_le h.len, h.small⟩
theorem GI.hash {T : List Itm} {j : Nat} (h : GI T j) : ∀ x ∈ T, okH x.1 := fun x hx => by
  have := tab_of h.tab hx
  rw [← this]
  exact hofP_ok _
theorem GI.sizes {T : List Itm} {j : Nat} (h : GI T j) : ∀ x ∈ T, x.2.2.1.length ≤ 1000000 ∧ x.2.2.2.length ≤ 1000000 := fun x hx => by have := h.small x hx; omega
theorem add_from {hof : Drv → Hsh} {T NT : List Itm} {d : Drv} {c : Hsh} (ha : addP hof T d = (NT, c, 0)) : ∀ x ∈ NT, x ∈ T ∨ x.2 = d := fun x hx => by
  obtain ⟨_, _, _, _, h4⟩ := add_ok ha
  rcases h4 with ⟨y, _, _, rfl⟩ | ⟨_, rfl⟩
  · exact .inl hx
  · rcases List.mem_append.1 hx with hx | hx
    · exact .inl hx
    · rw [List.mem_singleton.1 hx]; exact .inr rfl
theorem GI.step {T NT : List Itm} {j : Nat} {d : Drv} {c : Hsh} (h : GI T j) (ha : addP hofP T d = (NT, c, 0)) (hd : OkD d) (hs : d.2.1.length ≤ 1500 ∧ d.2.2.length ≤ 1500) : GI NT (j + 1) := by
  obtain ⟨g1, _, _, g4, g5, g6, _, g8, _⟩ := add_grows (hof := hofP) ha hd h.ok
  refine ⟨g1, g8, by have := h.len; omega, fun x hx => ?_⟩
  rcases add_from ha x hx with hx | hx
  · exact h.small x hx
  · rw [hx]; exact hs
theorem okd_of {w : World} {B : Nat} {d : Drv} {v1 v2 : Value} (h : DrvAt w B d v1 v2) : OkD d := ⟨h.okn9, fun x hx => by
  have := h.okb9 x hx
  simp [Lit.wf, IntKind.min, IntKind.max, IntKind.signed, IntKind.bits] at this
  omega⟩
theorem alike_c (w : World) (a b : List Itm) (u v : Value) (ha : itmsLay.At w w.heap.size [u] a) (hb : itmsLay.At w w.heap.size [v] b) (c : Bool) (hc : decide (a = b) = c) :
    Calls Try.prog 12 #[u, v] w fun e w' => e = .returned (.bool c) ∧ Below w.heap.size w w' := by
  subst hc
  obtain ⟨A, ca, rfl, _⟩ := slice_open ha
  obtain ⟨B, cb, rfl, _⟩ := slice_open hb
  exact alike_any w a b A B ca cb ha hb
theorem own_cap {w : World} {B s k n c : Nat} {t : TypeId} {A : Option Addr} {xs : List Value} (h : w.ownsRow B t s (.slice A n c) k xs) : n ≤ c := by
  rcases owned_formN h with ⟨h1, _⟩ | ⟨g, cap, cur, h1, _, h2, _⟩
  · injection h1 with _ e1 e2
    omega
  · injection h1 with _ e1 e2
    omega
theorem items_take {w : World} {B : Nat} {A : Option Addr} {n c : Nat} {l T : List Itm} (h : itmsLay.At w B [.slice A n c] l) (hT : l.take T.length = T) (hl : T.length ≤ l.length) : itmsLay.At w B [.slice A T.length c] T := by
  obtain ⟨A', c', e, h1, h2, h3, h4⟩ := h
  simp only [List.cons.injEq, Value.slice.injEq, and_true] at e
  obtain ⟨rfl, rfl, rfl⟩ := e
  refine ⟨A, c, rfl, by omega, h2, h3, fun hp => ?_⟩
  obtain ⟨b, off, e1, e2, hE⟩ := h4 (by omega)
  refine ⟨b, off, e1, e2, fun j x hj => hE j x ?_⟩
  rw [← hT] at hj
  rw [← hj, List.getElem?_take_of_lt]
  have := (List.getElem?_eq_some_iff.1 hj).1
  rw [List.length_take] at this
  omega
set_option maxHeartbeats 8000000 in
theorem grows_any (w : World) (l : List Drv) (A : Option Addr) (cap : Nat) (h : drvsLay.At w w.heap.size [.slice A l.length cap] l) (hl : ∀ x ∈ l, LightD x) :
    Calls Try.prog 3 #[.slice A l.length cap] w fun e w' => e = .returned (.bool true) ∧ Below w.heap.size w w' := by
  have HAT := hide h
  obtain ⟨A', cap', e, _, hcm9, _, hA⟩ := slice_open h
  injection e with e1 e2 e3
  subst e1 e3
  have k9 : (l.length : Int) ≤ 9223372036854775807 := by simp only [maxLen] at hcm9; omega
  have HA := hide hA
  have HLI := hide hl
  clear hA h e2 hl hcm9
  by_cases h30 : 30 < l.length
  · have h31 : (30 : Int) < (l.length : Int) := by omega
    have H0 := hide (Mem.start w)
    go_enter Try.func3, Try.ntmps3
    go_wp2_with fail
    refine (awake19_any w).mono ?_
    rintro e w1 ⟨rfl, hb⟩
    dsimp only
    have H1 := hide (Mem.call H0.out hb)
    clear hb
    go_wp2_with fail
    go_ret
    exact ⟨rfl, Mem.below H1.out⟩
  · have h31 : ¬ (30 : Int) < (l.length : Int) := by omega
    by_cases hgr : 1500 < cntF (drvOfP 1500) 1500 0 l
    · have hg1 : (1500 : Int) < ((cntF (drvOfP 1500) 1500 0 l : Nat) : Int) := by omega
      have H0 := hide (Mem.start w)
      go_enter Try.func3, Try.ntmps3
      go_wp2_with fail
      refine (awake19_any w).mono ?_
      rintro e w1 ⟨rfl, hb⟩
      dsimp only
      have H1 := hide (Mem.call H0.out hb)
      clear hb
      go_wp2_with fail
      refine (drvsOf_any w1 1500 (by omega) l A cap (Mem.lay H1.out HAT.out) HLI.out).mono ?_
      rintro e w2 ⟨rfl, hb⟩
      dsimp only
      have H2 := hide (Mem.call H1.out hb)
      clear hb
      go_wp2_with fail
      go_ret
      exact ⟨rfl, Mem.below H2.out⟩
    · have hg1 : ¬ (1500 : Int) < ((cntF (drvOfP 1500) 1500 0 l : Nat) : Int) := by omega
      have hsm : ∀ d ∈ l, d.2.1.length ≤ 1500 ∧ d.2.2.length ≤ 1500 := fun d hd => by
        have h1 := (cntF_le (most := 1500) (drvOfP_pos 1500) l 0 (by omega)).2.2 d hd
        have h2 := drvOfP_small h1
        omega
      have HSM := hide hsm
      clear hsm
      have H0 := hide (Mem.start w)
      go_enter Try.func3, Try.ntmps3
      go_wp2_with fail
      refine (awake19_any w).mono ?_
      rintro e w1 ⟨rfl, hb⟩
      dsimp only
      have H1 := hide (Mem.call H0.out hb)
      clear hb
      go_wp2_with fail
      refine (drvsOf_any w1 1500 (by omega) l A cap (Mem.lay H1.out HAT.out) HLI.out).mono ?_
      rintro e w2 ⟨rfl, hb⟩
      dsimp only
      have H2 := hide (Mem.call H1.out hb)
      clear hb
      go_wp2_with fail
      go_loopw [3, 4] (fun x3 x4 wr => ∃ (j : Nat) (T : List Itm) (A0 : Option Addr) (q0 : Nat) (ls : List ItmV), j ≤ l.length ∧ x3 = .slice A0 T.length q0 ∧ x4 = .int .i64 (j : Int) ∧ GI T j ∧ ls.map (·.1) = T ∧ Mem w wr (itmsL w.heap.size (.slice A0 T.length q0) ls)) (fun _ x4 _ => l.length - (intOf x4).toNat)
      case atStart => exact ⟨0, [], none, 0, [], by omega, rfl, rfl, GI.nil, rfl, ((Mem.pick H2.out [] (by decide) rfl).allNil _).nilRow _ _ _⟩
      case round =>
        obtain ⟨wo, rfl⟩ : ∃ wo, wo = wr := ⟨_, rfl⟩
        obtain ⟨j, T, A0, q0, ls, hj, rfl, rfl, hgi, hls, hm⟩ := hrel
        have HM := hide hm
        have HS0 := hide hls
        have HG := hide hgi
        have hT := hgi.len
        have hT9 : T.length ≤ 30 := by omega
        have HOT := hide hgi.hash
        have HLT := hide hgi.sizes
        clear hm hls hgi
        have j0 : (0 : Int) ≤ (j : Int) := by omega
        by_cases hj2 : j < l.length
        · have j1 : (j : Int) < (l.length : Int) := by omega
          obtain ⟨d, hd⟩ : ∃ d, l[j]? = some d := ⟨_, List.getElem?_eq_getElem (by omega)⟩
          obtain ⟨b, off, rfl, hltb, hE⟩ := HA.out (by omega)
          obtain ⟨cs, hrd, hatd⟩ := hE j d hd
          clear hE
          obtain ⟨v1, v2, rfl, hdd⟩ := drvLay_at.1 hatd
          obtain ⟨o1, o2⟩ := hdd.ones
          have hsm := HSM.out d (List.mem_of_getElem? hd)
          have hOk := okd_of hdd
          have HX := hide (And.intro hrd (And.intro hltb (And.intro hdd hOk)))
          have hsm9 : d.2.1.length ≤ 1000000 ∧ d.2.2.length ≤ 1000000 := by omega
          clear hrd hltb hatd hd hdd hOk
          obtain ⟨r, hr⟩ : ∃ r, addP hofP T d = r := ⟨_, rfl⟩
          obtain ⟨NT, h, e⟩ := r
          have HR := hide hr
          clear hr
          by_cases he : e = 0
          · subst he
            obtain ⟨g1, g2, g3, g4, g5, g6, g7, g8, g9⟩ := add_grows (hof := hofP) HR.out HX.out.2.2.2 HG.out.ok
            have hgi2 := HG.out.step HR.out HX.out.2.2.2 hsm
            have HG2 := hide hgi2
            have HON := hide hgi2.hash
            have HLN := hide hgi2.sizes
            have hN9 : NT.length ≤ 31 := by omega
            have hoh : okH h := g2 ▸ hofP_ok d
            have HH := hide g2.symm
            have HTN := hide g1
            have HTK := hide g4
            have HAG := hide g7
            have HPU := hide g9
            have n1 : ¬ NT.length < T.length := by omega
            have n2 : ¬ T.length + 1 < NT.length := by omega
            obtain ⟨fx, hfx, hfd⟩ := g3
            have HFI := hide hfx
            have hfdd : findD NT h = d := (findD_of hfx).trans hfd
            have HFD := hide hfdd
            clear g1 g2 g4 g7 g8 g9 hgi2 hfx hfd hfdd
            go_wp2_with (first | ((with_reducible refine at_slot 40 ?_); (refine wpList_value (o := ⟨some 40, _, _, _, _, _⟩) rfl (.pointer (some ⟨b, off + j * 3, none⟩)) wo (exec_idxO (o := ⟨some 40, _, _, _, _, _⟩) 22 34 (.tmp 38) (.tmp 39) rfl b off l.length cap j rfl rfl hj2 3 Try.underlying22 sz_drv wo) ?_)) | ((with_reducible refine at_slot 41 ?_); (refine wpList_value (o := ⟨some 41, _, _, _, _, _⟩) rfl (.agg (dC d v1 v2).toArray) wo (exec_load_mid (o := ⟨some 41, _, _, _, _, _⟩) 34 (.tmp 40) rfl b (off + j * 3) rfl (dC d v1 v2) _ wo (Mem.range HM.out HX.out.1 HX.out.2.1) Try.underlying34 rfl (dC_szl d v1 v2)) ?_)))
            refine (add_yesV wo T _ d v1 v2 (itms_now (Mem.pick HM.out [0, 1] (by decide) rfl) HOT.out HS0.out) HLT.out (by omega) (Mem.drv HM.out HX.out.2.2.1) hsm9 h HH.out NT HR.out NT.length rfl).mono ?_
            rintro e w6 ⟨A1, q1, ls1, rfl, hls, hm⟩
            dsimp only
            have H6 := hide (Mem.seq HM.out (itms_lower hm (Mem.below HM.out).size))
            have HS1 := hide hls
            clear hm hls
            go_wp2_with (first | ((with_reducible refine at_slot 6 ?_); (refine wpList_newZ (o := ⟨some 6, _, _, _, _, _⟩) rfl 27 zcH (by kernel_rfl) ?_); intro w7 hn; have H7 := hide (Mem.new1 H6.out hn); clear hn; simp only [Act.put, List.setIfInBounds_toArray, List.set_cons_zero, List.set_cons_succ]) | ((with_reducible refine at_store 6 44 ?_); (with_reducible refine wpList_store_blkA (o := ⟨none, _, _, _, _, _⟩) rfl 27 (.tmp 6) (.tmp 44) rfl w6.heap.size zcH (bv h).toArray 27 (Mem.blk H7.out 0 rfl) ?_ ?_ ?_ ?_ ?_ ?_); (exact (hszD hoh)); (exact sz_eq zcH_sz (hszD hoh)); (exact (bv_1 h)); rfl; rfl; intro w8 hk hg; have H8 := hide (Mem.st H7.out 0 rfl hk hg); clear hk hg; simp only [Act.put, List.setIfInBounds_toArray, List.set_cons_zero, List.set_cons_succ]) | ((with_reducible refine at_slot 59 ?_); (refine wpList_value (o := ⟨some 59, _, _, _, _, _⟩) rfl (.pointer (some ⟨b, off + j * 3, none⟩)) w8 (exec_idxO (o := ⟨some 59, _, _, _, _, _⟩) 22 34 (.tmp 57) (.tmp 58) rfl b off l.length cap j rfl rfl hj2 3 Try.underlying22 sz_drv w8) ?_)) | ((with_reducible refine at_slot 60 ?_); (refine wpList_value (o := ⟨some 60, _, _, _, _, _⟩) rfl (.agg (dC d v1 v2).toArray) w8 (exec_load_mid (o := ⟨some 60, _, _, _, _, _⟩) 34 (.tmp 59) rfl b (off + j * 3) rfl (dC d v1 v2) _ w8 (Mem.range H8.out HX.out.1 HX.out.2.1) Try.underlying34 rfl (dC_szl d v1 v2)) ?_)))
            refine (of_yes w8 d v1 v2 (Mem.drv H8.out HX.out.2.2.1) h HH.out HPU.out).mono ?_
            rintro e w9 ⟨rfl, hb⟩
            dsimp only
            have H9 := hide (Mem.call H8.out hb)
            clear hb
            go_wp2_with (first | ((with_reducible refine at_slot 8 ?_); (refine wpList_newZ (o := ⟨some 8, _, _, _, _, _⟩) rfl 27 zcH (by kernel_rfl) ?_); intro w10 hn; have H10 := hide (Mem.new1 H9.out hn); clear hn; simp only [Act.put, List.setIfInBounds_toArray, List.set_cons_zero, List.set_cons_succ]) | ((with_reducible refine at_store 8 62 ?_); (with_reducible refine wpList_store_blkA (o := ⟨none, _, _, _, _, _⟩) rfl 27 (.tmp 8) (.tmp 62) rfl w9.heap.size zcH (bv h).toArray 27 (Mem.blk H10.out 0 rfl) ?_ ?_ ?_ ?_ ?_ ?_); (exact (hszD hoh)); (exact sz_eq zcH_sz (hszD hoh)); (exact (bv_1 h)); rfl; rfl; intro w11 hk hg; have H11 := hide (Mem.st H10.out 0 rfl hk hg); clear hk hg; simp only [Act.put, List.setIfInBounds_toArray, List.set_cons_zero, List.set_cons_succ]) | ((with_reducible refine at_slot 66 ?_); (refine wpList_value (o := ⟨some 66, _, _, _, _, _⟩) rfl (.agg (bv h).toArray) w11 (exec_load_mid (o := ⟨some 66, _, _, _, _, _⟩) 27 (.tmp 6) rfl w6.heap.size (0) rfl (bv h) _ w11 (Blk.range (Mem.blk H11.out 1 rfl)) Try.underlying27 rfl (hszL hoh)) ?_)))
            refine (findM w11 NT _ (itms_now (Mem.pick H11.out [2, 3] (by decide) rfl) HON.out HS1.out) h hoh HLN.out d HFD.out true (by rw [HFI.out]; rfl)).mono ?_
            rintro e w12 ⟨p1, p2, rfl, hp1, hp2, hm⟩
            dsimp only
            have H12 := hide (Mem.seq H11.out hm)
            clear hm
            go_wp2_with (first | ((with_reducible refine at_slot 10 ?_); (refine wpList_newZ (o := ⟨some 10, _, _, _, _, _⟩) rfl 34 zcD (by kernel_rfl) ?_); intro w13 hn; have H13 := hide (Mem.new1 H12.out hn); clear hn; simp only [Act.put, List.setIfInBounds_toArray, List.set_cons_zero, List.set_cons_succ]) | ((with_reducible refine at_store 10 68 ?_); (with_reducible refine wpList_store_blkA (o := ⟨none, _, _, _, _, _⟩) rfl 34 (.tmp 10) (.tmp 68) rfl w12.heap.size zcD (dC d p1 p2).toArray 34 (Mem.blk H13.out 0 rfl) ?_ ?_ ?_ ?_ ?_ ?_); (exact (dC_sz d p1 p2)); (exact sz_eq zcD_sz (dC_sz d p1 p2)); (exact (dC_1 d hp1 hp2)); rfl; rfl; intro w14 hk hg; have H14 := hide (Mem.st H13.out 0 rfl hk hg); clear hk hg; simp only [Act.put, List.setIfInBounds_toArray, List.set_cons_zero, List.set_cons_succ]) | ((with_reducible refine at_slot 74 ?_); (refine wpList_value (o := ⟨some 74, _, _, _, _, _⟩) rfl (.pointer (some ⟨b, off + j * 3, none⟩)) w14 (exec_idxO (o := ⟨some 74, _, _, _, _, _⟩) 22 34 (.tmp 72) (.tmp 73) rfl b off l.length cap j rfl rfl hj2 3 Try.underlying22 sz_drv w14) ?_)) | ((with_reducible refine at_slot 75 ?_); (refine wpList_value (o := ⟨some 75, _, _, _, _, _⟩) rfl (.agg (dC d v1 v2).toArray) w14 (exec_load_mid (o := ⟨some 75, _, _, _, _, _⟩) 34 (.tmp 74) rfl b (off + j * 3) rfl (dC d v1 v2) _ w14 (Mem.range H14.out HX.out.1 HX.out.2.1) Try.underlying34 rfl (dC_szl d v1 v2)) ?_)))
            refine (add_yesV w14 NT _ d v1 v2 (itms_now (Mem.pick H14.out [4, 5] (by decide) rfl) HON.out HS1.out) HLN.out (by omega) (Mem.drv H14.out HX.out.2.2.1) hsm9 h HH.out NT HAG.out NT.length rfl).mono ?_
            rintro e w15 ⟨A2, q2, ls2, rfl, hls, hm⟩
            dsimp only
            have H15 := hide (Mem.seq H14.out (itms_lower hm (Mem.below H14.out).size))
            have HS2 := hide hls
            clear hm hls
            go_wp2_with (first | ((with_reducible refine at_slot 13 ?_); (refine wpList_newZ (o := ⟨some 13, _, _, _, _, _⟩) rfl 27 zcH (by kernel_rfl) ?_); intro w16 hn; have H16 := hide (Mem.new1 H15.out hn); clear hn; simp only [Act.put, List.setIfInBounds_toArray, List.set_cons_zero, List.set_cons_succ]) | ((with_reducible refine at_store 13 78 ?_); (with_reducible refine wpList_store_blkA (o := ⟨none, _, _, _, _, _⟩) rfl 27 (.tmp 13) (.tmp 78) rfl w15.heap.size zcH (bv h).toArray 27 (Mem.blk H16.out 0 rfl) ?_ ?_ ?_ ?_ ?_ ?_); (exact (hszD hoh)); (exact sz_eq zcH_sz (hszD hoh)); (exact (bv_1 h)); rfl; rfl; intro w17 hk hg; have H17 := hide (Mem.st H16.out 0 rfl hk hg); clear hk hg; simp only [Act.put, List.setIfInBounds_toArray, List.set_cons_zero, List.set_cons_succ]))
            have HCP := hide (own_cap (Mem.own H17.out 7 rfl))
            go_wp2_with fail
            refine Fre.wp_made (X := Bel) 63 [] (by kernel_rfl) (by kernel_rfl) (by simp) (by simp) (by simp) ?_
            simp only [List.take_succ_cons, List.take_zero, List.drop_succ_cons, List.drop_zero]
            refine Fre.made_val (.slice A1 NT.length q1) (by kernel_rfl) (by kernel_rfl) (by kernel_rfl) (fun _ _ => by kernel_rfl) ?_
            simp only [Act.put, List.setIfInBounds_toArray, List.set_cons_zero, List.set_cons_succ]
            refine Fre.made_call (.bool true) 10 #[.slice A1 NT.length q1] (by kernel_rfl) (by kernel_rfl) (by kernel_rfl) (fun W9 => by kernel_rfl) (fun W9 hW9 => tableB W9 NT A1 q1 (itms_now (Mem.pick (Mem.call H17.out hW9) [7, 8] (by decide) rfl) HON.out HS1.out) (fun x hx => (HLN.out x hx).1) true HTN.out) ?_
            simp only [Act.put, List.setIfInBounds_toArray, List.set_cons_zero, List.set_cons_succ]
            refine Fre.made_val (.bool false) (by kernel_rfl) (by kernel_rfl) (by kernel_rfl) (fun _ _ => by kernel_rfl) ?_
            simp only [Act.put, List.setIfInBounds_toArray, List.set_cons_zero, List.set_cons_succ]
            refine Fre.made_val (.bool false) (by kernel_rfl) (by kernel_rfl) (by kernel_rfl) (fun _ _ => by kernel_rfl) ?_
            simp only [Act.put, List.setIfInBounds_toArray, List.set_cons_zero, List.set_cons_succ]
            refine Fre.made_val (.int .i64 0) (by kernel_rfl) (by kernel_rfl) (by kernel_rfl) (fun _ _ => by kernel_rfl) ?_
            simp only [Act.put, List.setIfInBounds_toArray, List.set_cons_zero, List.set_cons_succ]
            refine Fre.made_val (.bool false) (by kernel_rfl) (by kernel_rfl) (by kernel_rfl) (fun _ _ => by kernel_rfl) ?_
            simp only [Act.put, List.setIfInBounds_toArray, List.set_cons_zero, List.set_cons_succ]
            refine Fre.made_val (.bool false) (by kernel_rfl) (by kernel_rfl) (by kernel_rfl) (fun _ _ => by kernel_rfl) ?_
            simp only [Act.put, List.setIfInBounds_toArray, List.set_cons_zero, List.set_cons_succ]
            refine Fre.made_val (.bool false) (by kernel_rfl) (by kernel_rfl) (by kernel_rfl) (fun _ _ => by kernel_rfl) ?_
            simp only [Act.put, List.setIfInBounds_toArray, List.set_cons_zero, List.set_cons_succ]
            refine Fre.made_val (.agg (bv h).toArray) (by kernel_rfl) (by kernel_rfl) (by kernel_rfl) (fun W9 hW9 => (exec_load_mid (o := ⟨some 88, _, _, _, _, _⟩) 27 (.tmp 8) rfl w9.heap.size (0) rfl (bv h) _ W9 (Blk.range (Mem.blk (Mem.call H17.out hW9) 5 rfl)) Try.underlying27 rfl (hszL hoh))) ?_
            simp only [Act.put, List.setIfInBounds_toArray, List.set_cons_zero, List.set_cons_succ]
            refine Fre.made_val (.agg (bv h).toArray) (by kernel_rfl) (by kernel_rfl) (by kernel_rfl) (fun W9 hW9 => (exec_load_mid (o := ⟨some 89, _, _, _, _, _⟩) 27 (.tmp 6) rfl w6.heap.size (0) rfl (bv h) _ W9 (Blk.range (Mem.blk (Mem.call H17.out hW9) 6 rfl)) Try.underlying27 rfl (hszL hoh))) ?_
            simp only [Act.put, List.setIfInBounds_toArray, List.set_cons_zero, List.set_cons_succ]
            refine Fre.made_val (.bool false) (by kernel_rfl) (by kernel_rfl) (by kernel_rfl) (fun W9 hW9 => (exec_neA (o := ⟨some 90, _, _, _, _, _⟩) 27 27 (.tmp 88) (.tmp 89) rfl (bv h).toArray (bv h).toArray rfl rfl (by kernel_rfl) true W9 (by have h9 := eq_hash h h hoh hoh W9; rwa [decide_eq_true rfl] at h9))) ?_
            simp only [Act.put, List.setIfInBounds_toArray, List.set_cons_zero, List.set_cons_succ]
            refine Fre.made_val (.bool false) (by kernel_rfl) (by kernel_rfl) (by kernel_rfl) (fun _ _ => by kernel_rfl) ?_
            simp only [Act.put, List.setIfInBounds_toArray, List.set_cons_zero, List.set_cons_succ]
            refine Fre.made_val (.bool false) (by kernel_rfl) (by kernel_rfl) (by kernel_rfl) (fun _ _ => by kernel_rfl) ?_
            simp only [Act.put, List.setIfInBounds_toArray, List.set_cons_zero, List.set_cons_succ]
            refine Fre.made_val (.bool true) (by kernel_rfl) (by kernel_rfl) (by kernel_rfl) (fun _ _ => by kernel_rfl) ?_
            simp only [Act.put, List.setIfInBounds_toArray, List.set_cons_zero, List.set_cons_succ]
            refine Fre.made_val (.bool false) (by kernel_rfl) (by kernel_rfl) (by kernel_rfl) (fun _ _ => by kernel_rfl) ?_
            simp only [Act.put, List.setIfInBounds_toArray, List.set_cons_zero, List.set_cons_succ]
            refine Fre.made_val (.bool false) (by kernel_rfl) (by kernel_rfl) (by kernel_rfl) (fun _ _ => by kernel_rfl) ?_
            simp only [Act.put, List.setIfInBounds_toArray, List.set_cons_zero, List.set_cons_succ]
            refine Fre.made_val (.bool false) (by kernel_rfl) (by kernel_rfl) (by kernel_rfl) (fun _ _ => by kernel_rfl) ?_
            simp only [Act.put, List.setIfInBounds_toArray, List.set_cons_zero, List.set_cons_succ]
            refine Fre.made_val (.agg (dC d p1 p2).toArray) (by kernel_rfl) (by kernel_rfl) (by kernel_rfl) (fun W9 hW9 => (exec_load_mid (o := ⟨some 97, _, _, _, _, _⟩) 34 (.tmp 10) rfl w12.heap.size (0) rfl (dC d p1 p2) _ W9 (Blk.range (Mem.blk (Mem.call H17.out hW9) 3 rfl)) Try.underlying34 rfl (dC_szl d p1 p2))) ?_
            simp only [Act.put, List.setIfInBounds_toArray, List.set_cons_zero, List.set_cons_succ]
            refine Fre.made_val (.slice (some ⟨b, off, none⟩) l.length cap) (by kernel_rfl) (by kernel_rfl) (by kernel_rfl) (fun _ _ => by kernel_rfl) ?_
            simp only [Act.put, List.setIfInBounds_toArray, List.set_cons_zero, List.set_cons_succ]
            refine Fre.made_val (.int .i64 (j : Int)) (by kernel_rfl) (by kernel_rfl) (by kernel_rfl) (fun _ _ => by kernel_rfl) ?_
            simp only [Act.put, List.setIfInBounds_toArray, List.set_cons_zero, List.set_cons_succ]
            refine Fre.made_val (.pointer (some ⟨b, off + j * 3, none⟩)) (by kernel_rfl) (by kernel_rfl) (by kernel_rfl) (fun W9 hW9 => (exec_idxO (o := ⟨some 100, _, _, _, _, _⟩) 22 34 (.tmp 98) (.tmp 99) rfl b off l.length cap j rfl rfl hj2 3 Try.underlying22 sz_drv W9)) ?_
            simp only [Act.put, List.setIfInBounds_toArray, List.set_cons_zero, List.set_cons_succ]
            refine Fre.made_val (.agg (dC d v1 v2).toArray) (by kernel_rfl) (by kernel_rfl) (by kernel_rfl) (fun W9 hW9 => (exec_load_mid (o := ⟨some 101, _, _, _, _, _⟩) 34 (.tmp 100) rfl b (off + j * 3) rfl (dC d v1 v2) _ W9 (Mem.range (Mem.call H17.out hW9) HX.out.1 HX.out.2.1) Try.underlying34 rfl (dC_szl d v1 v2))) ?_
            simp only [Act.put, List.setIfInBounds_toArray, List.set_cons_zero, List.set_cons_succ]
            refine Fre.made_call (.bool true) 11 #[.agg (dC d p1 p2).toArray, .agg (dC d v1 v2).toArray] (by kernel_rfl) (by kernel_rfl) (by kernel_rfl) (fun W9 => by kernel_rfl) (fun W9 hW9 => sameD_c W9 d d p1 p2 v1 v2 (OwnDrv.at_ (show OwnDrv W9 _ d p1 p2 from Mem.get (e := drvE _ d p1 p2) (Mem.call H17.out hW9) 4 rfl) (Nat.le_refl _)) (Mem.drv (Mem.call H17.out hW9) HX.out.2.2.1) true (decide_eq_true rfl)) ?_
            simp only [Act.put, List.setIfInBounds_toArray, List.set_cons_zero, List.set_cons_succ]
            refine Fre.made_val (.bool false) (by kernel_rfl) (by kernel_rfl) (by kernel_rfl) (fun _ _ => by kernel_rfl) ?_
            simp only [Act.put, List.setIfInBounds_toArray, List.set_cons_zero, List.set_cons_succ]
            refine Fre.made_val (.bool false) (by kernel_rfl) (by kernel_rfl) (by kernel_rfl) (fun _ _ => by kernel_rfl) ?_
            simp only [Act.put, List.setIfInBounds_toArray, List.set_cons_zero, List.set_cons_succ]
            refine Fre.made_val (.bool false) (by kernel_rfl) (by kernel_rfl) (by kernel_rfl) (fun _ _ => by kernel_rfl) ?_
            simp only [Act.put, List.setIfInBounds_toArray, List.set_cons_zero, List.set_cons_succ]
            refine Fre.made_val (.slice A1 NT.length q1) (by kernel_rfl) (by kernel_rfl) (by kernel_rfl) (fun _ _ => by kernel_rfl) ?_
            simp only [Act.put, List.setIfInBounds_toArray, List.set_cons_zero, List.set_cons_succ]
            refine Fre.made_val (.int .i64 (NT.length : Int)) (by kernel_rfl) (by kernel_rfl) (by kernel_rfl) (fun _ _ => by kernel_rfl) ?_
            simp only [Act.put, List.setIfInBounds_toArray, List.set_cons_zero, List.set_cons_succ]
            refine Fre.made_val (.slice A0 T.length q0) (by kernel_rfl) (by kernel_rfl) (by kernel_rfl) (fun _ _ => by kernel_rfl) ?_
            simp only [Act.put, List.setIfInBounds_toArray, List.set_cons_zero, List.set_cons_succ]
            refine Fre.made_val (.int .i64 (T.length : Int)) (by kernel_rfl) (by kernel_rfl) (by kernel_rfl) (fun _ _ => by kernel_rfl) ?_
            simp only [Act.put, List.setIfInBounds_toArray, List.set_cons_zero, List.set_cons_succ]
            refine Fre.made_val (.bool false) (by kernel_rfl) (by kernel_rfl) (by kernel_rfl) (fun W9 hW9 => ?hs1) ?_
            case hs1 =>
              go_simp
            simp only [Act.put, List.setIfInBounds_toArray, List.set_cons_zero, List.set_cons_succ]
            refine Fre.made_val (.bool false) (by kernel_rfl) (by kernel_rfl) (by kernel_rfl) (fun _ _ => by kernel_rfl) ?_
            simp only [Act.put, List.setIfInBounds_toArray, List.set_cons_zero, List.set_cons_succ]
            refine Fre.made_val (.bool false) (by kernel_rfl) (by kernel_rfl) (by kernel_rfl) (fun _ _ => by kernel_rfl) ?_
            simp only [Act.put, List.setIfInBounds_toArray, List.set_cons_zero, List.set_cons_succ]
            refine Fre.made_val (.slice A1 NT.length q1) (by kernel_rfl) (by kernel_rfl) (by kernel_rfl) (fun _ _ => by kernel_rfl) ?_
            simp only [Act.put, List.setIfInBounds_toArray, List.set_cons_zero, List.set_cons_succ]
            refine Fre.made_val (.int .i64 (NT.length : Int)) (by kernel_rfl) (by kernel_rfl) (by kernel_rfl) (fun _ _ => by kernel_rfl) ?_
            simp only [Act.put, List.setIfInBounds_toArray, List.set_cons_zero, List.set_cons_succ]
            refine Fre.made_val (.slice A0 T.length q0) (by kernel_rfl) (by kernel_rfl) (by kernel_rfl) (fun _ _ => by kernel_rfl) ?_
            simp only [Act.put, List.setIfInBounds_toArray, List.set_cons_zero, List.set_cons_succ]
            refine Fre.made_val (.int .i64 (T.length : Int)) (by kernel_rfl) (by kernel_rfl) (by kernel_rfl) (fun _ _ => by kernel_rfl) ?_
            simp only [Act.put, List.setIfInBounds_toArray, List.set_cons_zero, List.set_cons_succ]
            refine Fre.made_val (.int .i64 ((T.length + 1 : Nat) : Int)) (by kernel_rfl) (by kernel_rfl) (by kernel_rfl) (fun W9 hW9 => ?hs2) ?_
            case hs2 =>
              go_simp
              all_goals (rw [Go.IntWalk.i64_in _ (by omega)])
            simp only [Act.put, List.setIfInBounds_toArray, List.set_cons_zero, List.set_cons_succ]
            refine Fre.made_val (.bool false) (by kernel_rfl) (by kernel_rfl) (by kernel_rfl) (fun W9 hW9 => ?hs3) ?_
            case hs3 =>
              go_simp
              all_goals omega
            simp only [Act.put, List.setIfInBounds_toArray, List.set_cons_zero, List.set_cons_succ]
            refine Fre.made_val (.bool false) (by kernel_rfl) (by kernel_rfl) (by kernel_rfl) (fun _ _ => by kernel_rfl) ?_
            simp only [Act.put, List.setIfInBounds_toArray, List.set_cons_zero, List.set_cons_succ]
            refine Fre.made_val (.bool false) (by kernel_rfl) (by kernel_rfl) (by kernel_rfl) (fun _ _ => by kernel_rfl) ?_
            simp only [Act.put, List.setIfInBounds_toArray, List.set_cons_zero, List.set_cons_succ]
            refine Fre.made_val (.slice A1 NT.length q1) (by kernel_rfl) (by kernel_rfl) (by kernel_rfl) (fun _ _ => by kernel_rfl) ?_
            simp only [Act.put, List.setIfInBounds_toArray, List.set_cons_zero, List.set_cons_succ]
            refine Fre.made_val (.slice A0 T.length q0) (by kernel_rfl) (by kernel_rfl) (by kernel_rfl) (fun _ _ => by kernel_rfl) ?_
            simp only [Act.put, List.setIfInBounds_toArray, List.set_cons_zero, List.set_cons_succ]
            refine Fre.made_val (.int .i64 (T.length : Int)) (by kernel_rfl) (by kernel_rfl) (by kernel_rfl) (fun _ _ => by kernel_rfl) ?_
            simp only [Act.put, List.setIfInBounds_toArray, List.set_cons_zero, List.set_cons_succ]
            refine Fre.made_val (.slice A1 T.length q1) (by kernel_rfl) (by kernel_rfl) (by kernel_rfl) (fun W9 hW9 => exec_sliceTo (o := ⟨some 124, _, _, _, _, _⟩) 25 43 23 (.tmp 121) (.tmp 123) rfl A1 NT.length q1 T.length rfl rfl Try.underlying25 sz_itm (by have := HCP.out; omega) W9) ?_
            simp only [Act.put, List.setIfInBounds_toArray, List.set_cons_zero, List.set_cons_succ]
            refine Fre.made_val (.slice A0 T.length q0) (by kernel_rfl) (by kernel_rfl) (by kernel_rfl) (fun _ _ => by kernel_rfl) ?_
            simp only [Act.put, List.setIfInBounds_toArray, List.set_cons_zero, List.set_cons_succ]
            refine Fre.made_call (.bool true) 12 #[.slice A1 T.length q1, .slice A0 T.length q0] (by kernel_rfl) (by kernel_rfl) (by kernel_rfl) (fun W9 => by kernel_rfl) (fun W9 hW9 => alike_c W9 T T _ _ (items_take (itms_now (Mem.pick (Mem.call H17.out hW9) [7, 8] (by decide) rfl) HON.out HS1.out) HTK.out (by omega)) (itms_now (Mem.pick (Mem.call H17.out hW9) [9, 10] (by decide) rfl) HOT.out HS0.out) true (decide_eq_true rfl)) ?_
            simp only [Act.put, List.setIfInBounds_toArray, List.set_cons_zero, List.set_cons_succ]
            refine Fre.made_val (.bool false) (by kernel_rfl) (by kernel_rfl) (by kernel_rfl) (fun _ _ => by kernel_rfl) ?_
            simp only [Act.put, List.setIfInBounds_toArray, List.set_cons_zero, List.set_cons_succ]
            refine Fre.made_val (.bool false) (by kernel_rfl) (by kernel_rfl) (by kernel_rfl) (fun _ _ => by kernel_rfl) ?_
            simp only [Act.put, List.setIfInBounds_toArray, List.set_cons_zero, List.set_cons_succ]
            refine Fre.made_val (.bool false) (by kernel_rfl) (by kernel_rfl) (by kernel_rfl) (fun _ _ => by kernel_rfl) ?_
            simp only [Act.put, List.setIfInBounds_toArray, List.set_cons_zero, List.set_cons_succ]
            refine Fre.made_val (.int .i64 0) (by kernel_rfl) (by kernel_rfl) (by kernel_rfl) (fun _ _ => by kernel_rfl) ?_
            simp only [Act.put, List.setIfInBounds_toArray, List.set_cons_zero, List.set_cons_succ]
            refine Fre.made_val (.bool false) (by kernel_rfl) (by kernel_rfl) (by kernel_rfl) (fun _ _ => by kernel_rfl) ?_
            simp only [Act.put, List.setIfInBounds_toArray, List.set_cons_zero, List.set_cons_succ]
            refine Fre.made_val (.bool false) (by kernel_rfl) (by kernel_rfl) (by kernel_rfl) (fun _ _ => by kernel_rfl) ?_
            simp only [Act.put, List.setIfInBounds_toArray, List.set_cons_zero, List.set_cons_succ]
            refine Fre.made_val (.bool false) (by kernel_rfl) (by kernel_rfl) (by kernel_rfl) (fun _ _ => by kernel_rfl) ?_
            simp only [Act.put, List.setIfInBounds_toArray, List.set_cons_zero, List.set_cons_succ]
            refine Fre.made_val (.agg (bv h).toArray) (by kernel_rfl) (by kernel_rfl) (by kernel_rfl) (fun W9 hW9 => (exec_load_mid (o := ⟨some 134, _, _, _, _, _⟩) 27 (.tmp 13) rfl w15.heap.size (0) rfl (bv h) _ W9 (Blk.range (Mem.blk (Mem.call H17.out hW9) 0 rfl)) Try.underlying27 rfl (hszL hoh))) ?_
            simp only [Act.put, List.setIfInBounds_toArray, List.set_cons_zero, List.set_cons_succ]
            refine Fre.made_val (.agg (bv h).toArray) (by kernel_rfl) (by kernel_rfl) (by kernel_rfl) (fun W9 hW9 => (exec_load_mid (o := ⟨some 135, _, _, _, _, _⟩) 27 (.tmp 6) rfl w6.heap.size (0) rfl (bv h) _ W9 (Blk.range (Mem.blk (Mem.call H17.out hW9) 6 rfl)) Try.underlying27 rfl (hszL hoh))) ?_
            simp only [Act.put, List.setIfInBounds_toArray, List.set_cons_zero, List.set_cons_succ]
            refine Fre.made_val (.bool false) (by kernel_rfl) (by kernel_rfl) (by kernel_rfl) (fun W9 hW9 => (exec_neA (o := ⟨some 136, _, _, _, _, _⟩) 27 27 (.tmp 134) (.tmp 135) rfl (bv h).toArray (bv h).toArray rfl rfl (by kernel_rfl) true W9 (by have h9 := eq_hash h h hoh hoh W9; rwa [decide_eq_true rfl] at h9))) ?_
            simp only [Act.put, List.setIfInBounds_toArray, List.set_cons_zero, List.set_cons_succ]
            refine Fre.made_val (.bool false) (by kernel_rfl) (by kernel_rfl) (by kernel_rfl) (fun _ _ => by kernel_rfl) ?_
            simp only [Act.put, List.setIfInBounds_toArray, List.set_cons_zero, List.set_cons_succ]
            refine Fre.made_val (.bool false) (by kernel_rfl) (by kernel_rfl) (by kernel_rfl) (fun _ _ => by kernel_rfl) ?_
            simp only [Act.put, List.setIfInBounds_toArray, List.set_cons_zero, List.set_cons_succ]
            refine Fre.made_val (.slice A2 NT.length q2) (by kernel_rfl) (by kernel_rfl) (by kernel_rfl) (fun _ _ => by kernel_rfl) ?_
            simp only [Act.put, List.setIfInBounds_toArray, List.set_cons_zero, List.set_cons_succ]
            refine Fre.made_val (.slice A1 NT.length q1) (by kernel_rfl) (by kernel_rfl) (by kernel_rfl) (fun _ _ => by kernel_rfl) ?_
            simp only [Act.put, List.setIfInBounds_toArray, List.set_cons_zero, List.set_cons_succ]
            refine Fre.made_call (.bool true) 12 #[.slice A2 NT.length q2, .slice A1 NT.length q1] (by kernel_rfl) (by kernel_rfl) (by kernel_rfl) (fun W9 => by kernel_rfl) (fun W9 hW9 => alike_c W9 NT NT _ _ (itms_now (Mem.pick (Mem.call H17.out hW9) [1, 2] (by decide) rfl) HON.out HS2.out) (itms_now (Mem.pick (Mem.call H17.out hW9) [7, 8] (by decide) rfl) HON.out HS1.out) true (decide_eq_true rfl)) ?_
            simp only [Act.put, List.setIfInBounds_toArray, List.set_cons_zero, List.set_cons_succ]
            refine Fre.made_val (.bool false) (by kernel_rfl) (by kernel_rfl) (by kernel_rfl) (fun _ _ => by kernel_rfl) ?_
            simp only [Act.put, List.setIfInBounds_toArray, List.set_cons_zero, List.set_cons_succ]
            intro w18 hx
            dsimp only [Fre.ended, List.drop]
            have H18 := hide (Mem.call H17.out hx)
            clear hx
            go_wp2_with fail
            go_roundw
            case rel => exact ⟨j + 1, NT, A1, q1, ls1, by omega, rfl, by go_num, HG2.out, HS1.out, Mem.pick H18.out [7, 8] (by decide) rfl⟩
            case measure => simp [intOf]; omega
          · have HE := hide he
            have he9 : (e == 0) = false := by simpa using he
            have hbad := add_bad (hof := hofP) (l := T) (d := d) (by rw [HR.out]; exact HE.out)
            rw [HR.out] at hbad
            obtain ⟨rfl, rfl⟩ := hbad
            go_wp2_with (first | ((with_reducible refine at_slot 40 ?_); (refine wpList_value (o := ⟨some 40, _, _, _, _, _⟩) rfl (.pointer (some ⟨b, off + j * 3, none⟩)) wo (exec_idxO (o := ⟨some 40, _, _, _, _, _⟩) 22 34 (.tmp 38) (.tmp 39) rfl b off l.length cap j rfl rfl hj2 3 Try.underlying22 sz_drv wo) ?_)) | ((with_reducible refine at_slot 41 ?_); (refine wpList_value (o := ⟨some 41, _, _, _, _, _⟩) rfl (.agg (dC d v1 v2).toArray) wo (exec_load_mid (o := ⟨some 41, _, _, _, _, _⟩) 34 (.tmp 40) rfl b (off + j * 3) rfl (dC d v1 v2) _ wo (Mem.range HM.out HX.out.1 HX.out.2.1) Try.underlying34 rfl (dC_szl d v1 v2)) ?_)))
            refine (add_notV wo T _ d v1 v2 (itms_now (Mem.pick HM.out [0, 1] (by decide) rfl) HOT.out HS0.out) HLT.out (by omega) (Mem.drv HM.out HX.out.2.2.1) hsm9 [] zeroH e HE.out HR.out).mono ?_
            rintro e w3 ⟨rfl, hb⟩
            dsimp only
            have H3 := hide (Mem.call HM.out hb)
            clear hb
            go_wp2_with (first | ((with_reducible refine at_slot 6 ?_); (refine wpList_newZ (o := ⟨some 6, _, _, _, _, _⟩) rfl 27 zcH (by kernel_rfl) ?_); intro w4 hn; have H4 := hide (Mem.new1 H3.out hn); clear hn; simp only [Act.put, List.setIfInBounds_toArray, List.set_cons_zero, List.set_cons_succ]) | ((with_reducible refine at_store 6 44 ?_); (with_reducible refine wpList_store_blkA (o := ⟨none, _, _, _, _, _⟩) rfl 27 (.tmp 6) (.tmp 44) rfl w3.heap.size zcH (bv zeroH).toArray 27 (Mem.blk H4.out 0 rfl) ?_ ?_ ?_ ?_ ?_ ?_); (exact (hszD zeroH_ok)); (exact sz_eq zcH_sz (hszD zeroH_ok)); (exact (bv_1 zeroH)); rfl; rfl; intro w5 hk hg; have H5 := hide (Mem.st H4.out 0 rfl hk hg); clear hk hg; simp only [Act.put, List.setIfInBounds_toArray, List.set_cons_zero, List.set_cons_succ]) | ((with_reducible refine at_slot 52 ?_); (refine wpList_value_w (o := ⟨some 52, _, _, _, _, _⟩) (by kernel_rfl) (.agg (bv zeroH).toArray) w5 (exec_load_mid (o := ⟨some 52, _, _, _, _, _⟩) 27 (.tmp 6) rfl w3.heap.size (0) rfl (bv zeroH) _ w5 (Blk.range (Mem.blk H5.out 0 rfl)) Try.underlying27 rfl (hszL zeroH_ok)) ?_)) | ((with_reducible refine at_slot 53 ?_); (refine wpList_value_w (o := ⟨some 53, _, _, _, _, _⟩) (by kernel_rfl) (.agg (bv zeroH).toArray) w5 (by kernel_rfl) ?_)) | ((with_reducible refine at_slot 54 ?_); (refine wpList_value_w (o := ⟨some 54, _, _, _, _, _⟩) (by kernel_rfl) (.bool false) w5 (exec_neA (o := ⟨some 54, _, _, _, _, _⟩) 27 27 (.tmp 52) (.tmp 53) rfl (bv zeroH).toArray (bv zeroH).toArray rfl rfl (by kernel_rfl) true w5 (by have h9 := eq_hash zeroH zeroH zeroH_ok zeroH_ok w5; rwa [decide_eq_true rfl] at h9)) ?_)))
            go_roundw
            case rel => exact ⟨j + 1, T, A0, q0, ls, by omega, rfl, by go_num, HG.out.more, HS0.out, Mem.pick H5.out [1, 2] (by decide) rfl⟩
            case measure => simp [intOf]; omega
        · obtain rfl : j = l.length := by omega
          go_wp2_with fail
          go_loopw [15, 16] (fun x15 x16 wr => ∃ (i : Nat) (A3 : Option Addr) (q3 : Nat) (ls3 : List ItmV), i ≤ T.length ∧ x15 = .slice A3 i q3 ∧ x16 = .int .i64 (i : Int) ∧ ls3.map (·.1) = T.take i ∧ Mem w wr (itmsL w.heap.size (.slice A3 i q3) ls3 ++ itmsL w.heap.size (.slice A0 T.length q0) ls)) (fun _ x16 _ => T.length - (intOf x16).toNat)
          case atStart => exact ⟨0, none, 0, [], by omega, rfl, rfl, rfl, ((Mem.pick HM.out [0, 1] (by decide) rfl).allNil _).nilRow _ _ _⟩
          case round =>
            obtain ⟨wp, rfl⟩ : ∃ wp, wp = wr := ⟨_, rfl⟩
            obtain ⟨i, A3, q3, ls3, hi, rfl, rfl, hls3, hm3⟩ := hrel
            have HM3 := hide hm3
            have HS3 := hide hls3
            clear hm3 hls3
            have i0 : (0 : Int) ≤ (i : Int) := by omega
            by_cases hi2 : i < T.length
            · have i1 : (i : Int) < (T.length : Int) := by omega
              have hll : ls.length = T.length := by have := congrArg List.length HS0.out; rwa [List.length_map] at this
              obtain ⟨p, hp⟩ : ∃ p, ls[i]? = some p := ⟨_, List.getElem?_eq_getElem (by omega)⟩
              have hx : T[i]? = some p.1 := by rw [← HS0.out, List.getElem?_map, hp]; rfl
              have hpo : okH p.1.1 := HOT.out p.1 (List.mem_of_getElem? hx)
              have hodp : OwnDrv wp w.heap.size p.1.2 p.2.1 p.2.2 := (Mem.get (e := Ent.all ls (drvV w.heap.size)) HM3.out 3 rfl).1 p (List.mem_of_getElem? hp)
              obtain ⟨po1, po2⟩ := OwnDrv.ones hodp
              have hps := HLT.out p.1 (List.mem_of_getElem? hx)
              have han := add_anew (hof := hofP) HG.out.tab hx
              have HAN := hide han
              have hph : hofP p.1.2 = p.1.1 := tab_of HG.out.tab (List.mem_of_getElem? hx)
              have HPH := hide hph
              have HP := hide hp
              have hown0 : wp.ownsRow w.heap.size 43 23 (.slice A0 T.length q0) T.length (ls.flatMap tV) := by have h9 := Mem.own HM3.out 2 rfl; rwa [hll] at h9
              obtain ⟨gq, cq, eq9, hgq⟩ := own_is hown0 (by omega)
              injection eq9 with e1 _ e3
              subst e1 e3
              have HLL := hide hll
              have hlen1 : (T.take (i + 1)).length = i + 1 := by rw [List.length_take]; omega
              have hlen0 : (T.take i).length = i := by rw [List.length_take]; omega
              have HL1 := hide hlen1
              have HOT3 := hide (show ∀ x ∈ T.take i, okH x.1 from fun x hx => HOT.out x (List.mem_of_mem_take hx))
              have HLT3 := hide (show ∀ x ∈ T.take i, x.2.2.1.length ≤ 1000000 ∧ x.2.2.2.length ≤ 1000000 from fun x hx => HLT.out x (List.mem_of_mem_take hx))
              have HL0 := hide hlen0
              clear hp hx hodp han hph hown0 hgq hll hlen1 hlen0
              go_wp2_with (first | ((with_reducible refine at_slot 155 ?_); (refine wpList_value (o := ⟨some 155, _, _, _, _, _⟩) rfl (.pointer (some ⟨gq, i * 23, none⟩)) wp (exec_idx0 (o := ⟨some 155, _, _, _, _, _⟩) 25 43 (.tmp 153) (.tmp 154) rfl gq T.length q0 i rfl rfl hi2 23 Try.underlying25 sz_itm wp) ?_)) | ((with_reducible refine at_slot 157 ?_); (refine wpList_value (o := ⟨some 157, _, _, _, _, _⟩) rfl (.agg (dC p.1.2 p.2.1 p.2.2).toArray) wp (exec_load_mid (o := ⟨some 157, _, _, _, _, _⟩) 34 (.tmp 156) rfl gq (i * 23 + 20) rfl (dC p.1.2 p.2.1 p.2.2) _ wp (item_drv9 hpo (own_at (f := tV) (by decide) (Mem.own HM3.out 2 rfl) (fun x hx => tC_len (HOT.out x.1 (HS0.out ▸ List.mem_map.2 ⟨x, hx, rfl⟩))) HP.out)) Try.underlying34 rfl (dC_szl p.1.2 p.2.1 p.2.2)) ?_)))
              refine (add_yesV wp (T.take i) _ p.1.2 p.2.1 p.2.2 (itms_now (Mem.pick HM3.out [0, 1] (by decide) rfl) HOT3.out HS3.out) HLT3.out (by have := HL0.out; omega) (OwnDrv.at_ ((Mem.get (e := Ent.all ls (drvV w.heap.size)) HM3.out 3 rfl).1 p (List.mem_of_getElem? HP.out)) (Nat.le_refl _)) hps p.1.1 HPH.out (T.take (i + 1)) HAN.out (i + 1) HL1.out).mono ?_
              rintro e w19 ⟨A4, q4, ls4, rfl, hls, hm⟩
              dsimp only
              have H19 := hide (Mem.seq HM3.out (itms_lower hm (Mem.below HM3.out).size))
              have HS4 := hide hls
              clear hm hls
              go_wp2_with (first | ((with_reducible refine at_slot 18 ?_); (refine wpList_newZ (o := ⟨some 18, _, _, _, _, _⟩) rfl 27 zcH (by kernel_rfl) ?_); intro w20 hn; have H20 := hide (Mem.new1 H19.out hn); clear hn; simp only [Act.put, List.setIfInBounds_toArray, List.set_cons_zero, List.set_cons_succ]) | ((with_reducible refine at_store 18 160 ?_); (with_reducible refine wpList_store_blkA (o := ⟨none, _, _, _, _, _⟩) rfl 27 (.tmp 18) (.tmp 160) rfl w19.heap.size zcH (bv p.1.1).toArray 27 (Mem.blk H20.out 0 rfl) ?_ ?_ ?_ ?_ ?_ ?_); (exact (hszD hpo)); (exact sz_eq zcH_sz (hszD hpo)); (exact (bv_1 p.1.1)); rfl; rfl; intro w21 hk hg; have H21 := hide (Mem.st H20.out 0 rfl hk hg); clear hk hg; simp only [Act.put, List.setIfInBounds_toArray, List.set_cons_zero, List.set_cons_succ]))
              go_roundw
              case rel => exact ⟨i + 1, A4, q4, ls4, by omega, rfl, by go_num, HS4.out, Mem.pick H21.out [1, 2, 5, 6] (by decide) rfl⟩
              case measure => simp [intOf]; omega
            · obtain rfl : i = T.length := by omega
              have hs3 := HS3.out
              rw [List.take_length] at hs3
              have HS9 := hide hs3
              clear hs3
              go_wp2_with fail
              refine (alike_c wp T T _ _ (itms_now (Mem.pick HM3.out [0, 1] (by decide) rfl) HOT.out HS9.out) (itms_now (Mem.pick HM3.out [2, 3] (by decide) rfl) HOT.out HS0.out) true (decide_eq_true rfl)).mono ?_
              rintro e w22 ⟨rfl, hb⟩
              dsimp only
              have H22 := hide (Mem.call HM3.out hb)
              clear hb
              go_wp2_with fail
              go_ret
              exact ⟨rfl, Mem.below H22.out⟩
end Go.Proofs.Ytidiepbmbbflhaa
end
