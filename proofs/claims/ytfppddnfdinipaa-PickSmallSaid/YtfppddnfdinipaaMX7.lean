/- spencelaw24: ref. spencelaw24: choices. spencelaw24: PickBest's and PickFuel's plain laws. spenceref24: Free. spencelaw24: option. -/
import Derived.Test.YtfppddnfdinipaaMX5
import Derived.Test.YtfppddnfdinipaaMX3
import Derived.Test.YtfppddnfdinipaaMX4
section
namespace Go.Proofs.Ytfppddnfdinipaa
open Go Go.RowKit Go.Maps
set_option maxRecDepth 100000
/-- a closure of ref: the case's own -/
def RefQ (w0 : World) (w : World) (v : Value) (ps : List Pth) : Prop := pathsLay.At w w0.heap.size [v] ps
theorem refQ_ok {w0 : World} : QOk w0 (RefQ w0) pathsLay where
  n1 := rfl
  keep h hk := pathsLay.alike h fun k hk2 => hk.old k hk2
  at_ h hl := pathsLay.widen h hl
  one h := by
    obtain ⟨A, cap, e, _⟩ := slice_open h
    exact ⟨_, _, _, e⟩
set_option maxHeartbeats 4000000 in
theorem rcase_any (w : World) (v : Cvs) (c : CaseP) (hc : c.size ≤ 120) (hC : CaseAt w.heap.size w v c) :
    Calls Try.prog 15 #[.agg (caseC v).toArray] w fun e w' => ∃ v', e = .returned (.agg (caseC v').toArray) ∧ CaseAt w'.heap.size w' v' c ∧ Below w.heap.size w w' := by
  have ho : okH v.own := by rw [hC.own]; exact hC.okO
  obtain ⟨b1, b2, b3, b4, b5, b6, b7⟩ := CaseP.bounds hc
  obtain ⟨w1, hw1⟩ : ∃ w1, w1 = w.alloc (.cells (caseC v).toArray 29) := ⟨_, rfl⟩
  obtain ⟨w2, hw2⟩ : ∃ w2, w2 = w1.alloc (.cells zcL.toArray 40) := ⟨_, rfl⟩
  have hb1 : Below w.heap.size w w1 := by rw [hw1]; exact (Below.refl _ w).alloc (Nat.le_refl _) _
  have hk1 : Blk w1 w.heap.size 29 (caseC v).toArray := by rw [hw1]; exact Blk.new _ _ _
  have hz1 : w1.heap.size = w.heap.size + 1 := by rw [hw1, size_alloc]
  have hb2 : Below w1.heap.size w1 w2 := by rw [hw2]; exact (Below.refl _ w1).alloc (Nat.le_refl _) _
  have hk2 : Blk w2 w1.heap.size 40 zcL.toArray := by rw [hw2]; exact Blk.new _ _ _
  have hz2 : w2.heap.size = w.heap.size + 2 := by rw [hw2, size_alloc, hz1]
  have hb := hb1.trans (Below.mono hb2 hb1.size)
  have hk := hk1.below hb2 (by omega)
  have hC2 : CaseAt w.heap.size w2 v c := hC.alike fun k hk => hb.block k hk
  have HOK := hide hC.oks.2.2.2
  obtain ⟨Ao, capo, hvo, _, _, _, hAo⟩ := slice_open hC2.atO
  obtain ⟨Af, capf, hvf, _⟩ := slice_open hC2.atF
  obtain ⟨Ac, capc, hvc, _⟩ := slice_open hC2.atC
  obtain ⟨Am, capm, hvm, _⟩ := slice_open hC2.atM
  have HCV := hide (show v.fixed.cells = #[v.fixed] ∧ v.classes.cells = #[v.classes] ∧ v.of.cells = #[v.of] by rw [hvf, hvc, hvm]; exact ⟨rfl, rfl, rfl⟩)
  have HCO := hide (show v.fixed.oneCell' = true ∧ v.classes.oneCell' = true ∧ v.of.oneCell' = true by rw [hvf, hvc, hvm]; exact ⟨rfl, rfl, rfl⟩)
  have hcells := case_cellsT ho hk
  have H2 := hide (And.intro hb (And.intro hk (And.intro hk2 hcells)))
  rw [hvo] at hcells
  have HA := hide (And.intro hC2 (And.intro hcells.2.2.1 hAo))
  have HZ := hide (And.intro hz1 hz2)
  have HW := hide hw2
  have HW1 := hide hw1
  clear hb hk hk2 hb1 hb2 hk1 hC2 hC hAo hcells hw1 hw2 hvo hvf hvc hvm hz1 hz2
  have o9 : (c.opts.length : Int) ≤ 120 := by omega
  go_enter Try.func15, Try.ntmps15
  go_wp2_with (first | (refine wpList_value (o := ⟨some 1, _, _, _, _, _⟩) rfl (.pointer (some ⟨w.heap.size, 0, none⟩)) w1 (by rw [HW1.out]; kernel_rfl) ?_) | (refine wpList_value (o := ⟨some 2, _, _, _, _, _⟩) rfl (.pointer (some ⟨w1.heap.size, 0, none⟩)) w2 (by rw [HW.out]; kernel_rfl) ?_) | (refine wpList_value (o := ⟨some 8, _, _, _, _, _⟩) rfl (.agg (bv v.own).toArray) w2 (exec_load_mid (o := ⟨some 8, _, _, _, _, _⟩) 23 (.tmp 7) rfl w.heap.size 0 rfl (bv v.own) _ w2 (rangeAt_own H2.out.2.1) Try.underlying23 rfl (by have := hsz ho; simpa using this)) ?_) | (refine wpList_value (o := ⟨some 10, _, _, _, _, _⟩) rfl (v.fixed) w2 (exec_load_cell (o := ⟨some 10, _, _, _, _, _⟩) 24 (.tmp 9) rfl ⟨w.heap.size, 20, none⟩ rfl _ _ w2 Try.underlying24 rfl H2.out.2.2.2.1) ?_) | (refine wpList_value (o := ⟨some 12, _, _, _, _, _⟩) rfl (v.classes) w2 (exec_load_cell (o := ⟨some 12, _, _, _, _, _⟩) 25 (.tmp 11) rfl ⟨w.heap.size, 21, none⟩ rfl _ _ w2 Try.underlying25 rfl H2.out.2.2.2.2.1) ?_) | (refine wpList_value (o := ⟨some 14, _, _, _, _, _⟩) rfl (v.of) w2 (exec_load_cell (o := ⟨some 14, _, _, _, _, _⟩) 27 (.tmp 13) rfl ⟨w.heap.size, 23, none⟩ rfl _ _ w2 Try.underlying27 rfl H2.out.2.2.2.2.2.2) ?_) | (refine wpList_value (o := ⟨some 15, _, _, _, _, _⟩) rfl (.agg (caseC ⟨v.own, v.fixed, v.classes, .slice none 0 0, v.of⟩).toArray) _ (exec_case (o := ⟨some 15, _, _, _, _, _⟩) 40 (.tmp 8) (.tmp 10) (.tmp 12) (.tmp 14) rfl Try.underlying40 (fun w => by kernel_rfl) (fun w => by kernel_rfl) ho HCV.out.1 HCV.out.2.1 HCV.out.2.2 rfl rfl rfl rfl _) ?_) | ((with_reducible refine wpList_box (o1 := ⟨some 3, _, _, _, _, _⟩) (o2 := ⟨none, _, _, _, _, _⟩) rfl rfl 40 (.tmp 3) (.tmp 15) ?_ zcL.toArray (caseC ⟨v.own, v.fixed, v.classes, .slice none 0 0, v.of⟩).toArray ?_ (cszR (v := ⟨v.own, v.fixed, v.classes, .slice none 0 0, v.of⟩) ho) ?_ ?_ ?_ ?_ ?_); rfl; kernel_rfl; (simp only [List.size_toArray, caseC_len (c := ⟨v.own, v.fixed, v.classes, .slice none 0 0, v.of⟩) ho]; kernel_rfl); exact all_oneCell_toArray (caseC_one HCO.out.1 HCO.out.2.1 rfl HCO.out.2.2); rfl; rfl; intro w3 hm3 hb3; have H3 := hide (And.intro hm3 (And.intro hb3 (Nat.le_refl w2.heap.size))); clear hm3 hb3; simp only [Act.put, List.setIfInBounds_toArray, List.set_cons_zero, List.set_cons_succ]))
  obtain ⟨io, hio, hz0, hz1, hz2⟩ := info_parts (show (Try.prog.info? 109).map (fun i => (i.zero, i.size, i.bytes)) = some (some (.agg zcO), 22, 64) by kernel_rfl)
  have HI := hide (And.intro hio (And.intro hz0 (And.intro hz1 hz2)))
  clear hio hz0 hz1 hz2
  obtain ⟨ir, hir, hz0, hz1, hz2⟩ := info_parts (show (Try.prog.info? 107).map (fun i => (i.zero, i.size, i.bytes)) = some (some (.slice none 0 0), 1, 24) by kernel_rfl)
  have HJ := hide (And.intro hir (And.intro hz0 (And.intro hz1 hz2)))
  clear hir hz0 hz1 hz2
  go_loopw [4] (fun x wr => ∃ (i : Nat) (vo : Value) (rows : List (List Opt × Value)), i ≤ c.opts.length ∧ x = .int .i64 ((i : Nat) : Int) ∧ rows.map (·.1) = c.opts.take i ∧ Blk wr w2.heap.size 40 (caseC ⟨v.own, v.fixed, v.classes, vo, v.of⟩).toArray ∧ wr.ownsRow w3.heap.size 107 1 vo i (flR rows) ∧ (∀ x ∈ rows, RowQ 109 (RefQ w) wr x.2 x.1) ∧ w3.grownBy wr (some w2.heap.size)) (fun x _ => c.opts.length - (intOf x).toNat)
  case atStart => exact ⟨0, .slice none 0 0, [], by omega, rfl, rfl, H3.out.1, World.ownsRow_nil _ _ _ _, (fun x hx => by cases hx), World.grownBy.refl _ _⟩
  case round =>
    obtain ⟨wi, rfl⟩ : ∃ wi, wi = wr := ⟨_, rfl⟩
    obtain ⟨i, vo, rows, hi, rfl, hrm, hbx, hown, hrq, hgr⟩ := hrel
    have hbel : Below w2.heap.size w2 wi := H3.out.2.1.trans (grownBy_rest hgr H3.out.2.2 H3.out.2.1.size)
    have H4 := hide (And.intro hrm (And.intro hbx (And.intro hown (And.intro hrq (And.intro hbel hgr)))))
    have c22 : wi.cell? ⟨w.heap.size, 22, none⟩ = some (.slice Ao c.opts.length capo) := (World.cell?_of_block (hbel.block w.heap.size (by have := HZ.out.2; omega))).trans HA.out.2.1
    clear hrm hbx hown hrq hbel hgr
    have i0 : (0 : Int) ≤ (i : Int) := by omega
    by_cases hi2 : i < c.opts.length
    · have i1 : (i : Int) < (c.opts.length : Int) := by omega
      obtain ⟨os, hos⟩ : ∃ os, c.opts[i]? = some os := ⟨_, List.getElem?_eq_getElem hi2⟩
      obtain ⟨hol, hxl⟩ := b7 os (List.mem_of_getElem? hos)
      obtain ⟨bo, offo, rfl, hlo, hEo⟩ := HA.out.2.2 (by omega)
      obtain ⟨cs1, hr1, hat1⟩ := hEo i os hos
      obtain ⟨vr, rfl, hat1⟩ := rowLay_at hat1
      obtain ⟨Ar, capr, rfl, _, _, _, hAr⟩ := slice_open hat1
      have e3 : w2.cell? ⟨bo, offo + i, none⟩ = some (.slice Ar os.length capr) := by
        have h9 : w2.cell? ⟨bo, offo + i * 1 + 0, none⟩ = some (.slice Ar os.length capr) := hr1 0 _ rfl
        rwa [Nat.mul_one, Nat.add_zero] at h9
      have HR := hide (And.intro e3 (And.intro hos hAr))
      have HXLEN := hide hxl
      have HLO := hide (show bo < w.heap.size ∧ w.heap.size < w2.heap.size ∧ w2.heap.size ≤ wi.heap.size from ⟨hlo, by have := HZ.out.2; omega, H4.out.2.2.2.2.1.size⟩)
      have k9 : (os.length : Int) ≤ 120 := by omega
      clear e3 hos hAr hr1 hat1 hEo hlo hxl
      go_wp2_with fail
      go_loopw [5, 6] (fun v5 x wr => ∃ (k : Nat) (xs : List (Opt × Value)) (u5 : Value), k ≤ os.length ∧ x = .int .i64 ((k : Nat) : Int) ∧ v5 = u5 ∧ xs.map (·.1) = os.take k ∧ wr.ownsRow wi.heap.size 109 22 u5 k (flO xs) ∧ (∀ y ∈ xs, okP y.1.1 ∧ RefQ w wr y.2 y.1.2) ∧ Below wi.heap.size wi wr) (fun _ x _ => os.length - (intOf x).toNat)
      case atStart => exact ⟨0, [], .slice none 0 0, by omega, rfl, rfl, rfl, World.ownsRow_nil _ _ _ _, (fun x hx => by cases hx), Below.refl _ _⟩
      case round =>
        obtain ⟨wo, rfl⟩ : ∃ wo, wo = wr := ⟨_, rfl⟩
        obtain ⟨k, xs, u5, hk, rfl, rfl, hxm, hown, hxq, hbel⟩ := hrel
        have HO := hide (And.intro hown (And.intro (And.intro hxm hxq) hbel.size))
        have HBE := hide hbel
        clear hown hxm hxq hbel c22
        have hsame : ∀ b, b < w2.heap.size → wo.heap[b]? = w2.heap[b]? := fun b hb => (HBE.out.block b (by have := HLO.out.2.2; omega)).trans (H4.out.2.2.2.2.1.block b hb)
        have HC := hide (show wo.cell? ⟨w.heap.size, 22, none⟩ = some (.slice (some ⟨bo, offo, none⟩) c.opts.length capo) ∧ wo.cell? ⟨bo, offo + i, none⟩ = some (.slice Ar os.length capr) ∧ True from ⟨(World.cell?_of_block (hsame _ HLO.out.2.1)).trans HA.out.2.1, (World.cell?_of_block (hsame bo (by have := HLO.out; omega))).trans HR.out.1, trivial⟩)
        have HS := hide hsame
        clear hsame
        have k0 : (0 : Int) ≤ (k : Int) := by omega
        by_cases hk2 : k < os.length
        · have k1 : (k : Int) < (os.length : Int) := by omega
          obtain ⟨x, hx⟩ : ∃ x, os[k]? = some x := ⟨_, List.getElem?_eq_getElem hk2⟩
          have hAR := HR.out.2.2
          obtain ⟨br, offr, rfl, hlr, hEr⟩ := hAR (by omega)
          obtain ⟨cs2, hr2, hat2⟩ := hEr k x hx
          obtain ⟨cv, rfl, hpx, hatc⟩ := optLay_at hat2
          have hr2' : wo.rangeAt br (offr + k * 22) (oC x.1 cv) := rangeAt_same hr2 (HS.out br (by have := HLO.out; omega))
          obtain ⟨q1, q2⟩ := opt_parts hpx hr2'
          obtain ⟨Acv, ccv, rfl, _, _, _, _⟩ := slice_open hatc
          have HX := hide (And.intro q1 (And.intro q2 (And.intro hpx trivial)))
          have HXC := hide (And.intro hx hatc)
          have HXP := hide (fun q hq => (HOK.out os (List.mem_of_getElem? HR.out.2.1) x (List.mem_of_getElem? hx)).2 q hq)
          have HXL := hide (show x.2.length ≤ 1000000 by have := HXLEN.out x (List.mem_of_getElem? hx); omega)
          have HLT := hide (show w.heap.size < wi.heap.size ∧ bo < wi.heap.size ∧ br < wi.heap.size from by have := HLO.out; exact ⟨by omega, by omega, by omega⟩)
          clear hx hAR hEr hat2 hr2 hr2' q1 q2 hatc hpx hlr
          go_wp2_with (first | (refine wpList_value (o := ⟨some 25, _, _, _, _, _⟩) rfl (.slice (some ⟨bo, offo, none⟩) c.opts.length capo) wo (exec_load_cell (o := ⟨some 25, _, _, _, _, _⟩) 26 (.tmp 24) rfl ⟨w.heap.size, 22, none⟩ rfl _ _ wo Try.underlying26 rfl HC.out.1) ?_) | (refine wpList_value (o := ⟨some 27, _, _, _, _, _⟩) rfl (.pointer (some ⟨bo, offo + (i : Int).toNat * 1, none⟩)) wo (exec_index_off (o := ⟨some 27, _, _, _, _, _⟩) 26 57 (.tmp 25) (.tmp 26) rfl bo offo c.opts.length capo (i : Int) .i64 rfl rfl ⟨i0, i1⟩ 1 Try.underlying26 sz_row wo) ?_; rw [show offo + (i : Int).toNat * 1 = offo + i by omega]) | (refine wpList_value (o := ⟨some 28, _, _, _, _, _⟩) rfl (.slice (some ⟨br, offr, none⟩) os.length capr) wo (exec_load_cell (o := ⟨some 28, _, _, _, _, _⟩) 57 (.tmp 27) rfl ⟨bo, offo + i, none⟩ rfl _ _ wo Try.underlying57 rfl HC.out.2.1) ?_))
          have hL : ∀ p ∈ ([(53, SlQ w 109 wi.heap.size (RefQ w) x.1 x.2)] : Fre.MadeL), Fre.MadeOk Blw p.2 := by
            intro p hp
            simp only [List.mem_cons, List.not_mem_nil, or_false] at hp
            rcases hp with rfl
            · exact slQ_ok (refQ_ok (w0 := w)) _ _ _ _
          refine Fre.wp_made (X := Blw) 21 [(53, SlQ w 109 wi.heap.size (RefQ w) x.1 x.2)] (by kernel_rfl) (by kernel_rfl) hL (by simp) (by simp only [List.map_cons, List.map_nil, List.forall_mem_cons]; exact ⟨Nat.le_of_ble_eq_true (by kernel_rfl), fun _ h => by cases h⟩) ?_
          simp only [List.take_succ_cons, List.take_zero, List.drop_succ_cons, List.drop_zero]
          refine Fre.made_val (u5) (by kernel_rfl) (by kernel_rfl) (by kernel_rfl) (fun _ _ => by kernel_rfl) ?_
          simp only [Act.put, List.setIfInBounds_toArray, List.set_cons_zero, List.set_cons_succ]
          refine Fre.made_val (.pointer (some ⟨w.heap.size, 22, none⟩)) (by kernel_rfl) (by kernel_rfl) (by kernel_rfl) (fun _ _ => by kernel_rfl) ?_
          simp only [Act.put, List.setIfInBounds_toArray, List.set_cons_zero, List.set_cons_succ]
          refine Fre.made_val (.slice (some ⟨bo, offo, none⟩) c.opts.length capo) (by kernel_rfl) (by kernel_rfl) (by kernel_rfl) (fun W9 hW9 => exec_load_cell (o := ⟨some 35, _, _, _, _, _⟩) 26 (.tmp 34) rfl ⟨w.heap.size, 22, none⟩ rfl _ _ W9 Try.underlying26 rfl (by have h9 : Below _ wo W9 := hW9; rw [World.cell?_of_block (h9.block (w.heap.size) (by have := HLT.out; have := HO.out.2.2; omega))]; exact HC.out.1)) ?_
          simp only [Act.put, List.setIfInBounds_toArray, List.set_cons_zero, List.set_cons_succ]
          refine Fre.made_val (.int .i64 (i : Int)) (by kernel_rfl) (by kernel_rfl) (by kernel_rfl) (fun _ _ => by kernel_rfl) ?_
          simp only [Act.put, List.setIfInBounds_toArray, List.set_cons_zero, List.set_cons_succ]
          refine Fre.made_val (.pointer (some ⟨bo, offo + (i : Int).toNat * 1, none⟩)) (by kernel_rfl) (by kernel_rfl) (by kernel_rfl) (fun W9 _ => exec_index_off (o := ⟨some 37, _, _, _, _, _⟩) 26 57 (.tmp 35) (.tmp 36) rfl bo offo c.opts.length capo (i : Int) .i64 rfl rfl ⟨i0, i1⟩ 1 Try.underlying26 sz_row W9) ?_
          simp only [Act.put, List.setIfInBounds_toArray, List.set_cons_zero, List.set_cons_succ]
          rw [show offo + (i : Int).toNat * 1 = offo + i by omega]
          refine Fre.made_val (.slice (some ⟨br, offr, none⟩) os.length capr) (by kernel_rfl) (by kernel_rfl) (by kernel_rfl) (fun W9 hW9 => exec_load_cell (o := ⟨some 38, _, _, _, _, _⟩) 57 (.tmp 37) rfl ⟨bo, offo + i, none⟩ rfl _ _ W9 Try.underlying57 rfl (by have h9 : Below _ wo W9 := hW9; rw [World.cell?_of_block (h9.block (bo) (by have := HLT.out; have := HO.out.2.2; omega))]; exact HC.out.2.1)) ?_
          simp only [Act.put, List.setIfInBounds_toArray, List.set_cons_zero, List.set_cons_succ]
          refine Fre.made_val (.int .i64 (k : Int)) (by kernel_rfl) (by kernel_rfl) (by kernel_rfl) (fun _ _ => by kernel_rfl) ?_
          simp only [Act.put, List.setIfInBounds_toArray, List.set_cons_zero, List.set_cons_succ]
          refine Fre.made_val (.pointer (some ⟨br, offr + (k : Int).toNat * 22, none⟩)) (by kernel_rfl) (by kernel_rfl) (by kernel_rfl) (fun W9 _ => exec_index_off (o := ⟨some 40, _, _, _, _, _⟩) 57 55 (.tmp 38) (.tmp 39) rfl br offr os.length capr (k : Int) .i64 rfl rfl ⟨k0, k1⟩ 22 Try.underlying57 sz_opt W9) ?_
          simp only [Act.put, List.setIfInBounds_toArray, List.set_cons_zero, List.set_cons_succ]
          rw [show offr + (k : Int).toNat * 22 = offr + k * 22 by omega]
          refine Fre.made_val (.pointer (some ⟨br, offr + k * 22, none⟩)) (by kernel_rfl) (by kernel_rfl) (by kernel_rfl) (fun _ _ => by kernel_rfl) ?_
          simp only [Act.put, List.setIfInBounds_toArray, List.set_cons_zero, List.set_cons_succ]
          refine Fre.made_val (.agg (pC x.1).toArray) (by kernel_rfl) (by kernel_rfl) (by kernel_rfl) (fun W9 hW9 => exec_load_mid (o := ⟨some 42, _, _, _, _, _⟩) 53 (.tmp 41) rfl br (offr + k * 22) rfl (pC x.1) _ W9 (rangeAt_same HX.out.1 (by have h9 : Below _ wo W9 := hW9; exact h9.block _ (by have := HLT.out; have := HO.out.2.2; omega))) Try.underlying53 rfl (by have := psz HX.out.2.2.1; simpa using this)) ?_
          simp only [Act.put, List.setIfInBounds_toArray, List.set_cons_zero, List.set_cons_succ]
          refine Fre.made_val (.pointer (some ⟨w.heap.size, 22, none⟩)) (by kernel_rfl) (by kernel_rfl) (by kernel_rfl) (fun _ _ => by kernel_rfl) ?_
          simp only [Act.put, List.setIfInBounds_toArray, List.set_cons_zero, List.set_cons_succ]
          refine Fre.made_val (.slice (some ⟨bo, offo, none⟩) c.opts.length capo) (by kernel_rfl) (by kernel_rfl) (by kernel_rfl) (fun W9 hW9 => exec_load_cell (o := ⟨some 44, _, _, _, _, _⟩) 26 (.tmp 43) rfl ⟨w.heap.size, 22, none⟩ rfl _ _ W9 Try.underlying26 rfl (by have h9 : Below _ wo W9 := hW9; rw [World.cell?_of_block (h9.block (w.heap.size) (by have := HLT.out; have := HO.out.2.2; omega))]; exact HC.out.1)) ?_
          simp only [Act.put, List.setIfInBounds_toArray, List.set_cons_zero, List.set_cons_succ]
          refine Fre.made_val (.int .i64 (i : Int)) (by kernel_rfl) (by kernel_rfl) (by kernel_rfl) (fun _ _ => by kernel_rfl) ?_
          simp only [Act.put, List.setIfInBounds_toArray, List.set_cons_zero, List.set_cons_succ]
          refine Fre.made_val (.pointer (some ⟨bo, offo + (i : Int).toNat * 1, none⟩)) (by kernel_rfl) (by kernel_rfl) (by kernel_rfl) (fun W9 _ => exec_index_off (o := ⟨some 46, _, _, _, _, _⟩) 26 57 (.tmp 44) (.tmp 45) rfl bo offo c.opts.length capo (i : Int) .i64 rfl rfl ⟨i0, i1⟩ 1 Try.underlying26 sz_row W9) ?_
          simp only [Act.put, List.setIfInBounds_toArray, List.set_cons_zero, List.set_cons_succ]
          rw [show offo + (i : Int).toNat * 1 = offo + i by omega]
          refine Fre.made_val (.slice (some ⟨br, offr, none⟩) os.length capr) (by kernel_rfl) (by kernel_rfl) (by kernel_rfl) (fun W9 hW9 => exec_load_cell (o := ⟨some 47, _, _, _, _, _⟩) 57 (.tmp 46) rfl ⟨bo, offo + i, none⟩ rfl _ _ W9 Try.underlying57 rfl (by have h9 : Below _ wo W9 := hW9; rw [World.cell?_of_block (h9.block (bo) (by have := HLT.out; have := HO.out.2.2; omega))]; exact HC.out.2.1)) ?_
          simp only [Act.put, List.setIfInBounds_toArray, List.set_cons_zero, List.set_cons_succ]
          refine Fre.made_val (.int .i64 (k : Int)) (by kernel_rfl) (by kernel_rfl) (by kernel_rfl) (fun _ _ => by kernel_rfl) ?_
          simp only [Act.put, List.setIfInBounds_toArray, List.set_cons_zero, List.set_cons_succ]
          refine Fre.made_val (.pointer (some ⟨br, offr + (k : Int).toNat * 22, none⟩)) (by kernel_rfl) (by kernel_rfl) (by kernel_rfl) (fun W9 _ => exec_index_off (o := ⟨some 49, _, _, _, _, _⟩) 57 55 (.tmp 47) (.tmp 48) rfl br offr os.length capr (k : Int) .i64 rfl rfl ⟨k0, k1⟩ 22 Try.underlying57 sz_opt W9) ?_
          simp only [Act.put, List.setIfInBounds_toArray, List.set_cons_zero, List.set_cons_succ]
          rw [show offr + (k : Int).toNat * 22 = offr + k * 22 by omega]
          refine Fre.made_val (.pointer (some ⟨br, offr + k * 22 + 21, none⟩)) (by kernel_rfl) (by kernel_rfl) (by kernel_rfl) (fun _ _ => by kernel_rfl) ?_
          simp only [Act.put, List.setIfInBounds_toArray, List.set_cons_zero, List.set_cons_succ]
          refine Fre.made_val (.slice Acv x.2.length ccv) (by kernel_rfl) (by kernel_rfl) (by kernel_rfl) (fun W9 hW9 => exec_load_cell (o := ⟨some 51, _, _, _, _, _⟩) 24 (.tmp 50) rfl ⟨br, offr + k * 22 + 21, none⟩ rfl _ _ W9 Try.underlying24 rfl (by have h9 : Below _ wo W9 := hW9; rw [World.cell?_of_block (h9.block (br) (by have := HLT.out; have := HO.out.2.2; omega))]; exact HX.out.2.1)) ?_
          simp only [Act.put, List.setIfInBounds_toArray, List.set_cons_zero, List.set_cons_succ]
          refine Fre.made_val (.agg (oC x.1 (.slice Acv x.2.length ccv)).toArray) (by kernel_rfl) (by kernel_rfl) (by kernel_rfl) (fun W9 hW9 => exec_optB (o := ⟨some 52, _, _, _, _, _⟩) 109 (.tmp 42) (.tmp 51) rfl x.1 _ HX.out.2.2.1 ⟨_, _, _, rfl⟩ rfl rfl Try.underlying109 (fun w => by kernel_rfl) (fun w => by kernel_rfl) W9) ?_
          simp only [Act.put, List.setIfInBounds_toArray, List.set_cons_zero, List.set_cons_succ]
          refine Fre.made_new 53 _ (by kernel_rfl) (by kernel_rfl) rfl rfl (fun W9 hW9 => ?hsl) ?_
          case hsl =>
            have h9 : Below _ wo W9 := hW9
            have hb9 : Below W9.heap.size W9 (W9.alloc (.cells (oC x.1 (.slice Acv x.2.length ccv)).toArray 109)) := (Below.refl _ W9).alloc (Nat.le_refl _) _
            exact ⟨.slice (some ⟨W9.heap.size, 0, none⟩) 1 1, W9.alloc (.cells (oC x.1 (.slice Acv x.2.length ccv)).toArray 109), exec_buildSliceP (o := ⟨some 53, _, _, _, _, _⟩) (v := .agg (oC x.1 (.slice Acv x.2.length ccv)).toArray) 107 (.tmp 52) rfl rfl Try.underlying107 sz_optR (by omega) (by omega) (z := .agg zcO) (fun w => by kernel_rfl) (by rw [Value.cells, List.size_toArray]; exact oC_len HX.out.2.2.1 _) W9, hb9, by have := h9.size; have := hb9.size; have := HLT.out; have := HO.out.2.2; omega, W9.heap.size, _, rfl, by have := h9.size; have := HO.out.2.2; omega, Blk.new _ _ _, pathsLay.alike HXC.out.2 fun b hb => (hb9.block b (by have := h9.size; have := HLT.out; have := HO.out.2.2; omega)).trans ((h9.block b (by have := HLT.out; have := HO.out.2.2; omega)).trans (HS.out b (by have := HZ.out; omega)))⟩
          simp only [Act.put, List.setIfInBounds_toArray, List.set_cons_zero, List.set_cons_succ]
          show ∀ w', _ → _
          intro w5 hx5
          simp only [Fre.ended]
          have hx5 : Below _ wo w5 := hx5
          intro us hs9
          simp only [Act.put, List.setIfInBounds_toArray, List.set_cons_zero, List.set_cons_succ]
          obtain ⟨_, r9, cv9, rfl, hr9, hb9, hq9⟩ := hs9
          have hone9 : ∃ A n cap, cv9 = .slice A n cap := (refQ_ok (w0 := w)).one hq9
          have hown5 : w5.ownsRow wi.heap.size 109 22 u5 k (flO xs) := owned_keepN HO.out.1 fun g _ hl => hx5.block g hl
          have hsrc5 : SrcN w5 22 (some ⟨r9, 0, none⟩) 1 1 (oC x.1 cv9) := by
            have h := box_src hb9 (oC_oneV hone9)
            rwa [oC_len HX.out.2.2.1] at h
          have H9 := hide (And.intro hown5 (And.intro hsrc5 (And.intro hq9 hx5)))
          clear hown5 hsrc5 hq9 hx5 hb9 hone9 hL
          go_wp2_with (at_builtin; (refine wpList_appS (o := ⟨some 54, _, _, _, _, _⟩) rfl _ _ 107 rfl wi.heap.size 109 io _ 22 64 Try.underlying107 HI.out.1 HI.out.2.1 HI.out.2.2.1 HI.out.2.2.2 rfl (by decide) _ k (flO xs) H9.out.1 (some ⟨r9, 0, none⟩) 1 1 (oC x.1 cv9) H9.out.2.1 ?hm1 ?hb1 ?hz1 rfl rfl ?_))
          case hm1 => simp only [maxLen]; omega
          case hb1 => omega
          case hz1 => have := H9.out.2.2.2.size; have := HO.out.2.2; omega
          intro y5 w6 own6 gr6 _
          have hb6 : Below wi.heap.size wi w6 := Below.grownOwn (HBE.out.trans (Below.mono H9.out.2.2.2 HO.out.2.2)) H9.out.1 (Nat.le_refl _) gr6
          have hw9 : w.heap.size ≤ wo.heap.size := by have := HLT.out; have := HO.out.2.2; omega
          have hkp : KeepO w 53 wo w6 := (KeepO.of_below H9.out.2.2.2 hw9).trans (KeepO.of_grown H9.out.1 gr6 (by have := HLT.out; omega) ⟨by decide, by decide⟩ (Nat.le_trans hw9 H9.out.2.2.2.size))
          have hq6 : ∀ y ∈ xs ++ [(x, cv9)], okP y.1.1 ∧ RefQ w w6 y.2 y.1.2 := by
            intro y hy
            rcases List.mem_append.1 hy with hy | hy
            · exact ⟨(HO.out.2.1.2 y hy).1, (refQ_ok (w0 := w)).keep (HO.out.2.1.2 y hy).2 hkp⟩
            · rw [List.mem_singleton.1 hy]
              exact ⟨HX.out.2.2.1, (refQ_ok (w0 := w)).keep H9.out.2.2.1 (KeepO.of_grown H9.out.1 gr6 (by have := HLT.out; omega) ⟨by decide, by decide⟩ (Nat.le_trans hw9 H9.out.2.2.2.size))⟩
          have H5 := hide (And.intro hb6 (And.intro hq6 own6))
          clear hb6 hq6 own6 gr6 hkp
          go_wp2_with fail
          go_roundw
          case rel => exact ⟨k + 1, xs ++ [(x, cv9)], y5, by omega, by go_num, rfl, by rw [List.map_append, HO.out.2.1.1, List.take_add_one, HXC.out.1]; rfl, by rw [flO_snoc]; exact H5.out.2.2, H5.out.2.1, H5.out.1⟩
          case measure => simp [intOf]; omega
        · obtain rfl : k = os.length := by omega
          have hrow : RowQ 109 (RefQ w) wo u5 os := ⟨xs, by rw [HO.out.2.1.1, List.take_length], ⟨_, HO.out.1⟩, HO.out.2.1.2⟩
          obtain ⟨A5, m5, c5, rfl⟩ := hrow.slice
          obtain ⟨w9, hw9⟩ : ∃ w9, w9 = wo.alloc (.cells #[.slice A5 m5 c5] 107) := ⟨_, rfl⟩
          have hb9 : Below wo.heap.size wo w9 := by rw [hw9]; exact (Below.refl _ wo).alloc (Nat.le_refl _) _
          have hk9 : Blk w9 wo.heap.size 107 #[.slice A5 m5 c5] := by rw [hw9]; exact Blk.new _ _ _
          have hbi : Below wi.heap.size wi w9 := HBE.out.trans (Below.mono hb9 HO.out.2.2)
          have hbxo : Blk wo w2.heap.size 40 (caseC ⟨v.own, v.fixed, v.classes, vo, v.of⟩).toArray := H4.out.2.1.below HBE.out H4.out.2.1.lt
          have hbx9 : Blk w9 w2.heap.size 40 (caseC ⟨v.own, v.fixed, v.classes, vo, v.of⟩).toArray := hbxo.below hb9 hbxo.lt
          have hown9 : w9.ownsRow w3.heap.size 107 1 vo i (flR rows) := owned_keepN H4.out.2.2.1 fun g _ hl => hbi.block g hl
          have hsrc9 : SrcN w9 1 (some ⟨wo.heap.size, 0, none⟩) 1 1 [.slice A5 m5 c5] := box_src (cs := [.slice A5 m5 c5]) hk9 (fun u hu => by rw [List.mem_singleton.1 hu]; rfl)
          have hwo : w.heap.size ≤ wo.heap.size := by have := HLO.out; have := HO.out.2.2; omega
          have hvo : wo.cell? ⟨w2.heap.size, 22, none⟩ = some vo := (case_cellsT (v := ⟨v.own, v.fixed, v.classes, vo, v.of⟩) ho hbxo).2.2.1
          have H9 := hide (And.intro hown9 (And.intro hsrc9 (And.intro hb9 (And.intro hbi (And.intro hbx9 (And.intro hrow hwo))))))
          have HVO := hide hvo
          have HW9 := hide hw9
          clear hown9 hsrc9 hb9 hbi hbx9 hrow hwo hvo hk9 hbxo hw9
          go_wp2_with (first | (refine wpList_value (o := ⟨some 25, _, _, _, _, _⟩) rfl (.slice (some ⟨bo, offo, none⟩) c.opts.length capo) wo (exec_load_cell (o := ⟨some 25, _, _, _, _, _⟩) 26 (.tmp 24) rfl ⟨w.heap.size, 22, none⟩ rfl _ _ wo Try.underlying26 rfl HC.out.1) ?_) | (refine wpList_value (o := ⟨some 27, _, _, _, _, _⟩) rfl (.pointer (some ⟨bo, offo + (i : Int).toNat * 1, none⟩)) wo (exec_index_off (o := ⟨some 27, _, _, _, _, _⟩) 26 57 (.tmp 25) (.tmp 26) rfl bo offo c.opts.length capo (i : Int) .i64 rfl rfl ⟨i0, i1⟩ 1 Try.underlying26 sz_row wo) ?_; rw [show offo + (i : Int).toNat * 1 = offo + i by omega]) | (refine wpList_value (o := ⟨some 28, _, _, _, _, _⟩) rfl (.slice Ar os.length capr) wo (exec_load_cell (o := ⟨some 28, _, _, _, _, _⟩) 57 (.tmp 27) rfl ⟨bo, offo + i, none⟩ rfl _ _ wo Try.underlying57 rfl HC.out.2.1) ?_) | (refine wpList_value (o := ⟨some 56, _, _, _, _, _⟩) rfl vo wo (exec_load_cell (o := ⟨some 56, _, _, _, _, _⟩) 38 (.tmp 55) rfl ⟨w2.heap.size, 22, none⟩ rfl _ _ wo Try.underlying38 rfl HVO.out) ?_) | (refine wpList_value (o := ⟨some 58, _, _, _, _, _⟩) rfl (.slice (some ⟨wo.heap.size, 0, none⟩) 1 1) w9 (by rw [HW9.out]; exact exec_buildSliceP (o := ⟨some 58, _, _, _, _, _⟩) (v := .slice A5 m5 c5) 38 (.tmp 57) rfl rfl Try.underlying38 sz_rowR (by omega) (by omega) (z := .slice none 0 0) (fun w => by kernel_rfl) rfl wo) ?_) | (at_builtin; (refine wpList_appS (o := ⟨some 59, _, _, _, _, _⟩) rfl _ _ 38 rfl w3.heap.size 107 ir _ 1 24 Try.underlying38 HJ.out.1 HJ.out.2.1 HJ.out.2.2.1 HJ.out.2.2.2 rfl (by decide) _ i (flR rows) H9.out.1 (some ⟨wo.heap.size, 0, none⟩) 1 1 [.slice A5 m5 c5] H9.out.2.1 ?hm2 ?hb2 ?hz2 rfl rfl ?_)))
          case hm2 => simp only [maxLen]; omega
          case hb2 => omega
          case hz2 => have := H4.out.2.2.2.2.2.size; have := H9.out.2.2.1.size; have := HO.out.2.2; omega
          intro v10 w10 own10 gr10 _
          obtain ⟨A10, m10, c10, rfl⟩ : ∃ A m c, v10 = .slice A m c := by
            rcases owned_formN own10 with ⟨e, _⟩ | ⟨g, cap, cur, e, _⟩
            · exact ⟨_, _, _, e⟩
            · exact ⟨_, _, _, e⟩
          have hlt3 : w2.heap.size < w3.heap.size := H3.out.1.lt
          have hbx10 : Blk w10 w2.heap.size 40 (caseC ⟨v.own, v.fixed, v.classes, vo, v.of⟩).toArray := (gr10.block w2.heap.size H9.out.2.2.2.2.1.lt (fun e => by have := (owned_ltN H9.out.1 e.symm).1; omega)).trans H9.out.2.2.2.2.1
          have cl10 : w10.cell? ⟨w2.heap.size, 22, none⟩ = some vo := (case_cellsT (v := ⟨v.own, v.fixed, v.classes, vo, v.of⟩) ho hbx10).2.2.1
          have fr10 := hbx10.frozen 22
          have lt10 := hbx10.lt
          obtain ⟨w11, hw11⟩ : ∃ w11, w11 = w10.setCell ⟨w2.heap.size, 22, none⟩ (.slice A10 m10 c10) := ⟨_, rfl⟩
          have hbx11 : Blk w11 w2.heap.size 40 (caseC ⟨v.own, v.fixed, v.classes, .slice A10 m10 c10, v.of⟩).toArray := by rw [hw11]; have h := hbx10.set_ 22 (.slice A10 m10 c10); rwa [caseC_set (v := ⟨v.own, v.fixed, v.classes, vo, v.of⟩) ho] at h
          have hoth : ∀ b, b ≠ w2.heap.size → w11.heap[b]? = w10.heap[b]? := fun b hb => by rw [hw11]; exact Below.heap_setCell w10 _ _ b (fun e => hb e)
          have hsz11 : w11.heap.size = w10.heap.size := by rw [hw11]; simp [World.setCell]
          have hg11 : w10.grownBy w11 (some w2.heap.size) := ⟨by rw [hw11]; rfl, by rw [hw11]; rfl, by rw [hw11]; rfl, by omega, fun k _ hne => hoth k (fun e => hne (by rw [e]))⟩
          have hw3i : w3.heap.size ≤ wi.heap.size := H4.out.2.2.2.2.2.size
          have hgr10 : w3.grownBy w10 (some w2.heap.size) := by
            have h1 := grownBy_below H4.out.2.2.2.2.2 (Below.mono H9.out.2.2.2.1 hw3i)
            refine ⟨gr10.os.trans h1.os, gr10.tape.trans h1.tape, gr10.output.trans h1.output, Nat.le_trans h1.size gr10.size, fun b hb hne => (gr10.block b (by have := h1.size; omega) (fun e => ?_)).trans (h1.block b hb hne)⟩
            have := (owned_ltN H9.out.1 e.symm).1
            omega
          have hgr11 := grownBy_trans hgr10 hg11
          have hwb : w.heap.size ≤ w2.heap.size := by have := H3.out.2.2; have := HLO.out; omega
          have kp1 : KeepO w 109 wo w9 := KeepO.of_below H9.out.2.2.1 H9.out.2.2.2.2.2.2
          have kp2 : KeepO w 109 w9 w10 := KeepO.of_grown H9.out.1 gr10 (by omega) ⟨by decide, by decide⟩ (Nat.le_trans H9.out.2.2.2.2.2.2 H9.out.2.2.1.size)
          have kp3 : KeepO w 109 w10 w11 := KeepO.of_one (b := w2.heap.size) (by omega) (fun b hb _ => hoth b hb) hbx10 hwb ⟨by decide, by decide⟩
          have kp := kp1.trans (kp2.trans kp3)
          have kp0 : KeepO w 109 wi wo := KeepO.of_below HBE.out (by have := HLO.out; omega)
          have hrq11 : ∀ y ∈ rows ++ [(os, Value.slice A5 m5 c5)], RowQ 109 (RefQ w) w11 y.2 y.1 := by
            intro y hy
            rcases List.mem_append.1 hy with hy | hy
            · exact (H4.out.2.2.2.1 y hy).keep (refQ_ok (w0 := w)) (kp0.trans kp)
            · rw [List.mem_singleton.1 hy]
              exact H9.out.2.2.2.2.2.1.keep (refQ_ok (w0 := w)) kp
          have own11 : w11.ownsRow w3.heap.size 107 1 (.slice A10 m10 c10) (i + 1) (flR rows ++ [.slice A5 m5 c5]) := owned_keepN own10 fun g hg _ => hoth g fun e => by have := (owned_ltN own10 hg).1; omega
          have H11 := hide (And.intro hbx11 (And.intro own11 (And.intro hrq11 hgr11)))
          have HW11 := hide hw11
          clear hbx10 hbx11 own10 own11 hrq11 hgr11 hgr10 hg11 hoth hsz11 kp kp0 kp1 kp2 kp3 gr10 hlt3 hw11 hw3i hwb
          go_wp2_with fail
          rw [← HW11.out]
          go_roundw
          case rel => exact ⟨i + 1, .slice A10 m10 c10, rows ++ [(os, .slice A5 m5 c5)], by omega, by go_num, by rw [List.map_append, H4.out.1, List.take_add_one, HR.out.2.1]; rfl, H11.out.1, by rw [flR_snoc]; exact H11.out.2.1, H11.out.2.2.1, H11.out.2.2.2⟩
          case measure => simp [intOf]; omega
    · obtain rfl : i = c.opts.length := by omega
      have hrm := H4.out.1
      rw [List.take_length] at hrm
      have hln : rows.length = c.opts.length := by rw [← hrm, List.length_map]
      obtain ⟨Av, mv, cvv, rfl⟩ : ∃ A m c, vo = .slice A m c := by
        rcases owned_formN H4.out.2.2.1 with ⟨e, _⟩ | ⟨g, cap, cur, e, _⟩
        · exact ⟨_, _, _, e⟩
        · exact ⟨_, _, _, e⟩
      have HRM := hide (And.intro hrm hln)
      clear hrm hln
      have hrb : Blk wi w1.heap.size 40 zcL.toArray := (H4.out.2.2.2.2.1.block w1.heap.size (by have := HZ.out; omega)).trans H2.out.2.2.1
      have HRB := hide hrb
      clear hrb
      have hcz := cszR (v := ⟨v.own, v.fixed, v.classes, .slice Av mv cvv, v.of⟩) ho
      have hall : (caseC ⟨v.own, v.fixed, v.classes, .slice Av mv cvv, v.of⟩).toArray.all (·.oneCell') = true := all_oneCell_toArray (caseC_one HCO.out.1 HCO.out.2.1 rfl HCO.out.2.2)
      have hzz : zcL.toArray.size = (caseC ⟨v.own, v.fixed, v.classes, .slice Av mv cvv, v.of⟩).toArray.size := by rw [List.size_toArray, List.size_toArray, caseC_len (c := ⟨v.own, v.fixed, v.classes, .slice Av mv cvv, v.of⟩) ho]; rfl
      have HZZ := hide (And.intro hcz (And.intro hall hzz))
      clear hcz hall hzz
      go_wp2_with (first | (refine wpList_value (o := ⟨some 61, _, _, _, _, _⟩) rfl (.agg (caseC ⟨v.own, v.fixed, v.classes, .slice Av mv cvv, v.of⟩).toArray) wi (exec_load_blk (o := ⟨some 61, _, _, _, _, _⟩) 40 (.tmp 3) rfl w2.heap.size rfl 40 _ _ wi H4.out.2.1 Try.underlying40 rfl HZZ.out.1) ?_) | (with_reducible refine wpList_store_blkA (o := ⟨none, _, _, _, _, _⟩) rfl 40 (.tmp 2) (.tmp 61) rfl w1.heap.size zcL.toArray (caseC ⟨v.own, v.fixed, v.classes, .slice Av mv cvv, v.of⟩).toArray 40 HRB.out ?s1 ?s2 ?s3 ?s4 ?s5 ?s6))
      case s1 => exact HZZ.out.1
      case s2 => exact HZZ.out.2.2
      case s3 => exact HZZ.out.2.1
      intro w12 hk12 hg12
      have hw1 : w.heap.size ≤ w1.heap.size := by have := HZ.out; omega
      have kp : KeepO w 109 wi w12 := KeepO.of_one (b := w1.heap.size) hg12.size (fun b hb hl => hg12.block b hl fun e => hb (Option.some.inj e)) HRB.out hw1 ⟨by decide, by decide⟩
      have hb12 : Below w.heap.size w w12 := (H2.out.1.trans (Below.mono H4.out.2.2.2.2.1 H2.out.1.size)).grown hg12 (by have := H4.out.2.2.2.2.1.size; have := HZ.out; omega) (fun b hb => by injection hb with hb; omega)
      have hw12 : w.heap.size ≤ w12.heap.size := hb12.size
      have hown12 : w12.ownsRow w3.heap.size 107 1 (.slice Av mv cvv) rows.length (flR rows) := by rw [HRM.out.2]; exact owned_keepN H4.out.2.2.1 fun g hg hl => hg12.block g hl fun e => by have := (owned_ltN H4.out.2.2.1 hg).1; have e := Option.some.inj e; have := H3.out.2.1.size; have := HZ.out; omega
      have hrq12 : ∀ y ∈ rows, RowQ 109 (RefQ w) w12 y.2 y.1 := fun y hy => (H4.out.2.2.2.1 y hy).keep (refQ_ok (w0 := w)) kp
      have hat12 : rowsLay.At w12 w12.heap.size [.slice Av mv cvv] c.opts := rowsQ_at (refQ_ok (w0 := w)) HRM.out.1 hown12 hrq12 hw12
      have hC12 : CaseAt w12.heap.size w12 ⟨v.own, v.fixed, v.classes, .slice Av mv cvv, v.of⟩ c := by
        have h := (HA.out.1.alike (w' := w12) fun b hb => (hb12.block b hb).trans (H2.out.1.block b hb).symm).widen hw12
        exact ⟨h.own, h.okO, h.atF, h.atC, hat12, h.atM⟩
      have H12 := hide (And.intro hk12 (And.intro hC12 hb12))
      clear hk12 hg12 hC12 hb12 hw12 kp hown12 hrq12 hat12 hw1
      go_wp2_with fail
      refine bodyPost_ret (results_cell_row rfl _ _ w1.heap.size 40 (caseC ⟨v.own, v.fixed, v.classes, .slice Av mv cvv, v.of⟩).toArray (0, 0) _ rfl H12.out.1 Try.underlying40 rfl HZZ.out.1) rfl ⟨_, rfl, H12.out.2⟩
end Go.Proofs.Ytfppddnfdinipaa
end
section
namespace Go.Proofs.Ytfppddnfdinipaa
open Go Go.RowKit Go.Maps
set_option maxRecDepth 100000
def stepC (out : List (List Nat)) (n : Nat) : List (List Nat) := out.flatMap fun l => (List.range n).map fun k => l ++ [k]
def choicesP : List (List Opt) → List (List Nat) → Option (List (List Nat))
  | [], out => some out
  | os :: r, out => if 300 < (stepC out os.length).length then none else choicesP r (stepC out os.length)
theorem stepC_len (out : List (List Nat)) (n : Nat) : (stepC out n).length = out.length * n := by
  unfold stepC
  induction out with
  | nil => simp
  | cons l out ih => rw [List.flatMap_cons, List.length_append, ih, List.length_map, List.length_range, List.length_cons, Nat.add_mul]; omega
theorem stepC_next {out : List (List Nat)} {k : Nat} {l : List Nat} (h : out[k]? = some l) (n : Nat) : stepC (out.take (k + 1)) n = stepC (out.take k) n ++ (List.range n).map fun j => l ++ [j] := by
  unfold stepC
  rw [List.take_add_one, h, List.flatMap_append]
  simp
theorem info_rowI : (Try.prog.info? 33).map (fun i => (i.zero, i.size, i.bytes)) = some (some (.slice none 0 0), 1, 24) := by kernel_rfl
/-- a row of rows of numbers -/
def RowsI (R : Nat) (w : World) (v : Value) (ls : List (List Nat)) : Prop := ∃ us : List Value, us.length = ls.length ∧ w.ownsRow R 33 1 v ls.length us ∧ ∀ (j : Nat) u l, us[j]? = some u → ls[j]? = some l → OwnI 0 w u l
theorem RowsI.nil (R : Nat) (w : World) : RowsI R w (.slice none 0 0) [] := ⟨[], rfl, World.ownsRow_nil _ _ _ _, fun j u l h => by simp at h⟩
theorem RowsI.base {R R' : Nat} {w : World} {v : Value} {ls : List (List Nat)} (h : RowsI R w v ls) (hb : ∀ g, v.ownBlock = some g → R' ≤ g) : RowsI R' w v ls := by
  obtain ⟨us, h1, h2, h3⟩ := h
  exact ⟨us, h1, owned_baseN h2 hb, h3⟩
theorem RowsI.below {R : Nat} {w w' : World} {v : Value} {ls : List (List Nat)} (h : RowsI R w v ls) (hb : Below w.heap.size w w') : RowsI R w' v ls := by
  obtain ⟨us, h1, h2, h3⟩ := h
  exact ⟨us, h1, owned_keepN h2 fun g _ hl => hb.block g hl, fun j u l hu hl => owned_keepN (h3 j u l hu hl) fun g _ hl => hb.block g hl⟩
theorem RowsI.blk {R : Nat} {w : World} {v : Value} {ls : List (List Nat)} (h : RowsI R w v ls) {k : Nat} (hk : v.ownBlock = some k) : R ≤ k ∧ k < w.heap.size := by
  obtain ⟨us, h1, h2, h3⟩ := h
  exact owned_ltN h2 hk
/-- one row of it -/
theorem RowsI.get {R : Nat} {w : World} {v : Value} {ls : List (List Nat)} (h : RowsI R w v ls) {k : Nat} {l : List Nat} (hk : ls[k]? = some l) : ∃ g cap A c, v = .slice (some ⟨g, 0, none⟩) ls.length cap ∧ g < w.heap.size ∧ R ≤ g ∧ w.cell? ⟨g, k, none⟩ = some (.slice A l.length c) ∧ OwnI 0 w (.slice A l.length c) l := by
  obtain ⟨us, h1, h2, h3⟩ := h
  have hkl := (List.getElem?_eq_some_iff.1 hk).1
  obtain ⟨u, hu⟩ : ∃ u, us[k]? = some u := ⟨_, List.getElem?_eq_getElem (by omega)⟩
  have ho := h3 k u l hu hk
  have hul : ∃ A c, u = .slice A l.length c := by
    rcases owned_formN ho with ⟨e, h0, _⟩ | ⟨g, cap, cur, e, _⟩
    · exact ⟨none, 0, by rw [e, h0]⟩
    · exact ⟨_, _, e⟩
  obtain ⟨A, c, rfl⟩ := hul
  rcases owned_formN h2 with ⟨_, h0, _⟩ | ⟨g, cap, cur, e, hR, _, _, hb, hs, ht, hlt⟩
  · omega
  · refine ⟨g, cap, A, c, e, hlt, hR, ?_, ho⟩
    rw [hb.cell, ← Array.getElem?_toList]
    rw [← ht, List.getElem?_take_of_lt (by omega)] at hu
    exact hu
/-- a row is put behind -/
theorem rowsI_put {R : Nat} {w w' : World} {v v' u : Value} {ls : List (List Nat)} {l : List Nat} {us : List Value} (h1 : us.length = ls.length) (h2 : w.ownsRow R 33 1 v ls.length us) (h3 : ∀ (j : Nat) u l, us[j]? = some u → ls[j]? = some l → OwnI 0 w u l) (hu : OwnI 0 w u l) (hg : w.grownBy w' v.ownBlock) (ho : w'.ownsRow R 33 1 v' (ls.length + 1) (us ++ [u])) : RowsI R w' v' (ls ++ [l]) := by
  have hkeep : ∀ {u : Value} {l : List Nat}, OwnI 0 w u l → OwnI 0 w' u l := fun {u l} hq => owned_keepN hq fun g hg2 hl => hg.block g hl fun e => by
    obtain ⟨g', cap, cur, e1, _, _, _, hb, _⟩ := (owned_formN hq).resolve_left (fun h => by rw [h.1] at hg2; cases hg2)
    rw [e1] at hg2
    injection hg2 with hg2
    change g' = g at hg2
    subst hg2
    exact owned_neN h2 hb (by decide) e.symm
  refine ⟨us ++ [u], by simp [h1], by rw [List.length_append]; exact ho, fun j x y hx hy => ?_⟩
  by_cases hj : j < ls.length
  · rw [List.getElem?_append_left (by omega)] at hx
    rw [List.getElem?_append_left hj] at hy
    exact hkeep (h3 j x y hx hy)
  · have hjl := (List.getElem?_eq_some_iff.1 hy).1
    simp at hjl
    obtain rfl : j = ls.length := by omega
    rw [List.getElem?_append_right (by omega), h1] at hx
    rw [List.getElem?_append_right (by omega)] at hy
    simp at hx hy
    subst hx hy
    exact hkeep hu
end Go.Proofs.Ytfppddnfdinipaa
end
section
namespace Go.Proofs.Ytfppddnfdinipaa
open Go Go.RowKit Go.Maps
theorem rowC_eq (rest : List (List Nat)) : ∀ (os : List Opt) (k : Nat), rowC rest k os = (List.range os.length).flatMap fun j => rest.map ((k + j) :: ·)
  | [], _ => rfl
  | x :: os, k => by
    unfold rowC
    rw [rowC_eq rest os (k + 1), List.length_cons, List.range_succ_eq_map, List.flatMap_cons, List.flatMap_map]
    simp only [Nat.add_zero]
    congr 1
    congr 1
    funext j
    rw [show k + 1 + j = k + (j + 1) by omega]
theorem choices_all : ∀ (opts : List (List Opt)) (out all : List (List Nat)), choicesP opts out = some all → all = out.flatMap fun l => (allC opts).map (l ++ ·)
  | [], out, all, h => by
    injection h with h
    subst h
    unfold allC
    simp
  | os :: r, out, all, h => by
    unfold choicesP at h
    split at h
    · cases h
    · have ih := choices_all r _ all h
      rw [ih]
      unfold stepC
      rw [List.flatMap_assoc]
      congr 1
      funext l
      rw [List.flatMap_map]
      show _ = (rowC (allC r) 0 os).map _
      rw [rowC_eq, List.map_flatMap]
      congr 1
      funext j
      rw [List.map_map]
      congr 1
      funext m
      simp
theorem choices_nodes : ∀ (opts : List (List Opt)) (out all : List (List Nat)), choicesP opts out = some all → nodes opts * out.length ≤ 300 * opts.length
  | [], out, all, _ => by unfold nodes; simp
  | os :: r, out, all, h => by
    unfold choicesP at h
    split at h
    · cases h
    · rename_i hle
      have ih := choices_nodes r _ all h
      rw [stepC_len] at ih hle
      unfold nodes
      rw [List.length_cons]
      have e : os.length * (1 + nodes r) * out.length = out.length * os.length + nodes r * (out.length * os.length) := by
        rw [Nat.mul_add, Nat.mul_one, Nat.add_mul, Nat.mul_comm os.length out.length]
        congr 1
        rw [Nat.mul_comm os.length (nodes r), Nat.mul_assoc, Nat.mul_comm os.length out.length]
      rw [e]
      omega
theorem allC_in : ∀ (opts : List (List Opt)) (l : List Nat), l ∈ allC opts → l.length = opts.length ∧ ∀ (i : Nat) os k, opts[i]? = some os → l[i]? = some k → k < os.length
  | [], l, h => by
    unfold allC at h
    rw [List.mem_singleton] at h
    subst h
    exact ⟨rfl, fun i os k h1 _ => by simp at h1⟩
  | os :: r, l, h => by
    unfold allC at h
    rw [rowC_eq] at h
    obtain ⟨j, hj, h2⟩ := List.mem_flatMap.1 h
    obtain ⟨m, hm, rfl⟩ := List.mem_map.1 h2
    obtain ⟨h3, h4⟩ := allC_in r m hm
    refine ⟨by rw [List.length_cons, List.length_cons, h3], fun i os' k h5 h6 => ?_⟩
    cases i with
    | zero =>
      simp only [List.getElem?_cons_zero, Option.some.injEq] at h5 h6
      subst h5 h6
      have := List.mem_range.1 hj
      omega
    | succ i => exact h4 i os' k (by simpa using h5) (by simpa using h6)
theorem allC_ne : ∀ (opts : List (List Opt)), opts.any (·.isEmpty) = false → allC opts ≠ []
  | [], _ => by unfold allC; simp
  | os :: r, h => by
    rw [List.any_cons, Bool.or_eq_false_iff] at h
    have ih := allC_ne r h.2
    unfold allC
    cases os with
    | nil => exact absurd h.1 (by decide)
    | cons x xs =>
      unfold rowC
      intro e
      have := List.append_eq_nil_iff.1 e
      exact ih (List.map_eq_nil_iff.1 this.1)
theorem allC_empty : ∀ (opts : List (List Opt)), opts.any (·.isEmpty) = true → allC opts = []
  | [], h => by cases h
  | os :: r, h => by
    rw [List.any_cons, Bool.or_eq_true] at h
    unfold allC
    rcases h with h | h
    · cases os with
      | nil => rfl
      | cons x xs => cases h
    · rw [rowC_eq, allC_empty r h]
      simp
theorem allC_choices {opts : List (List Opt)} {all : List (List Nat)} (h : choicesP opts [[]] = some all) : all = allC opts ∧ nodes opts ≤ 300 * opts.length := by
  have h1 := choices_all opts _ all h
  have h2 := choices_nodes opts _ all h
  refine ⟨?_, by simpa using h2⟩
  rw [h1]
  simp
section
variable {c : CaseP}
theorem zip_snd (hl : c.opts.length = c.cls.length) : (c.cls.zip c.opts).map (·.2) = c.opts := List.map_snd_zip (by omega)
/-- what a search tells with much fuel -/
theorem much {all : List (List Nat)} (hc : c.size ≤ 120) (hl : c.opts.length = c.cls.length) (h : choicesP c.opts [[]] = some all) (hcl : cleanB c.own c.fixed c.of = true) :
    Best c.own 1048576 (clean1 c.own (c.cls.zip c.opts) c.fixed c.of) all (nodes c.opts) 0 (fromB c.own 1048576 (c.cls.zip c.opts) c.fixed c.of 0) ∧ (fromB c.own 1048576 (c.cls.zip c.opts) c.fixed c.of 0).1 ≠ .fuel ∧ nodes c.opts ≤ 36000 := by
  obtain ⟨h1, h2⟩ := allC_choices h
  have hb := best_from (own := c.own) (fuel := 1048576) (c.cls.zip c.opts) c.fixed c.of 0 hcl
  rw [zip_snd hl, ← h1] at hb
  have ho := (CaseP.bounds hc).2.2.2.2.2.1
  have hn : nodes c.opts ≤ 36000 := by omega
  refine ⟨hb, fun hf => ?_, hn⟩
  have h3 := hb.fuel_ hf
  have h4 := hb.ge
  omega
theorem code_ne {r : Res} (h : r ≠ .fuel) : r.code ≠ 11 := by
  cases r with
  | ok l => exact fun h => by cases h
  | fuel => exact absurd rfl h
  | conflict => exact fun h => by cases h
theorem fuel_law {all : List (List Nat)} (hc : c.size ≤ 120) (h : choicesP c.opts [[]] = some all) :
    (leastB c 1048576).2.2 ≠ 11 ∧ (0 ≤ (leastB c 1048576).2.1 ∧ (leastB c 1048576).2.1 ≤ 36000) ∧ (∀ g, (leastB c 1048576).2.1 ≤ max g 0 → leastB c g = leastB c 1048576) ∧ ∀ g, max g 0 < (leastB c 1048576).2.1 → leastB c g = ([], max g 0, 11) := by
  by_cases h1 : c.opts.length ≠ c.cls.length
  · have e : ∀ g, leastB c g = ([], 0, 2) := fun g => by unfold leastB; rw [if_pos h1]
    simp only [e]
    exact ⟨by decide, ⟨by decide, by decide⟩, fun _ _ => trivial, fun g hg => absurd hg (by show ¬ max g 0 < 0; omega)⟩
  · by_cases h2 : c.opts.any (·.isEmpty) = true
    · have e : ∀ g, leastB c g = ([], 0, 5) := fun g => by unfold leastB; rw [if_neg h1, if_pos h2]
      simp only [e]
      exact ⟨by decide, ⟨by decide, by decide⟩, fun _ _ => trivial, fun g hg => absurd hg (by show ¬ max g 0 < 0; omega)⟩
    · by_cases h3 : cleanB c.own c.fixed c.of = true
      · have e : ∀ g, leastB c g = ((fromB c.own (max g 0) (c.cls.zip c.opts) c.fixed c.of 0).1.row, (fromB c.own (max g 0) (c.cls.zip c.opts) c.fixed c.of 0).2, (fromB c.own (max g 0) (c.cls.zip c.opts) c.fixed c.of 0).1.code) := fun g => by unfold leastB; rw [if_neg h1, if_neg h2, if_pos h3]
        obtain ⟨hb, hne, hn⟩ := much hc (by omega) h h3
        have hF := fuels_from (own := c.own) (F := 1048576) (c.cls.zip c.opts) c.fixed c.of 0 hne
        have e0 := e 1048576
        rw [show max (1048576 : Int) 0 = 1048576 by omega] at e0
        rw [e0]
        dsimp only
        have h4 := hb.le
        have h5 := hb.ge
        refine ⟨code_ne hne, ⟨h4, by omega⟩, fun g hg => ?_, fun g hg => ?_⟩
        · rw [e g, hF.more (max g 0) hg]
        · rw [e g, hF.less (max g 0) (by omega) hg]
          rfl
      · have e : ∀ g, leastB c g = ([], 0, 13) := fun g => by unfold leastB; rw [if_neg h1, if_neg h2, if_neg h3]
        simp only [e]
        exact ⟨by decide, ⟨by decide, by decide⟩, fun _ _ => trivial, fun g hg => absurd hg (by show ¬ max g 0 < 0; omega)⟩
theorem best_law {all : List (List Nat)} (hc : c.size ≤ 120) (hl : c.opts.length = c.cls.length) (h : choicesP c.opts [[]] = some all) :
    (all = [] → leastB c 1048576 = ([], 0, 5)) ∧ (all ≠ [] → (∀ l, all.find? (clean1 c.own (c.cls.zip c.opts) c.fixed c.of) = some l → (leastB c 1048576).1 = l ∧ (leastB c 1048576).2.2 = 0) ∧ (all.find? (clean1 c.own (c.cls.zip c.opts) c.fixed c.of) = none → (leastB c 1048576).1 = [] ∧ (leastB c 1048576).2.2 = 13)) := by
  obtain ⟨h1, _⟩ := allC_choices h
  have hl' : ¬ c.opts.length ≠ c.cls.length := fun h => h hl
  constructor
  · intro h0
    have he : c.opts.any (·.isEmpty) = true := by
      cases e : c.opts.any (·.isEmpty) with
      | true => rfl
      | false => exact absurd (h1.symm.trans h0) (allC_ne _ e)
    unfold leastB
    rw [if_neg hl', if_pos he]
  · intro h0
    have he : ¬ c.opts.any (·.isEmpty) = true := fun e => h0 (h1.trans (allC_empty _ e))
    by_cases h3 : cleanB c.own c.fixed c.of = true
    · have e : leastB c 1048576 = ((fromB c.own 1048576 (c.cls.zip c.opts) c.fixed c.of 0).1.row, (fromB c.own 1048576 (c.cls.zip c.opts) c.fixed c.of 0).2, (fromB c.own 1048576 (c.cls.zip c.opts) c.fixed c.of 0).1.code) := by
        unfold leastB
        rw [if_neg hl', if_neg he, if_pos h3, show max (1048576 : Int) 0 = 1048576 by omega]
      obtain ⟨hb, hne, _⟩ := much hc hl h h3
      rw [e]
      dsimp only
      cases hr : (fromB c.own 1048576 (c.cls.zip c.opts) c.fixed c.of 0).1 with
      | ok l =>
        have := hb.ok l hr
        rw [this]
        exact ⟨fun l' h => (by injection h with h; subst h; exact ⟨rfl, rfl⟩), fun h => (by cases h)⟩
      | fuel => exact absurd hr hne
      | conflict =>
        have := hb.no hr
        rw [this]
        exact ⟨fun l' h => (by cases h), fun _ => ⟨rfl, rfl⟩⟩
    · have e : leastB c 1048576 = ([], 0, 13) := by
        unfold leastB
        rw [if_neg hl', if_neg he, if_neg h3]
      rw [e]
      have hf : all.find? (clean1 c.own (c.cls.zip c.opts) c.fixed c.of) = none := find_none fun l _ => clean1_not (by simpa using h3) l
      rw [hf]
      exact ⟨fun l' h => (by cases h), fun _ => ⟨rfl, rfl⟩⟩
theorem free_clean {l : List Nat} (hl : c.opts.length = c.cls.length) (hn : l.length = c.opts.length) (hin : ∀ (i : Nat) os k, c.opts[i]? = some os → l[i]? = some k → k < os.length) : freeB c (l.map fun k => ((k : Nat) : Int)) = clean1 c.own (c.cls.zip c.opts) c.fixed c.of l := by
  have hr : inRange c.opts (l.map fun k => ((k : Nat) : Int)) = true := inRange_iff.2 fun i os k h1 h2 => by
    rw [List.getElem?_map] at h2
    cases e : l[i]? with
    | none => rw [e] at h2; cases h2
    | some j =>
      rw [e] at h2
      injection h2 with h2
      subst h2
      have := hin i os j h1 e
      show (0 : Int) ≤ ((j : Nat) : Int) ∧ ((j : Nat) : Int) < (os.length : Int)
      omega
  have e : (l.map fun k => ((k : Nat) : Int)).map Int.toNat = l := by
    rw [List.map_map]
    conv => rhs; rw [← List.map_id l]
    congr 1
  unfold freeB clean1
  rw [hr, e, decide_eq_true hl, List.length_map, decide_eq_true hn]
  rfl
end
end Go.Proofs.Ytfppddnfdinipaa
end
section
namespace Go.Proofs.Ytfppddnfdinipaa
open Go Go.RowKit Go.Maps
set_option maxRecDepth 100000
set_option maxHeartbeats 4000000 in
theorem rfree_any (w : World) (v : Cvs) (c : CaseP) (hc : c.size ≤ 120) (hC : CaseAt w.heap.size w v c) (ks : List Int) (hkl : ks.length ≤ 1000000) (vk : Value) (hK : IntsAt w w.heap.size vk ks) :
    Calls Try.prog 21 #[.agg (caseC v).toArray, vk] w fun e w' => e = .returned (.bool (freeB c ks)) ∧ Below w.heap.size w w' := by
  obtain ⟨b1, b2, b3, b4, b5, b6, b7⟩ := CaseP.bounds hc
  obtain ⟨w1, hw1⟩ : ∃ w1, w1 = w.alloc (.cells (caseC v).toArray 40) := ⟨_, rfl⟩
  have hb1 : Below w.heap.size w w1 := by rw [hw1]; exact (Below.refl _ w).alloc (Nat.le_refl _) _
  have hk1 : Blk w1 w.heap.size 40 (caseC v).toArray := by rw [hw1]; exact Blk.new _ _ _
  have hz1 : w1.heap.size = w.heap.size + 1 := by rw [hw1, size_alloc]
  have hC1 : CaseAt w.heap.size w1 v c := hC.alike fun k hk => hb1.block k hk
  have hK1 : IntsAt w1 w.heap.size vk ks := hK.alike fun k hk => hb1.block k hk
  have ho : okH v.own := by rw [hC.own]; exact hC.okO
  have hsz0 := cszR ho
  obtain ⟨Ao, capo, hvo, _, _, _, hAo⟩ := slice_open hC1.atO
  obtain ⟨Ac, capc, hvc, _, _, _, _⟩ := slice_open hC1.atC
  have HKK := hide hK1
  obtain ⟨Ak, capk, rfl, hKs⟩ := hK1
  have hcells := case_cellsT ho hk1
  rw [hvo, hvc] at hcells
  have H1 := hide (And.intro hb1 (And.intro hk1 (And.intro hC1 (And.intro hcells (And.intro hKs hAo)))))
  have HW := hide hw1
  clear hb1 hk1 hC1 hC hvo hvc hcells hw1 hK hKs hAo
  have o9 : (c.opts.length : Int) ≤ 120 := by omega
  have c9 : (c.cls.length : Int) ≤ 120 := by omega
  have k9 : (ks.length : Int) ≤ 1000000 := by omega
  have c22 : w1.cell? ⟨w.heap.size, 22, none⟩ = some (.slice Ao c.opts.length capo) := H1.out.2.2.2.1.2.2.1
  by_cases hne : c.opts.length = c.cls.length
  · have c21 : w1.cell? ⟨w.heap.size, 21, none⟩ = some (.slice Ac c.opts.length capc) := by rw [hne]; exact H1.out.2.2.2.1.2.1
    have HNE := hide hne
    clear hne
    by_cases hkn : ks.length = c.opts.length
    · have HKS : Hid (IntsAt w1 w.heap.size (.slice Ak c.opts.length capk) ks) := by have h := HKK.out; rw [hkn] at h; exact hide h
      rw [hkn]
      have HKN := hide hkn
      clear hkn
      go_enter Try.func21, Try.ntmps21
      go_wp2_with (first | (refine wpList_value (o := ⟨some 7, _, _, _, _, _⟩) rfl (.slice Ao c.opts.length capo) w1 (by rw [← HW.out]; exact exec_load_cell (o := ⟨some 7, _, _, _, _, _⟩) 38 (.tmp 6) rfl ⟨w.heap.size, 22, none⟩ rfl _ _ w1 Try.underlying38 rfl H1.out.2.2.2.1.2.2.1) ?_))
      go_loopw [5] (fun x wr => ∃ k : Nat, k ≤ c.opts.length ∧ x = .int .i64 ((k : Nat) : Int) ∧ Below w1.heap.size w1 wr ∧ InR c.opts ks k) (fun x _ => c.opts.length - (intOf x).toNat)
      case atStart => exact ⟨0, by omega, rfl, Below.refl _ _, fun i _ _ hi => absurd hi (by omega)⟩
      case round =>
        obtain ⟨wo, rfl⟩ : ∃ wo, wo = wr := ⟨_, rfl⟩
        obtain ⟨k, hk, rfl, hbw, hin⟩ := hrel
        have HBO := hide hbw
        have HIN := hide hin
        clear hbw hin c21 c22
        have k0 : (0 : Int) ≤ (k : Int) := by omega
        by_cases hk2 : k < c.opts.length
        · have k1 : (k : Int) < (c.opts.length : Int) := by omega
          obtain ⟨z, hz⟩ : ∃ z, ks[k]? = some z := ⟨_, List.getElem?_eq_getElem (by have := HKN.out; omega)⟩
          obtain ⟨os, hos⟩ : ∃ os, c.opts[k]? = some os := ⟨_, List.getElem?_eq_getElem hk2⟩
          obtain ⟨bk, offk, rfl, hbk, hzc⟩ := H1.out.2.2.2.2.1 k z hz
          obtain ⟨bo, offo, rfl, hlo, hEo⟩ := H1.out.2.2.2.2.2 (by omega)
          obtain ⟨cs1, hr1, hat1⟩ := hEo k os hos
          obtain ⟨vr, rfl, hat1⟩ := rowLay_at hat1
          obtain ⟨Ar, capr, rfl, _, _, _, hAr⟩ := slice_open hat1
          have hsame : ∀ b, b < w.heap.size + 1 → wo.heap[b]? = w1.heap[b]? := fun b hb9 => HBO.out.block b (by omega)
          have e1 : wo.cell? ⟨bk, offk + k, none⟩ = some (.int .i64 z) := (World.cell?_of_block (hsame bk (by omega))).trans hzc
          have e2 : wo.cell? ⟨w.heap.size, 22, none⟩ = some (.slice (some ⟨bo, offo, none⟩) c.opts.length capo) := (World.cell?_of_block (hsame w.heap.size (by omega))).trans H1.out.2.2.2.1.2.2.1
          have e3 : wo.cell? ⟨bo, offo + k, none⟩ = some (.slice Ar os.length capr) := by
            have h9 : w1.cell? ⟨bo, offo + k * 1 + 0, none⟩ = some (.slice Ar os.length capr) := hr1 0 _ rfl
            rw [Nat.mul_one, Nat.add_zero] at h9
            exact (World.cell?_of_block (hsame bo (by omega))).trans h9
          have HJ := hide (And.intro e1 (And.intro e2 e3))
          have os9 : (os.length : Int) ≤ 120 := by have := (b7 os (List.mem_of_getElem? hos)).1; omega
          have H5 := hide (And.intro hz hos)
          clear hz hos hsame hzc hEo hr1 hat1 hAr e1 e2 e3
          by_cases hz0 : z < 0
          · have hzn : z < 0 := hz0
            go_wp2_with fail
            refine Fre.wp_made (X := Blw) 17 [] (by kernel_rfl) (by kernel_rfl) (by simp) (by simp) (by simp) ?_
            simp only [List.take_succ_cons, List.take_zero, List.drop_succ_cons, List.drop_zero]
            refine Fre.made_val (.slice (some ⟨bk, offk, none⟩) c.opts.length capk) (by kernel_rfl) (by kernel_rfl) (by kernel_rfl) (fun _ _ => by kernel_rfl) ?_
            simp only [Act.put, List.setIfInBounds_toArray, List.set_cons_zero, List.set_cons_succ]
            refine Fre.made_val (.int .i64 (k : Int)) (by kernel_rfl) (by kernel_rfl) (by kernel_rfl) (fun _ _ => by kernel_rfl) ?_
            simp only [Act.put, List.setIfInBounds_toArray, List.set_cons_zero, List.set_cons_succ]
            refine Fre.made_val (.pointer (some ⟨bk, offk + (k : Int).toNat * 1, none⟩)) (by kernel_rfl) (by kernel_rfl) (by kernel_rfl) (fun W9 _ => exec_index_off (o := ⟨some 29, _, _, _, _, _⟩) 33 3 (.tmp 27) (.tmp 28) rfl bk offk c.opts.length capk (k : Int) .i64 rfl rfl ⟨k0, k1⟩ 1 Try.underlying33 (by kernel_rfl) W9) ?_
            simp only [Act.put, List.setIfInBounds_toArray, List.set_cons_zero, List.set_cons_succ]
            rw [show offk + (k : Int).toNat * 1 = offk + k by omega]
            refine Fre.made_val (.int .i64 z) (by kernel_rfl) (by kernel_rfl) (by kernel_rfl) (fun W9 hW9 => exec_load_cell (o := ⟨some 30, _, _, _, _, _⟩) 3 (.tmp 29) rfl ⟨bk, offk + k, none⟩ rfl _ _ W9 Try.underlying3 rfl (by rw [World.cell?_of_block ((blw hW9).block bk (World.block_lt_of_cell? wo _ HJ.out.1))]; exact HJ.out.1)) ?_
            simp only [Act.put, List.setIfInBounds_toArray, List.set_cons_zero, List.set_cons_succ]
            refine Fre.made_val (.bool true) (by kernel_rfl) (by kernel_rfl) (by kernel_rfl) (fun W9 hW9 => ?hz31) ?_
            case hz31 =>
              go_simp
            simp only [Act.put, List.setIfInBounds_toArray, List.set_cons_zero, List.set_cons_succ]
            refine Fre.made_val (.bool true) (by kernel_rfl) (by kernel_rfl) (by kernel_rfl) (fun _ _ => by kernel_rfl) ?_
            simp only [Act.put, List.setIfInBounds_toArray, List.set_cons_zero, List.set_cons_succ]
            refine Fre.made_skip (by kernel_rfl) (by kernel_rfl) (by kernel_rfl) ?_
            refine Fre.made_skip (by kernel_rfl) (by kernel_rfl) (by kernel_rfl) ?_
            refine Fre.made_skip (by kernel_rfl) (by kernel_rfl) (by kernel_rfl) ?_
            refine Fre.made_skip (by kernel_rfl) (by kernel_rfl) (by kernel_rfl) ?_
            refine Fre.made_skip (by kernel_rfl) (by kernel_rfl) (by kernel_rfl) ?_
            refine Fre.made_skip (by kernel_rfl) (by kernel_rfl) (by kernel_rfl) ?_
            refine Fre.made_skip (by kernel_rfl) (by kernel_rfl) (by kernel_rfl) ?_
            refine Fre.made_skip (by kernel_rfl) (by kernel_rfl) (by kernel_rfl) ?_
            refine Fre.made_skip (by kernel_rfl) (by kernel_rfl) (by kernel_rfl) ?_
            refine Fre.made_skip (by kernel_rfl) (by kernel_rfl) (by kernel_rfl) ?_
            refine Fre.made_skip (by kernel_rfl) (by kernel_rfl) (by kernel_rfl) ?_
            show ∀ w', _ → _
            intro w4 hb
            simp only [Fre.ended]
            have H6 := hide (HBO.out.trans (Below.mono (show Below wo.heap.size wo w4 from hb) HBO.out.size))
            clear hb
            go_wp2_with fail
            go_ret
            have e : freeB c ks = false := by
              have hir : inRange c.opts ks = false := by
                cases h9 : inRange c.opts ks with
                | false => rfl
                | true =>
                  have := inRange_iff.1 h9 k os z H5.out.2 H5.out.1
                  omega
              unfold freeB
              rw [hir]
              simp
            rw [e]
            exact ⟨rfl, H1.out.1.trans (Below.mono H6.out (by omega))⟩
          · have hz1' : 0 ≤ z := by omega
            by_cases hzl : z < (os.length : Int)
            · go_wp2_with fail
              refine Fre.wp_made (X := Blw) 17 [] (by kernel_rfl) (by kernel_rfl) (by simp) (by simp) (by simp) ?_
              simp only [List.take_succ_cons, List.take_zero, List.drop_succ_cons, List.drop_zero]
              refine Fre.made_val (.slice (some ⟨bk, offk, none⟩) c.opts.length capk) (by kernel_rfl) (by kernel_rfl) (by kernel_rfl) (fun _ _ => by kernel_rfl) ?_
              simp only [Act.put, List.setIfInBounds_toArray, List.set_cons_zero, List.set_cons_succ]
              refine Fre.made_val (.int .i64 (k : Int)) (by kernel_rfl) (by kernel_rfl) (by kernel_rfl) (fun _ _ => by kernel_rfl) ?_
              simp only [Act.put, List.setIfInBounds_toArray, List.set_cons_zero, List.set_cons_succ]
              refine Fre.made_val (.pointer (some ⟨bk, offk + (k : Int).toNat * 1, none⟩)) (by kernel_rfl) (by kernel_rfl) (by kernel_rfl) (fun W9 _ => exec_index_off (o := ⟨some 29, _, _, _, _, _⟩) 33 3 (.tmp 27) (.tmp 28) rfl bk offk c.opts.length capk (k : Int) .i64 rfl rfl ⟨k0, k1⟩ 1 Try.underlying33 (by kernel_rfl) W9) ?_
              simp only [Act.put, List.setIfInBounds_toArray, List.set_cons_zero, List.set_cons_succ]
              rw [show offk + (k : Int).toNat * 1 = offk + k by omega]
              refine Fre.made_val (.int .i64 z) (by kernel_rfl) (by kernel_rfl) (by kernel_rfl) (fun W9 hW9 => exec_load_cell (o := ⟨some 30, _, _, _, _, _⟩) 3 (.tmp 29) rfl ⟨bk, offk + k, none⟩ rfl _ _ W9 Try.underlying3 rfl (by rw [World.cell?_of_block ((blw hW9).block bk (World.block_lt_of_cell? wo _ HJ.out.1))]; exact HJ.out.1)) ?_
              simp only [Act.put, List.setIfInBounds_toArray, List.set_cons_zero, List.set_cons_succ]
              refine Fre.made_val (.bool false) (by kernel_rfl) (by kernel_rfl) (by kernel_rfl) (fun W9 hW9 => ?hz31) ?_
              case hz31 =>
                go_simp
              simp only [Act.put, List.setIfInBounds_toArray, List.set_cons_zero, List.set_cons_succ]
              refine Fre.made_val (.bool false) (by kernel_rfl) (by kernel_rfl) (by kernel_rfl) (fun _ _ => by kernel_rfl) ?_
              simp only [Act.put, List.setIfInBounds_toArray, List.set_cons_zero, List.set_cons_succ]
              refine Fre.made_val (.slice (some ⟨bk, offk, none⟩) c.opts.length capk) (by kernel_rfl) (by kernel_rfl) (by kernel_rfl) (fun _ _ => by kernel_rfl) ?_
              simp only [Act.put, List.setIfInBounds_toArray, List.set_cons_zero, List.set_cons_succ]
              refine Fre.made_val (.int .i64 (k : Int)) (by kernel_rfl) (by kernel_rfl) (by kernel_rfl) (fun _ _ => by kernel_rfl) ?_
              simp only [Act.put, List.setIfInBounds_toArray, List.set_cons_zero, List.set_cons_succ]
              refine Fre.made_val (.pointer (some ⟨bk, offk + (k : Int).toNat * 1, none⟩)) (by kernel_rfl) (by kernel_rfl) (by kernel_rfl) (fun W9 _ => exec_index_off (o := ⟨some 35, _, _, _, _, _⟩) 33 3 (.tmp 33) (.tmp 34) rfl bk offk c.opts.length capk (k : Int) .i64 rfl rfl ⟨k0, k1⟩ 1 Try.underlying33 (by kernel_rfl) W9) ?_
              simp only [Act.put, List.setIfInBounds_toArray, List.set_cons_zero, List.set_cons_succ]
              rw [show offk + (k : Int).toNat * 1 = offk + k by omega]
              refine Fre.made_val (.int .i64 z) (by kernel_rfl) (by kernel_rfl) (by kernel_rfl) (fun W9 hW9 => exec_load_cell (o := ⟨some 36, _, _, _, _, _⟩) 3 (.tmp 35) rfl ⟨bk, offk + k, none⟩ rfl _ _ W9 Try.underlying3 rfl (by rw [World.cell?_of_block ((blw hW9).block bk (World.block_lt_of_cell? wo _ HJ.out.1))]; exact HJ.out.1)) ?_
              simp only [Act.put, List.setIfInBounds_toArray, List.set_cons_zero, List.set_cons_succ]
              refine Fre.made_val (.pointer (some ⟨w.heap.size, 22, none⟩)) (by kernel_rfl) (by kernel_rfl) (by kernel_rfl) (fun _ _ => by kernel_rfl) ?_
              simp only [Act.put, List.setIfInBounds_toArray, List.set_cons_zero, List.set_cons_succ]
              refine Fre.made_val (.slice (some ⟨bo, offo, none⟩) c.opts.length capo) (by kernel_rfl) (by kernel_rfl) (by kernel_rfl) (fun W9 hW9 => exec_load_cell (o := ⟨some 38, _, _, _, _, _⟩) 38 (.tmp 37) rfl ⟨w.heap.size, 22, none⟩ rfl _ _ W9 Try.underlying38 rfl (by rw [World.cell?_of_block ((blw hW9).block w.heap.size (World.block_lt_of_cell? wo _ HJ.out.2.1))]; exact HJ.out.2.1)) ?_
              simp only [Act.put, List.setIfInBounds_toArray, List.set_cons_zero, List.set_cons_succ]
              refine Fre.made_val (.int .i64 (k : Int)) (by kernel_rfl) (by kernel_rfl) (by kernel_rfl) (fun _ _ => by kernel_rfl) ?_
              simp only [Act.put, List.setIfInBounds_toArray, List.set_cons_zero, List.set_cons_succ]
              refine Fre.made_val (.pointer (some ⟨bo, offo + (k : Int).toNat * 1, none⟩)) (by kernel_rfl) (by kernel_rfl) (by kernel_rfl) (fun W9 _ => exec_index_off (o := ⟨some 40, _, _, _, _, _⟩) 38 107 (.tmp 38) (.tmp 39) rfl bo offo c.opts.length capo (k : Int) .i64 rfl rfl ⟨k0, k1⟩ 1 Try.underlying38 sz_rowR W9) ?_
              simp only [Act.put, List.setIfInBounds_toArray, List.set_cons_zero, List.set_cons_succ]
              rw [show offo + (k : Int).toNat * 1 = offo + k by omega]
              refine Fre.made_val (.slice Ar os.length capr) (by kernel_rfl) (by kernel_rfl) (by kernel_rfl) (fun W9 hW9 => exec_load_cell (o := ⟨some 41, _, _, _, _, _⟩) 107 (.tmp 40) rfl ⟨bo, offo + k, none⟩ rfl _ _ W9 Try.underlying107 rfl (by rw [World.cell?_of_block ((blw hW9).block bo (World.block_lt_of_cell? wo _ HJ.out.2.2))]; exact HJ.out.2.2)) ?_
              simp only [Act.put, List.setIfInBounds_toArray, List.set_cons_zero, List.set_cons_succ]
              refine Fre.made_val (.int .i64 (os.length : Int)) (by kernel_rfl) (by kernel_rfl) (by kernel_rfl) (fun W9 hW9 => ?hs1) ?_
              case hs1 =>
                go_simp
              simp only [Act.put, List.setIfInBounds_toArray, List.set_cons_zero, List.set_cons_succ]
              refine Fre.made_val (.bool false) (by kernel_rfl) (by kernel_rfl) (by kernel_rfl) (fun W9 hW9 => ?hz43) ?_
              case hz43 =>
                go_simp
              simp only [Act.put, List.setIfInBounds_toArray, List.set_cons_zero, List.set_cons_succ]
              show ∀ w', _ → _
              intro w4 hb
              simp only [Fre.ended]
              have H6 := hide (HBO.out.trans (Below.mono (show Below wo.heap.size wo w4 from hb) HBO.out.size))
              clear hb
              go_wp2_with fail
              go_roundw
              case rel =>
                refine ⟨k + 1, by omega, by go_num, H6.out, fun i os' z' hi h1 h2 => ?_⟩
                by_cases hik : i < k
                · exact HIN.out i os' z' hik h1 h2
                · obtain rfl : i = k := by omega
                  rw [H5.out.2] at h1
                  rw [H5.out.1] at h2
                  injection h1 with h1
                  injection h2 with h2
                  subst h1 h2
                  exact ⟨by omega, by omega⟩
              case measure => simp [intOf]; omega
            · go_wp2_with fail
              refine Fre.wp_made (X := Blw) 17 [] (by kernel_rfl) (by kernel_rfl) (by simp) (by simp) (by simp) ?_
              simp only [List.take_succ_cons, List.take_zero, List.drop_succ_cons, List.drop_zero]
              refine Fre.made_val (.slice (some ⟨bk, offk, none⟩) c.opts.length capk) (by kernel_rfl) (by kernel_rfl) (by kernel_rfl) (fun _ _ => by kernel_rfl) ?_
              simp only [Act.put, List.setIfInBounds_toArray, List.set_cons_zero, List.set_cons_succ]
              refine Fre.made_val (.int .i64 (k : Int)) (by kernel_rfl) (by kernel_rfl) (by kernel_rfl) (fun _ _ => by kernel_rfl) ?_
              simp only [Act.put, List.setIfInBounds_toArray, List.set_cons_zero, List.set_cons_succ]
              refine Fre.made_val (.pointer (some ⟨bk, offk + (k : Int).toNat * 1, none⟩)) (by kernel_rfl) (by kernel_rfl) (by kernel_rfl) (fun W9 _ => exec_index_off (o := ⟨some 29, _, _, _, _, _⟩) 33 3 (.tmp 27) (.tmp 28) rfl bk offk c.opts.length capk (k : Int) .i64 rfl rfl ⟨k0, k1⟩ 1 Try.underlying33 (by kernel_rfl) W9) ?_
              simp only [Act.put, List.setIfInBounds_toArray, List.set_cons_zero, List.set_cons_succ]
              rw [show offk + (k : Int).toNat * 1 = offk + k by omega]
              refine Fre.made_val (.int .i64 z) (by kernel_rfl) (by kernel_rfl) (by kernel_rfl) (fun W9 hW9 => exec_load_cell (o := ⟨some 30, _, _, _, _, _⟩) 3 (.tmp 29) rfl ⟨bk, offk + k, none⟩ rfl _ _ W9 Try.underlying3 rfl (by rw [World.cell?_of_block ((blw hW9).block bk (World.block_lt_of_cell? wo _ HJ.out.1))]; exact HJ.out.1)) ?_
              simp only [Act.put, List.setIfInBounds_toArray, List.set_cons_zero, List.set_cons_succ]
              refine Fre.made_val (.bool false) (by kernel_rfl) (by kernel_rfl) (by kernel_rfl) (fun W9 hW9 => ?hz31) ?_
              case hz31 =>
                go_simp
              simp only [Act.put, List.setIfInBounds_toArray, List.set_cons_zero, List.set_cons_succ]
              refine Fre.made_val (.bool false) (by kernel_rfl) (by kernel_rfl) (by kernel_rfl) (fun _ _ => by kernel_rfl) ?_
              simp only [Act.put, List.setIfInBounds_toArray, List.set_cons_zero, List.set_cons_succ]
              refine Fre.made_val (.slice (some ⟨bk, offk, none⟩) c.opts.length capk) (by kernel_rfl) (by kernel_rfl) (by kernel_rfl) (fun _ _ => by kernel_rfl) ?_
              simp only [Act.put, List.setIfInBounds_toArray, List.set_cons_zero, List.set_cons_succ]
              refine Fre.made_val (.int .i64 (k : Int)) (by kernel_rfl) (by kernel_rfl) (by kernel_rfl) (fun _ _ => by kernel_rfl) ?_
              simp only [Act.put, List.setIfInBounds_toArray, List.set_cons_zero, List.set_cons_succ]
              refine Fre.made_val (.pointer (some ⟨bk, offk + (k : Int).toNat * 1, none⟩)) (by kernel_rfl) (by kernel_rfl) (by kernel_rfl) (fun W9 _ => exec_index_off (o := ⟨some 35, _, _, _, _, _⟩) 33 3 (.tmp 33) (.tmp 34) rfl bk offk c.opts.length capk (k : Int) .i64 rfl rfl ⟨k0, k1⟩ 1 Try.underlying33 (by kernel_rfl) W9) ?_
              simp only [Act.put, List.setIfInBounds_toArray, List.set_cons_zero, List.set_cons_succ]
              rw [show offk + (k : Int).toNat * 1 = offk + k by omega]
              refine Fre.made_val (.int .i64 z) (by kernel_rfl) (by kernel_rfl) (by kernel_rfl) (fun W9 hW9 => exec_load_cell (o := ⟨some 36, _, _, _, _, _⟩) 3 (.tmp 35) rfl ⟨bk, offk + k, none⟩ rfl _ _ W9 Try.underlying3 rfl (by rw [World.cell?_of_block ((blw hW9).block bk (World.block_lt_of_cell? wo _ HJ.out.1))]; exact HJ.out.1)) ?_
              simp only [Act.put, List.setIfInBounds_toArray, List.set_cons_zero, List.set_cons_succ]
              refine Fre.made_val (.pointer (some ⟨w.heap.size, 22, none⟩)) (by kernel_rfl) (by kernel_rfl) (by kernel_rfl) (fun _ _ => by kernel_rfl) ?_
              simp only [Act.put, List.setIfInBounds_toArray, List.set_cons_zero, List.set_cons_succ]
              refine Fre.made_val (.slice (some ⟨bo, offo, none⟩) c.opts.length capo) (by kernel_rfl) (by kernel_rfl) (by kernel_rfl) (fun W9 hW9 => exec_load_cell (o := ⟨some 38, _, _, _, _, _⟩) 38 (.tmp 37) rfl ⟨w.heap.size, 22, none⟩ rfl _ _ W9 Try.underlying38 rfl (by rw [World.cell?_of_block ((blw hW9).block w.heap.size (World.block_lt_of_cell? wo _ HJ.out.2.1))]; exact HJ.out.2.1)) ?_
              simp only [Act.put, List.setIfInBounds_toArray, List.set_cons_zero, List.set_cons_succ]
              refine Fre.made_val (.int .i64 (k : Int)) (by kernel_rfl) (by kernel_rfl) (by kernel_rfl) (fun _ _ => by kernel_rfl) ?_
              simp only [Act.put, List.setIfInBounds_toArray, List.set_cons_zero, List.set_cons_succ]
              refine Fre.made_val (.pointer (some ⟨bo, offo + (k : Int).toNat * 1, none⟩)) (by kernel_rfl) (by kernel_rfl) (by kernel_rfl) (fun W9 _ => exec_index_off (o := ⟨some 40, _, _, _, _, _⟩) 38 107 (.tmp 38) (.tmp 39) rfl bo offo c.opts.length capo (k : Int) .i64 rfl rfl ⟨k0, k1⟩ 1 Try.underlying38 sz_rowR W9) ?_
              simp only [Act.put, List.setIfInBounds_toArray, List.set_cons_zero, List.set_cons_succ]
              rw [show offo + (k : Int).toNat * 1 = offo + k by omega]
              refine Fre.made_val (.slice Ar os.length capr) (by kernel_rfl) (by kernel_rfl) (by kernel_rfl) (fun W9 hW9 => exec_load_cell (o := ⟨some 41, _, _, _, _, _⟩) 107 (.tmp 40) rfl ⟨bo, offo + k, none⟩ rfl _ _ W9 Try.underlying107 rfl (by rw [World.cell?_of_block ((blw hW9).block bo (World.block_lt_of_cell? wo _ HJ.out.2.2))]; exact HJ.out.2.2)) ?_
              simp only [Act.put, List.setIfInBounds_toArray, List.set_cons_zero, List.set_cons_succ]
              refine Fre.made_val (.int .i64 (os.length : Int)) (by kernel_rfl) (by kernel_rfl) (by kernel_rfl) (fun W9 hW9 => ?hs2) ?_
              case hs2 =>
                go_simp
              simp only [Act.put, List.setIfInBounds_toArray, List.set_cons_zero, List.set_cons_succ]
              refine Fre.made_val (.bool true) (by kernel_rfl) (by kernel_rfl) (by kernel_rfl) (fun W9 hW9 => ?hz43) ?_
              case hz43 =>
                go_simp
              simp only [Act.put, List.setIfInBounds_toArray, List.set_cons_zero, List.set_cons_succ]
              show ∀ w', _ → _
              intro w4 hb
              simp only [Fre.ended]
              have H6 := hide (HBO.out.trans (Below.mono (show Below wo.heap.size wo w4 from hb) HBO.out.size))
              clear hb
              go_wp2_with fail
              go_ret
              have e : freeB c ks = false := by
                have hir : inRange c.opts ks = false := by
                  cases h9 : inRange c.opts ks with
                  | false => rfl
                  | true =>
                    have := inRange_iff.1 h9 k os z H5.out.2 H5.out.1
                    omega
                unfold freeB
                rw [hir]
                simp
              rw [e]
              exact ⟨rfl, H1.out.1.trans (Below.mono H6.out (by omega))⟩
        · obtain rfl : k = c.opts.length := by omega
          have hks : (ks.map Int.toNat).map (fun k => ((k : Nat) : Int)) = ks := by
            rw [List.map_map]
            conv => rhs; rw [← List.map_id ks]
            refine List.map_congr_left fun z hz => ?_
            obtain ⟨i, hi⟩ := List.getElem?_of_mem hz
            have hil := (List.getElem?_eq_some_iff.1 hi).1
            obtain ⟨os, hos⟩ : ∃ os, c.opts[i]? = some os := ⟨_, List.getElem?_eq_getElem (by have := HKN.out; omega)⟩
            have := (HIN.out i os z (by have := HKN.out; omega) hos hi).1
            show ((z.toNat : Nat) : Int) = z
            omega
          have hinl : ∀ (i : Nat) os k, c.opts[i]? = some os → (ks.map Int.toNat)[i]? = some k → k < os.length := fun i os k h1 h2 => by
            rw [List.getElem?_map] at h2
            cases e : ks[i]? with
            | none => rw [e] at h2; cases h2
            | some z =>
              rw [e] at h2
              injection h2 with h2
              have := HIN.out i os z (List.getElem?_eq_some_iff.1 h1).1 h1 e
              omega
          have hfr := free_clean HNE.out (l := ks.map Int.toNat) (by rw [List.length_map]; exact HKN.out) hinl
          rw [hks] at hfr
          have hCo : CaseAt wo.heap.size wo v c := (H1.out.2.2.1.alike fun b hb => HBO.out.block b (by omega)).widen (by have := HBO.out.size; omega)
          have hko : IntsAt wo wo.heap.size (.slice Ak c.opts.length capk) ((ks.map Int.toNat).map fun k => ((k : Nat) : Int)) := by
            rw [hks]
            exact (HKS.out.alike fun b hb => HBO.out.block b (by omega)).widen (by have := HBO.out.size; omega)
          have hbo : Blk wo w.heap.size 40 (caseC v).toArray := (HBO.out.block _ (by omega)).trans H1.out.2.1
          have HF := hide (And.intro hfr (And.intro hCo (And.intro hko (And.intro hbo hinl))))
          clear hks hinl hfr hCo hko hbo
          go_wp2_with (refine wpList_value (o := ⟨some 45, _, _, _, _, _⟩) rfl (.agg (caseC v).toArray) wo (exec_load_blk (o := ⟨some 45, _, _, _, _, _⟩) 40 (.tmp 2) rfl w.heap.size rfl 40 _ _ wo HF.out.2.2.2.1 Try.underlying40 rfl hsz0) ?_)
          refine (rclean_any wo v c hc HF.out.2.1 HNE.out (ks.map Int.toNat) (by rw [List.length_map]; exact Nat.le_of_eq HKN.out) HF.out.2.2.2.2 _ HF.out.2.2.1).mono ?_
          rintro e w5 ⟨rfl, hb5⟩
          have HE := hide (H1.out.1.trans (Below.mono (HBO.out.trans (Below.mono hb5 HBO.out.size)) (by omega)))
          clear hb5
          dsimp only
          go_wp2_with fail
          go_ret
          rw [HF.out.1]
          exact ⟨rfl, HE.out⟩
    · have hki : ¬ (ks.length : Int) = (c.opts.length : Int) := by omega
      go_enter Try.func21, Try.ntmps21
      go_wp2_with (first | (refine wpList_value (o := ⟨some 7, _, _, _, _, _⟩) rfl (.slice Ao c.opts.length capo) w1 (by rw [← HW.out]; exact exec_load_cell (o := ⟨some 7, _, _, _, _, _⟩) 38 (.tmp 6) rfl ⟨w.heap.size, 22, none⟩ rfl _ _ w1 Try.underlying38 rfl H1.out.2.2.2.1.2.2.1) ?_))
      go_ret
      have e : freeB c ks = false := by
        unfold freeB
        rw [decide_eq_false hkn]
        simp
      rw [e]
      exact ⟨rfl, H1.out.1⟩
  · have c21 : w1.cell? ⟨w.heap.size, 21, none⟩ = some (.slice Ac c.cls.length capc) := H1.out.2.2.2.1.2.1
    have hni : ¬ (c.opts.length : Int) = (c.cls.length : Int) := by omega
    go_enter Try.func21, Try.ntmps21
    go_wp2_with (first | (refine wpList_value (o := ⟨some 7, _, _, _, _, _⟩) rfl (.slice Ao c.opts.length capo) w1 (by rw [← HW.out]; exact exec_load_cell (o := ⟨some 7, _, _, _, _, _⟩) 38 (.tmp 6) rfl ⟨w.heap.size, 22, none⟩ rfl _ _ w1 Try.underlying38 rfl H1.out.2.2.2.1.2.2.1) ?_))
    go_ret
    have e : freeB c ks = false := by
      unfold freeB
      rw [decide_eq_false hne]
      simp
    rw [e]
    exact ⟨rfl, H1.out.1⟩
end Go.Proofs.Ytfppddnfdinipaa
end
section
namespace Go.Proofs.Ytfppddnfdinipaa
open Go Go.RowKit Go.Maps
set_option maxRecDepth 100000
theorem exec_opt {ρ : Operand → Value} {o : Oper} (p : Pth) (w : World) (hp : okP p) (ho : o.op = .build 55 #[(0, .tmp 8)]) (h1 : ρ (.tmp 8) = .agg (pC p).toArray) : (execOp ρ o).run Try.prog w = .ok (.value (.agg (oC p (.slice none 0 0)).toArray)) w := by
  refine exec_buildN 55 _ ho (z := .agg zcO) (places := #[(0, 21), (21, 1)]) Try.underlying55 (fun w => by kernel_rfl) (fun w => by kernel_rfl) [(0, .agg (pC p).toArray)] (by simp [h1]) ?_ w
  rw [fill_part _ _ 0 _ _ 0 (by simp [Value.cells, pC_len hp]) (by simp [Value.cells, pC_len hp]; decide)]
  unfold Instr.fill
  congr 1
  apply Array.ext'
  simp only [Value.cells, List.size_toArray, pC_len hp]
  simp
  rfl
set_option maxHeartbeats 4000000 in
theorem option_any (n : Nat) (hn : n < 256) (ks : List Nat) (hks : ∀ k ∈ ks, k < 256) (hkl : ks.length ≤ 1000) (v : Value) (w : World) (hv : IntsAt w w.heap.size v (ks.map fun k => ((k : Nat) : Int))) :
    Calls Try.prog 24 #[.int .i64 (n : Int), v] w fun e w' => ∃ u, e = .returned (.agg (oC (pN n) u).toArray) ∧ OwnP w.heap.size w' u (ks.map pN) ∧ Below w.heap.size w w' := by
  obtain ⟨Ak, capk, rfl, hKs⟩ := hv
  rw [List.length_map]
  obtain ⟨w2, hw2⟩ : ∃ w2, w2 = w.alloc (.cells zcO 55) := ⟨_, rfl⟩
  have hb2 : Below w.heap.size w w2 := by rw [hw2]; exact (Below.refl _ w).alloc (Nat.le_refl _) _
  have hk2 : Blk w2 w.heap.size 55 zcO := by rw [hw2]; exact Blk.new _ _ _
  have hz2 : w2.heap.size = w.heap.size + 1 := by rw [hw2, size_alloc]
  have H2 := hide (And.intro hb2 (And.intro hk2 hz2))
  have HW := hide hw2
  have HK := hide hKs
  clear hb2 hk2 hw2 hKs
  go_enter Try.func24, Try.ntmps24
  go_wp2_with (first | (refine wpList_value (o := ⟨some 4, _, _, _, _, _⟩) rfl (.pointer (some ⟨w.heap.size, 0, none⟩)) w2 (by rw [HW.out]; kernel_rfl) ?_))
  refine (path_any n hn w2).mono ?_
  rintro e w3 ⟨rfl, hb3⟩
  have H3 := hide hb3
  clear hb3
  dsimp only
  go_wp2_with (first | (refine wpList_value (o := ⟨some 9, _, _, _, _, _⟩) rfl (.agg (oC (pN n) (.slice none 0 0)).toArray) w3 (exec_opt (pN n) w3 (pN_ok n) rfl rfl) ?_) | ((with_reducible refine wpList_box (o1 := ⟨some 5, _, _, _, _, _⟩) (o2 := ⟨none, _, _, _, _, _⟩) rfl rfl 55 (.tmp 5) (.tmp 9) ?_ zcO (oC (pN n) (.slice none 0 0)).toArray ?_ ?_ ?_ ?_ ?_ ?_ ?_); rfl; kernel_rfl; kernel_rfl; kernel_rfl; kernel_rfl; rfl; rfl; intro w4 hm4 hb4; have H4 := hide (And.intro hm4 hb4); clear hm4 hb4; dsimp only [Act.put]))
  obtain ⟨bx, hbx⟩ : ∃ bx, bx = w3.heap.size := ⟨_, rfl⟩
  rw [← hbx]
  have hb4 : Below w.heap.size w w4 := H2.out.1.trans (Below.mono (H3.out.trans (Below.mono H4.out.2 H3.out.size)) (by omega))
  have hk4 : Blk w4 bx 55 (oC (pN n) (.slice none 0 0)).toArray := by rw [hbx]; exact H4.out.1
  have hr4 : Blk w4 w.heap.size 55 zcO := ((H4.out.2.block _ (by have := H3.out.size; omega)).trans (H3.out.block _ (by omega))).trans H2.out.2.1
  have hne : w.heap.size < bx := by rw [hbx]; have := H3.out.size; omega
  have H5 := hide (And.intro hb4 (And.intro hk4 (And.intro hr4 hne)))
  clear hb4 hk4 hr4 H4 hbx hne hz2
  have k9 : (ks.length : Int) ≤ 1000 := by omega
  go_wp2_with fail
  go_loopw [6] (fun x wr => ∃ k vk, k ≤ ks.length ∧ x = .int .i64 ((k : Nat) : Int) ∧ Blk wr bx 55 (oC (pN n) vk).toArray ∧ OwnP w4.heap.size wr vk ((ks.take k).map pN) ∧ w4.heap.size ≤ wr.heap.size ∧ (∀ b, b < w4.heap.size → b ≠ bx → wr.heap[b]? = w4.heap[b]?) ∧ wr.os = w4.os ∧ wr.tape = w4.tape ∧ wr.output = w4.output) (fun x _ => ks.length - (intOf x).toNat)
  case atStart => exact ⟨0, .slice none 0 0, by omega, rfl, H5.out.2.1, ⟨World.ownsRow_nil _ _ _ _, fun p hp => by cases hp⟩, Nat.le_refl _, fun _ _ _ => rfl, rfl, rfl, rfl⟩
  case round =>
    obtain ⟨wo, rfl⟩ : ∃ wo, wo = wr := ⟨_, rfl⟩
    obtain ⟨k, vk, hk, rfl, hkx, hop, hsz, hoth, hos, htp, hout⟩ := hrel
    have H6 := hide (And.intro hkx (And.intro hop (And.intro hsz (And.intro hoth (And.intro hos (And.intro htp hout))))))
    clear hkx hop hsz hoth hos htp hout
    have k0 : (0 : Int) ≤ (k : Int) := by omega
    by_cases hk2 : k < ks.length
    · have k1 : (k : Int) < (ks.length : Int) := by omega
      obtain ⟨j, hj⟩ : ∃ j, ks[k]? = some j := ⟨_, List.getElem?_eq_getElem hk2⟩
      have hj9 := hks j (List.mem_of_getElem? hj)
      obtain ⟨bk, offk, rfl, hbk, hjc⟩ := HK.out k (j : Int) (by rw [List.getElem?_map, hj]; rfl)
      have hbk4 : bk < w4.heap.size ∧ bk ≠ bx := ⟨by have := H5.out.1.size; omega, by have := H5.out.2.2.2; omega⟩
      have hjw : wo.cell? ⟨bk, offk + k, none⟩ = some (.int .i64 (j : Int)) := (World.cell?_of_block ((H6.out.2.2.2.1 bk hbk4.1 hbk4.2).trans (H5.out.1.block bk hbk))).trans hjc
      have HX := hide (show bx < w4.heap.size ∧ True ∧ ks[k]? = some j from ⟨H5.out.2.1.lt, trivial, hj⟩)
      have HJ := hide (show bk < w4.heap.size ∧ wo.cell? ⟨bk, offk + k, none⟩ = some (.int .i64 (j : Int)) from ⟨hbk4.1, hjw⟩)
      clear hj hjc hjw hbk4
      go_wp2_with fail
      have hL : ∀ p ∈ ([(23, OnePth w4.heap.size (pN j)), (24, fun u W => OwnP w4.heap.size W u (((ks.take k).map pN) ++ [pN j]))] : Fre.MadeL), Fre.MadeOk (GrowF w4.heap.size (NPM ((ks.take k).map pN) []) (FPM (((ks.take k).map pN) ++ [pN j]) [])) p.2 := by
        intro p hp
        simp only [List.mem_cons, List.not_mem_nil, or_false] at hp
        rcases hp with rfl | rfl
        · exact ⟨fun u W W' h hx => onePth_stays (r := []) (pN_ok j) H6.out.2.1.2 h hx⟩
        · exact ⟨fun u W W' h hx => OwnP.grow (ps' := []) h (by have hx : GrowF _ _ _ W W' := hx; rwa [List.append_nil])⟩
      refine Fre.wp_made (X := (GrowF w4.heap.size (NPM ((ks.take k).map pN) []) (FPM (((ks.take k).map pN) ++ [pN j]) []))) 10 [(23, OnePth w4.heap.size (pN j)), (24, fun u W => OwnP w4.heap.size W u (((ks.take k).map pN) ++ [pN j]))] (by kernel_rfl) (by kernel_rfl) hL (by simp) (by simp only [List.map_cons, List.map_nil, List.forall_mem_cons]; exact ⟨Nat.le_of_ble_eq_true (by kernel_rfl), Nat.le_of_ble_eq_true (by kernel_rfl), fun _ h => by cases h⟩) ?_
      simp only [List.take_succ_cons, List.take_zero, List.drop_succ_cons, List.drop_zero]
      refine Fre.made_val (.pointer (some ⟨bx, 21, none⟩)) (by kernel_rfl) (by kernel_rfl) (by kernel_rfl) (fun _ _ => by kernel_rfl) ?_
      simp only [Act.put, List.setIfInBounds_toArray, List.set_cons_zero, List.set_cons_succ]
      refine Fre.made_val (vk) (by kernel_rfl) (by kernel_rfl) (by kernel_rfl) (fun W9 hW9 => exec_load_cell (o := ⟨some 17, _, _, _, _, _⟩) 24 (.tmp 16) rfl ⟨bx, 21, none⟩ rfl _ _ W9 Try.underlying24 rfl (by have h9 := GrowF.blk hW9 H6.out.1 (by rfl); rw [h9.cell]; rfl)) ?_
      simp only [Act.put, List.setIfInBounds_toArray, List.set_cons_zero, List.set_cons_succ]
      refine Fre.made_val (.slice (some ⟨bk, offk, none⟩) ks.length capk) (by kernel_rfl) (by kernel_rfl) (by kernel_rfl) (fun _ _ => by kernel_rfl) ?_
      simp only [Act.put, List.setIfInBounds_toArray, List.set_cons_zero, List.set_cons_succ]
      refine Fre.made_val (.int .i64 (k : Int)) (by kernel_rfl) (by kernel_rfl) (by kernel_rfl) (fun _ _ => by kernel_rfl) ?_
      simp only [Act.put, List.setIfInBounds_toArray, List.set_cons_zero, List.set_cons_succ]
      refine Fre.made_val (.pointer (some ⟨bk, offk + (k : Int).toNat * 1, none⟩)) (by kernel_rfl) (by kernel_rfl) (by kernel_rfl) (fun W9 _ => exec_index_off (o := ⟨some 20, _, _, _, _, _⟩) 33 3 (.tmp 18) (.tmp 19) rfl bk offk ks.length capk (k : Int) .i64 rfl rfl ⟨k0, k1⟩ 1 Try.underlying33 (by kernel_rfl) W9) ?_
      simp only [Act.put, List.setIfInBounds_toArray, List.set_cons_zero, List.set_cons_succ]
      rw [show offk + (k : Int).toNat * 1 = offk + k by omega]
      refine Fre.made_val (.int .i64 (j : Int)) (by kernel_rfl) (by kernel_rfl) (by kernel_rfl) (fun W9 hW9 => exec_load_cell (o := ⟨some 21, _, _, _, _, _⟩) 3 (.tmp 20) rfl ⟨bk, offk + k, none⟩ rfl _ _ W9 Try.underlying3 rfl (by have h9 : GrowF _ _ _ wo W9 := hW9; rw [World.cell?_of_block ((h9.below H6.out.2.2.1).block bk HJ.out.1)]; exact HJ.out.2)) ?_
      simp only [Act.put, List.setIfInBounds_toArray, List.set_cons_zero, List.set_cons_succ]
      refine Fre.made_call (.agg (pC (pN j)).toArray) 25 #[.int .i64 (j : Int)] (by kernel_rfl) (by kernel_rfl) (by kernel_rfl) (fun W9 => by kernel_rfl) (fun W9 hW9 => (path_any j hj9 W9).mono fun e w' ⟨h1, h2⟩ => ⟨h1, GrowF.of_below h2⟩) ?_
      simp only [Act.put, List.setIfInBounds_toArray, List.set_cons_zero, List.set_cons_succ]
      refine Fre.made_new 23 _ (by kernel_rfl) (by kernel_rfl) rfl rfl (fun W9 hW9 => ⟨.slice (some ⟨W9.heap.size, 0, none⟩) 1 1, W9.alloc (.cells (pC (pN j)).toArray 53), exec_buildSliceP (o := ⟨some 23, _, _, _, _, _⟩) (v := .agg (pC (pN j)).toArray) 24 (.tmp 22) rfl rfl Try.underlying24 sz_path (by omega) (by omega) (z := .agg zcP) (fun w => by kernel_rfl) (by simp [Value.cells, pC_len (pN_ok j)]) W9, GrowF.of_below ((Below.refl _ W9).alloc (Nat.le_refl _) _), W9.heap.size, rfl, by have h9 : GrowF _ _ _ wo W9 := hW9; have := h9.size; have := H6.out.2.2.1; omega, Blk.new _ _ _⟩) ?_
      simp only [Act.put, List.setIfInBounds_toArray, List.set_cons_zero, List.set_cons_succ]
      refine Fre.made_new1 23 _ 24 _ (by kernel_rfl) rfl (by kernel_rfl) rfl rfl (fun u W9 hW9 hu => ?hone) ?_
      case hone =>
        obtain ⟨r, rfl, hrB, hrb⟩ := hu
        have h9 : GrowF _ _ _ wo W9 := hW9
        have hsz : w4.heap.size ≤ W9.heap.size := by have := h9.size; have := H6.out.2.2.1; omega
        have hsrc : SrcN W9 21 (some ⟨r, 0, none⟩) ([pN j] : List Pth).length 1 (flP [pN j]) := by have h := box_src hrb (pC_one (pN j)); rw [pC_len (pN_ok j)] at h; simpa [flP] using h
        obtain ⟨v', w', h1, h2, h3⟩ := app_paths (r := []) (M := []) (N := []) (H6.out.2.1.grow h9) (qs := [pN j]) (fun q hq => by rw [List.mem_singleton.1 hq]; exact pN_ok j) hsz (some ⟨r, 0, none⟩) 1 hsrc (by simp; omega) (p0 := (ks.take k).map pN) (Nat.le_refl _)
        rw [List.append_nil] at h2
        exact ⟨v', w', exec_append (o := ⟨some 24, _, _, _, _, _⟩) (.tmp 17) (.tmp 23) 24 rfl vk (.slice (some ⟨r, 0, none⟩) 1 1) _ _ _ (by kernel_rfl) (by kernel_rfl) h1, h2, h3⟩
      simp only [Act.put, List.setIfInBounds_toArray, List.set_cons_zero, List.set_cons_succ]
      refine Fre.made_val (.pointer (some ⟨bx, 21, none⟩)) (by kernel_rfl) (by kernel_rfl) (by kernel_rfl) (fun _ _ => by kernel_rfl) ?_
      simp only [Act.put, List.setIfInBounds_toArray, List.set_cons_zero, List.set_cons_succ]
      show ∀ w', _ → _
      intro w5 hx5
      simp only [Fre.ended]
      have hx5 : GrowF _ _ _ wo w5 := hx5
      intro u23 _ y5 hy5
      simp only [Act.put, List.setIfInBounds_toArray, List.set_cons_zero, List.set_cons_succ]
      have hbx5 : Blk w5 bx 55 (oC (pN n) vk).toArray := hx5.blk H6.out.1 (by rfl)
      have hxb := hx5.below H6.out.2.2.1
      have hlb : bx < w4.heap.size := HX.out.1
      obtain ⟨A5, m5, c5, rfl⟩ : ∃ A m c, y5 = .slice A m c := by
        rcases owned_formN hy5.1 with ⟨e, _⟩ | ⟨g, cap, cur, e, _⟩
        · exact ⟨_, _, _, e⟩
        · exact ⟨_, _, _, e⟩
      have hcl : w5.cell? ⟨bx, 21, none⟩ = some vk := by rw [hbx5.cell]; rfl
      have hfr := hbx5.frozen 21
      have hlt := hbx5.lt
      obtain ⟨w6, hw6⟩ : ∃ w6, w6 = w5.setCell ⟨bx, 21, none⟩ (.slice A5 m5 c5) := ⟨_, rfl⟩
      have hbx6 : Blk w6 bx 55 (oC (pN n) (.slice A5 m5 c5)).toArray := by rw [hw6]; have h := hbx5.set_ 21 (.slice A5 m5 c5); rwa [show (oC (pN n) vk).toArray.setIfInBounds 21 (.slice A5 m5 c5) = (oC (pN n) (.slice A5 m5 c5)).toArray from rfl] at h
      have hoth : ∀ b, b ≠ bx → w6.heap[b]? = w5.heap[b]? := fun b hb => by rw [hw6]; exact Below.heap_setCell w5 _ _ b (fun e => hb e)
      have hy6 : OwnP w4.heap.size w6 (.slice A5 m5 c5) (((ks.take k).map pN) ++ [pN j]) := ⟨owned_keepN hy5.1 fun g hg _ => hoth g fun e => by have := (owned_ltN hy5.1 hg).1; omega, hy5.2⟩
      have hsz6 : w6.heap.size = w5.heap.size := by rw [hw6]; simp [World.setCell]
      have hbel6 : ∀ b, b < w4.heap.size → b ≠ bx → w6.heap[b]? = w4.heap[b]? := fun b hb hne => (hoth b hne).trans ((hxb.block b hb).trans (H6.out.2.2.2.1 b hb hne))
      have H7 := hide (And.intro hbx6 (And.intro hy6 (And.intro hsz6 (And.intro hbel6 (And.intro hxb.size (show w6.os = w4.os ∧ w6.tape = w4.tape ∧ w6.output = w4.output by rw [hw6]; exact ⟨hxb.os.trans H6.out.2.2.2.2.1, hxb.tape.trans H6.out.2.2.2.2.2.1, hxb.output.trans H6.out.2.2.2.2.2.2⟩))))))
      have HW6 := hide hw6
      clear hbx5 hbx6 hoth hy6 hsz6 hbel6 hxb hx5 hy5 hw6 hL
      go_wp2_with fail
      rw [← HW6.out]
      go_roundw
      case rel => exact ⟨k + 1, .slice A5 m5 c5, by omega, by go_num, H7.out.1, by rw [List.take_add_one, HX.out.2.2, List.map_append]; exact H7.out.2.1, by have := H7.out.2.2.1; have := H7.out.2.2.2.2.1; have := H6.out.2.2.1; omega, H7.out.2.2.2.1, H7.out.2.2.2.2.2⟩
      case measure => simp [intOf]; omega
    · obtain rfl : k = ks.length := by omega
      have hop := H6.out.2.1
      rw [List.take_length] at hop
      have HOP := hide hop
      clear hop
      have hxs : (Try.prog.info? 55).map (·.size) = some (oC (pN n) vk).toArray.size := by rw [sz_opt]; rfl
      have hone : (oC (pN n) vk).toArray.all (·.oneCell') = true := by
        rcases owned_formN HOP.out.1 with ⟨e, _⟩ | ⟨g, cap, cur, e, _⟩
        · rw [e]; exact all_oneCell_toArray (oC_one _ _ _ _)
        · rw [e]; exact all_oneCell_toArray (oC_one _ _ _ _)
      have hrb : Blk wo w.heap.size 55 zcO := (H6.out.2.2.2.1 w.heap.size H5.out.2.2.1.lt (by have := H5.out.2.2.2; omega)).trans H5.out.2.2.1
      have HRB := hide hrb
      clear hrb
      go_wp2_with (first | (refine wpList_value (o := ⟨some 26, _, _, _, _, _⟩) rfl (.agg (oC (pN n) vk).toArray) wo (exec_load_blk (o := ⟨some 26, _, _, _, _, _⟩) 55 (.tmp 5) rfl bx rfl 55 _ _ wo H6.out.1 Try.underlying55 rfl hxs) ?_) | (with_reducible refine wpList_store_blkA (o := ⟨none, _, _, _, _, _⟩) rfl 55 (.tmp 4) (.tmp 26) rfl w.heap.size zcO (oC (pN n) vk).toArray 55 HRB.out ?s1 ?s2 ?s3 ?s4 ?s5 ?s6))
      case s1 => exact hxs
      case s2 => rfl
      case s3 => exact hone
      intro w7 hk7 hg7
      have hb7 : Below w.heap.size w w7 := by
        refine ⟨hg7.os.trans (H6.out.2.2.2.2.1.trans H5.out.1.os), hg7.tape.trans (H6.out.2.2.2.2.2.1.trans H5.out.1.tape), hg7.output.trans (H6.out.2.2.2.2.2.2.trans H5.out.1.output), by have := hg7.size; have := H6.out.2.2.1; have := H5.out.1.size; omega, fun b hb => ?_⟩
        have h1 : b < w4.heap.size := by have := H5.out.1.size; omega
        exact (hg7.block b (by have := H6.out.2.2.1; omega) (fun e => by injection e with e; omega)).trans ((H6.out.2.2.2.1 b h1 (by have := H5.out.2.2.2; omega)).trans (H5.out.1.block b hb))
      have ho7 : OwnP w.heap.size w7 vk (ks.map pN) := ⟨owned_baseN (owned_keepN HOP.out.1 fun g hg hl => hg7.block g hl fun e => by injection e with e; have := (owned_ltN HOP.out.1 hg).1; have := H5.out.2.2.1.lt; omega) fun g hg => by have := (owned_ltN HOP.out.1 hg).1; have := H5.out.1.size; omega, HOP.out.2⟩
      have H7 := hide (And.intro hk7 (And.intro hb7 ho7))
      clear hk7 hg7 hb7 ho7
      go_wp2_with fail
      refine bodyPost_ret (results_cell_row rfl _ _ w.heap.size 55 (oC (pN n) vk).toArray (0, 0) _ rfl H7.out.1 Try.underlying55 rfl hxs) rfl ⟨vk, rfl, H7.out.2.2, H7.out.2.1⟩
end Go.Proofs.Ytfppddnfdinipaa
end
