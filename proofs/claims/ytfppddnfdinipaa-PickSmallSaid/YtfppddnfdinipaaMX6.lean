/- spencelaw24: lent. spencelaw24: kept. -/
import Derived.Test.YtfppddnfdinipaaMX5
section
namespace Go.Proofs.Ytfppddnfdinipaa
open Go Go.RowKit Go.Maps
set_option maxRecDepth 100000
set_option maxHeartbeats 4000000 in
theorem lent_any (w : World) (v : Cvs) (c : CaseP) (hc : c.size ≤ 120) (hC : CaseAt w.heap.size w v c) :
    Calls Try.prog 12 #[.agg (caseC v).toArray] w fun e w' => ∃ v', e = .returned (.agg (caseC v').toArray) ∧ CaseAt w'.heap.size w' v' c ∧ LentAt w' v' c ∧ Below w.heap.size w w' := by
  have ho : okH v.own := by rw [hC.own]; exact hC.okO
  obtain ⟨b1, b2, b3, b4, b5, b6, b7⟩ := CaseP.bounds hc
  obtain ⟨w1, hw1⟩ : ∃ w1, w1 = w.alloc (.cells (caseC v).toArray 29) := ⟨_, rfl⟩
  obtain ⟨w2, hw2⟩ : ∃ w2, w2 = w1.alloc (.cells zcL.toArray 29) := ⟨_, rfl⟩
  have hb1 : Below w.heap.size w w1 := by rw [hw1]; exact (Below.refl _ w).alloc (Nat.le_refl _) _
  have hk1 : Blk w1 w.heap.size 29 (caseC v).toArray := by rw [hw1]; exact Blk.new _ _ _
  have hz1 : w1.heap.size = w.heap.size + 1 := by rw [hw1, size_alloc]
  have hb2 : Below w1.heap.size w1 w2 := by rw [hw2]; exact (Below.refl _ w1).alloc (Nat.le_refl _) _
  have hk2 : Blk w2 w1.heap.size 29 zcL.toArray := by rw [hw2]; exact Blk.new _ _ _
  have hz2 : w2.heap.size = w.heap.size + 2 := by rw [hw2, size_alloc, hz1]
  have hb := hb1.trans (Below.mono hb2 hb1.size)
  have hk := hk1.below hb2 (by omega)
  have hC2 : CaseAt w.heap.size w2 v c := hC.alike fun k hk => hb.block k hk
  have HOK := hide hC.oks.2.2.2
  obtain ⟨Ao, capo, hvo, _, _, _, hAo⟩ := slice_open hC2.atO
  obtain ⟨Af, capf, hvf, _⟩ := slice_open hC2.atF
  obtain ⟨Ac, capc, hvc, _⟩ := slice_open hC2.atC
  obtain ⟨Am, capm, hvm, _⟩ := slice_open hC2.atM
  have HATF := hide (show pathsLay.At w2 w.heap.size [.slice Af c.fixed.length capf] c.fixed by have h := hC2.atF; rwa [hvf] at h)
  have HATC := hide (show hashesLay.At w2 w.heap.size [.slice Ac c.cls.length capc] c.cls by have h := hC2.atC; rwa [hvc] at h)
  have HATM := hide (show madesLay.At w2 w.heap.size [.slice Am c.of.length capm] c.of by have h := hC2.atM; rwa [hvm] at h)
  have HOK0 := hide (And.intro hC.oks.1 hC.oks.2.2.1)
  have HOKC := hide hC.oks.2.1
  obtain ⟨ih, hih, hq0, hq1, hq2⟩ := info_parts info_hashI
  have HH := hide (And.intro hih (And.intro hq0 (And.intro hq1 hq2)))
  clear hih hq0 hq1 hq2
  have hcells := case_cellsT ho hk
  have H2 := hide (And.intro hb (And.intro hk (And.intro hk2 hcells)))
  have HVC := hide (show w2.cell? ⟨w.heap.size, 20, none⟩ = some (.slice Af c.fixed.length capf) ∧ w2.cell? ⟨w.heap.size, 21, none⟩ = some (.slice Ac c.cls.length capc) ∧ w2.cell? ⟨w.heap.size, 23, none⟩ = some (.slice Am c.of.length capm) by rw [← hvf, ← hvc, ← hvm]; exact ⟨hcells.1, hcells.2.1, hcells.2.2.2⟩)
  rw [hvo] at hcells
  have HA := hide (And.intro hC2 (And.intro hcells.2.2.1 hAo))
  have HZ := hide (And.intro hz1 hz2)
  have HW := hide hw2
  have HW1 := hide hw1
  clear hb hk hk2 hb1 hb2 hk1 hC2 hC hAo hcells hw1 hw2 hvo hvf hvc hvm hz1 hz2
  have o9 : (c.opts.length : Int) ≤ 120 := by omega
  go_enter Try.func12, Try.ntmps12
  go_wp2_with (first | (refine wpList_value (o := ⟨some 1, _, _, _, _, _⟩) rfl (.pointer (some ⟨w.heap.size, 0, none⟩)) w1 (by rw [HW1.out]; kernel_rfl) ?_) | (refine wpList_value (o := ⟨some 2, _, _, _, _, _⟩) rfl (.pointer (some ⟨w1.heap.size, 0, none⟩)) w2 (by rw [HW.out]; kernel_rfl) ?_))
  have hL : ∀ p ∈ ([(11, fun u W => LentQ W u c.fixed), (12, fun u W => ∃ g, u = .slice (some ⟨g, 0, none⟩) 0 0 ∧ w2.heap.size ≤ g ∧ Blk W g 23 #[]), (15, fun u W => W.ownsRow w2.heap.size 23 20 u c.cls.length (hashCells c.cls)), (18, fun u W => LentM W u c.of), (19, fun u W => ∃ vf vc vm, u = .agg (caseC ⟨v.own, vf, vc, .slice none 0 0, vm⟩).toArray ∧ LentQ W vf c.fixed ∧ W.ownsRow w2.heap.size 23 20 vc c.cls.length (hashCells c.cls) ∧ LentM W vm c.of), (3, fun u W => ∃ g, u = .pointer (some ⟨g, 0, none⟩) ∧ w2.heap.size ≤ g ∧ Blk W g 29 zcL.toArray)] : Fre.MadeL), Fre.MadeOk Blw p.2 := by
    intro p hp
    simp only [List.mem_cons, List.not_mem_nil, or_false] at hp
    rcases hp with rfl | rfl | rfl | rfl | rfl | rfl
    · exact LentQ.ok
    · exact ⟨fun u W W' h hx => by obtain ⟨g, e, h1, h2⟩ := h; exact ⟨g, e, h1, h2.below hx h2.lt⟩⟩
    · exact own_ok
    · exact LentM.ok
    · exact ⟨fun u W W' h hx => by obtain ⟨vf, vc, vm, e, h1, h2, h3⟩ := h; exact ⟨vf, vc, vm, e, LentQ.ok.stays _ _ _ h1 hx, own_ok.stays _ _ _ h2 hx, LentM.ok.stays _ _ _ h3 hx⟩⟩
    · exact ⟨fun u W W' h hx => by obtain ⟨g, e, h1, h2⟩ := h; exact ⟨g, e, h1, h2.below hx h2.lt⟩⟩
  refine Fre.wp_made (X := Blw) 14 [(11, fun u W => LentQ W u c.fixed), (12, fun u W => ∃ g, u = .slice (some ⟨g, 0, none⟩) 0 0 ∧ w2.heap.size ≤ g ∧ Blk W g 23 #[]), (15, fun u W => W.ownsRow w2.heap.size 23 20 u c.cls.length (hashCells c.cls)), (18, fun u W => LentM W u c.of), (19, fun u W => ∃ vf vc vm, u = .agg (caseC ⟨v.own, vf, vc, .slice none 0 0, vm⟩).toArray ∧ LentQ W vf c.fixed ∧ W.ownsRow w2.heap.size 23 20 vc c.cls.length (hashCells c.cls) ∧ LentM W vm c.of), (3, fun u W => ∃ g, u = .pointer (some ⟨g, 0, none⟩) ∧ w2.heap.size ≤ g ∧ Blk W g 29 zcL.toArray)] (by kernel_rfl) (by kernel_rfl) hL (by simp) (by simp only [List.map_cons, List.map_nil, List.forall_mem_cons]; exact ⟨Nat.le_of_ble_eq_true (by kernel_rfl), Nat.le_of_ble_eq_true (by kernel_rfl), Nat.le_of_ble_eq_true (by kernel_rfl), Nat.le_of_ble_eq_true (by kernel_rfl), Nat.le_of_ble_eq_true (by kernel_rfl), Nat.le_of_ble_eq_true (by kernel_rfl), fun _ h => by cases h⟩) ?_
  simp only [List.take_succ_cons, List.take_zero, List.drop_succ_cons, List.drop_zero]
  refine Fre.made_val (.pointer (some ⟨w.heap.size, 0, none⟩)) (by kernel_rfl) (by kernel_rfl) (by kernel_rfl) (fun _ _ => by kernel_rfl) ?_
  simp only [Act.put, List.setIfInBounds_toArray, List.set_cons_zero, List.set_cons_succ]
  refine Fre.made_val (.agg (bv v.own).toArray) (by kernel_rfl) (by kernel_rfl) (by kernel_rfl) (fun W9 hW9 => exec_load_mid (o := ⟨some 8, _, _, _, _, _⟩) 23 (.tmp 7) rfl w.heap.size 0 rfl (bv v.own) _ W9 (rangeAt_same (rangeAt_own H2.out.2.1) (by have h9 : Below _ w2 W9 := hW9; exact h9.block _ (by have := HZ.out; omega))) Try.underlying23 rfl (by have := hsz ho; simpa using this)) ?_
  simp only [Act.put, List.setIfInBounds_toArray, List.set_cons_zero, List.set_cons_succ]
  refine Fre.made_val (.pointer (some ⟨w.heap.size, 20, none⟩)) (by kernel_rfl) (by kernel_rfl) (by kernel_rfl) (fun _ _ => by kernel_rfl) ?_
  simp only [Act.put, List.setIfInBounds_toArray, List.set_cons_zero, List.set_cons_succ]
  refine Fre.made_val (.slice Af c.fixed.length capf) (by kernel_rfl) (by kernel_rfl) (by kernel_rfl) (fun W9 hW9 => exec_load_cell (o := ⟨some 10, _, _, _, _, _⟩) 24 (.tmp 9) rfl ⟨w.heap.size, 20, none⟩ rfl _ _ W9 Try.underlying24 rfl (by have h9 : Below _ w2 W9 := hW9; rw [World.cell?_of_block (h9.block w.heap.size (by have := HZ.out; omega))]; exact HVC.out.1)) ?_
  simp only [Act.put, List.setIfInBounds_toArray, List.set_cons_zero, List.set_cons_succ]
  refine Fre.made_newcall 11 _ 44 #[.slice Af c.fixed.length capf] (by kernel_rfl) (by kernel_rfl) rfl rfl (fun _ => by kernel_rfl) (fun W9 hW9 => ?hc1) ?_
  case hc1 =>
    have h9 : Below _ w2 W9 := hW9
    refine (lentPaths_any c.fixed (by omega) Af _ capf w.heap.size W9 (by have := h9.size; have := HZ.out; omega) (pathsLay.alike HATF.out fun b hb => h9.block b (by have := HZ.out; omega))).mono ?_
    rintro e w' ⟨g, rfl, _, hg2, hg3⟩
    exact ⟨_, rfl, hg3, g, rfl, hg2, HOK0.out.1, by omega⟩
  simp only [Act.put, List.setIfInBounds_toArray, List.set_cons_zero, List.set_cons_succ]
  refine Fre.made_new 12 _ (by kernel_rfl) (by kernel_rfl) rfl rfl (fun W9 hW9 => ⟨.slice (some ⟨W9.heap.size, 0, none⟩) 0 0, W9.alloc (.cells #[] 23), by kernel_rfl, (Below.refl _ W9).alloc (Nat.le_refl _) _, W9.heap.size, rfl, by have h9 : Below _ w2 W9 := hW9; exact h9.size, Blk.new _ _ _⟩) ?_
  simp only [Act.put, List.setIfInBounds_toArray, List.set_cons_zero, List.set_cons_succ]
  refine Fre.made_val (.pointer (some ⟨w.heap.size, 21, none⟩)) (by kernel_rfl) (by kernel_rfl) (by kernel_rfl) (fun _ _ => by kernel_rfl) ?_
  simp only [Act.put, List.setIfInBounds_toArray, List.set_cons_zero, List.set_cons_succ]
  refine Fre.made_val (.slice Ac c.cls.length capc) (by kernel_rfl) (by kernel_rfl) (by kernel_rfl) (fun W9 hW9 => exec_load_cell (o := ⟨some 14, _, _, _, _, _⟩) 25 (.tmp 13) rfl ⟨w.heap.size, 21, none⟩ rfl _ _ W9 Try.underlying25 rfl (by have h9 : Below _ w2 W9 := hW9; rw [World.cell?_of_block (h9.block w.heap.size (by have := HZ.out; omega))]; exact HVC.out.2.1)) ?_
  simp only [Act.put, List.setIfInBounds_toArray, List.set_cons_zero, List.set_cons_succ]
  refine Fre.made_new1 12 _ 15 _ (by kernel_rfl) rfl (by kernel_rfl) rfl rfl (fun u W9 hW9 hu => ?hap) ?_
  case hap =>
    obtain ⟨g, rfl, hg1, hg2⟩ := hu
    have h9 : Below _ w2 W9 := hW9
    have hs9 : SrcN W9 20 Ac c.cls.length capc (hashCells c.cls) := (hashes_src (hashesLay.alike HATC.out fun b hb => h9.block b (by have := HZ.out; omega))).2
    obtain ⟨v', w', e1, e2, e3⟩ := app_zero (P := Try.prog) 25 25 23 ih _ 20 20 Try.underlying25 HH.out.1 HH.out.2.1 HH.out.2.2.1 HH.out.2.2.2 rfl (by decide) g w2.heap.size hg2 hg1 Ac c.cls.length capc (hashCells c.cls) hs9 (by simp only [maxLen]; omega) (by omega)
    exact ⟨v', w', exec_append (o := ⟨some 15, _, _, _, _, _⟩) (.tmp 12) (.tmp 14) 25 rfl _ _ _ _ _ (by kernel_rfl) (by kernel_rfl) e1, e2, e3⟩
  simp only [Act.put, List.setIfInBounds_toArray, List.set_cons_zero, List.set_cons_succ]
  refine Fre.made_val (.pointer (some ⟨w.heap.size, 23, none⟩)) (by kernel_rfl) (by kernel_rfl) (by kernel_rfl) (fun _ _ => by kernel_rfl) ?_
  simp only [Act.put, List.setIfInBounds_toArray, List.set_cons_zero, List.set_cons_succ]
  refine Fre.made_val (.slice Am c.of.length capm) (by kernel_rfl) (by kernel_rfl) (by kernel_rfl) (fun W9 hW9 => exec_load_cell (o := ⟨some 17, _, _, _, _, _⟩) 27 (.tmp 16) rfl ⟨w.heap.size, 23, none⟩ rfl _ _ W9 Try.underlying27 rfl (by have h9 : Below _ w2 W9 := hW9; rw [World.cell?_of_block (h9.block w.heap.size (by have := HZ.out; omega))]; exact HVC.out.2.2)) ?_
  simp only [Act.put, List.setIfInBounds_toArray, List.set_cons_zero, List.set_cons_succ]
  refine Fre.made_newcall 18 _ 45 #[.slice Am c.of.length capm] (by kernel_rfl) (by kernel_rfl) rfl rfl (fun _ => by kernel_rfl) (fun W9 hW9 => ?hc2) ?_
  case hc2 =>
    have h9 : Below _ w2 W9 := hW9
    refine (lentMades_any c.of (by omega) Am _ capm w.heap.size W9 (by have := h9.size; have := HZ.out; omega) (madesLay.alike HATM.out fun b hb => h9.block b (by have := HZ.out; omega))).mono ?_
    rintro e w' ⟨g, rfl, _, hg2, hg3⟩
    exact ⟨_, rfl, hg3, g, rfl, hg2, HOK0.out.2, by omega⟩
  simp only [Act.put, List.setIfInBounds_toArray, List.set_cons_zero, List.set_cons_succ]
  refine Fre.made_new3 11 15 18 _ _ _ 19 _ (by kernel_rfl) rfl rfl rfl (by kernel_rfl) rfl rfl (fun u u2 u3 W9 hW9 hu hu2 hu3 => ?hbd) ?_
  case hbd =>
    obtain ⟨Ah, mh, ch, rfl⟩ : ∃ A m c, u2 = .slice A m c := by
      have hu2 : W9.ownsRow w2.heap.size 23 20 u2 c.cls.length (hashCells c.cls) := hu2
      rcases owned_formN hu2 with ⟨e, _⟩ | ⟨g, cap, cur, e, _⟩
      · exact ⟨_, _, _, e⟩
      · exact ⟨_, _, _, e⟩
    have hu1 := hu
    have hu4 := hu3
    obtain ⟨g1, rfl, _⟩ := hu1
    obtain ⟨g2, rfl, _⟩ := hu4
    exact ⟨_, W9, exec_case (o := ⟨some 19, _, _, _, _, _⟩) 29 (.tmp 8) (.tmp 11) (.tmp 15) (.tmp 18) rfl Try.underlying29 (fun w => by kernel_rfl) (fun w => by kernel_rfl) ho rfl rfl rfl rfl rfl rfl rfl W9, Below.refl _ W9, _, _, _, rfl, hu, hu2, hu3⟩
  simp only [Act.put, List.setIfInBounds_toArray, List.set_cons_zero, List.set_cons_succ]
  refine Fre.made_new 3 _ (by kernel_rfl) (by kernel_rfl) rfl rfl (fun W9 hW9 => ⟨.pointer (some ⟨W9.heap.size, 0, none⟩), W9.alloc (.cells zcL.toArray 29), by kernel_rfl, (Below.refl _ W9).alloc (Nat.le_refl _) _, W9.heap.size, rfl, by have h9 : Below _ w2 W9 := hW9; exact h9.size, Blk.new _ _ _⟩) ?_
  simp only [Act.put, List.setIfInBounds_toArray, List.set_cons_zero, List.set_cons_succ]
  show ∀ w', _ → _
  intro w8 hx8
  simp only [Fre.ended]
  have hx8 : Below _ w2 w8 := hx8
  intro u11 _ u12 _ u15 _ u18 _ u19 hu19 u3 hu3
  simp only [Act.put, List.setIfInBounds_toArray, List.set_cons_zero, List.set_cons_succ]
  obtain ⟨vf, vc, vm, rfl, hvf, hvc, hvm⟩ := hu19
  obtain ⟨bx, rfl, hbx, hbz⟩ := hu3
  have hcs : vf.oneCell' = true ∧ vc.oneCell' = true ∧ vm.oneCell' = true := by
    refine ⟨?_, ?_, ?_⟩
    · obtain ⟨g, rfl, _⟩ := hvf; rfl
    · rcases owned_formN hvc with ⟨rfl, _⟩ | ⟨g, cap, cur, rfl, _⟩ <;> rfl
    · obtain ⟨g, rfl, _⟩ := hvm; rfl
  have hall : (caseC ⟨v.own, vf, vc, .slice none 0 0, vm⟩).toArray.all (·.oneCell') = true := all_oneCell_toArray (caseC_one hcs.1 hcs.2.1 rfl hcs.2.2)
  have hzz : zcL.toArray.size = (caseC ⟨v.own, vf, vc, .slice none 0 0, vm⟩).toArray.size := by rw [List.size_toArray, List.size_toArray, caseC_len (c := ⟨v.own, vf, vc, .slice none 0 0, vm⟩) ho]; rfl
  have hcz := csz (v := ⟨v.own, vf, vc, .slice none 0 0, vm⟩) ho
  have H8 := hide (And.intro hbz (And.intro hall (And.intro hzz hcz)))
  have HL8 := hide (And.intro hvf (And.intro hvc (And.intro hvm (And.intro hx8 hbx))))
  have HCO := hide hcs
  clear hbz hall hzz hcz hvf hvc hvm hx8 hbx hcs hL
  go_wp2_with (with_reducible refine wpList_store_blkA (o := ⟨none, _, _, _, _, _⟩) rfl 29 (.tmp 3) (.tmp 19) rfl bx zcL.toArray (caseC ⟨v.own, vf, vc, .slice none 0 0, vm⟩).toArray 29 H8.out.1 ?t1 ?t2 ?t3 ?t4 ?t5 ?t6)
  case t1 => exact H8.out.2.2.2
  case t2 => exact H8.out.2.2.1
  case t3 => exact H8.out.2.1
  case t4 => rfl
  case t5 => rfl
  intro w3 hm3 hg3
  have hb3 : Below w2.heap.size w2 w3 := HL8.out.2.2.2.1.grown hg3 HL8.out.2.2.2.1.size (fun b hb => by injection hb with hb; have := HL8.out.2.2.2.2; omega)
  have hp3 : ∀ b cs e, e ≠ 29 → Blk w8 b e cs → Blk w3 b e cs := fun b cs e he hb => (hg3.block b hb.lt (fun e9 => by
      have hb := hb
      rw [Option.some.inj e9] at hb
      have h3 : w8.heap[bx]? = some (.cells cs e (0, 0)) := hb
      have h4 : w8.heap[bx]? = some (.cells zcL.toArray 29 (0, 0)) := H8.out.1
      rw [h3] at h4
      injection h4 with h4
      injection h4 with _ h4
      exact he h4)).trans hb
  have hf3 : LentQ w3 vf c.fixed := by obtain ⟨g, e, h1, h2⟩ := HL8.out.1; exact ⟨g, e, hp3 _ _ _ (by decide) h1, h2⟩
  have hm4 : LentM w3 vm c.of := by obtain ⟨g, e, h1, h2⟩ := HL8.out.2.2.1; exact ⟨g, e, hp3 _ _ _ (by decide) h1, h2⟩
  have hc3 : w3.ownsRow w2.heap.size 23 20 vc c.cls.length (hashCells c.cls) := by
    have h := HL8.out.2.1
    rcases owned_formN h with ⟨rfl, h4, h5⟩ | ⟨g, cap, cur, rfl, hbg, hnc, hcm, hg, hcs, htake, _⟩
    · exact ⟨h.1, .inl ⟨rfl, h4⟩⟩
    · exact ⟨h.1, .inr ⟨g, cap, cur, rfl, hbg, hp3 _ _ _ (by decide) hg, hnc, hcm, hcs, htake⟩⟩
  have H3 := hide (And.intro hm3 (And.intro hb3 HL8.out.2.2.2.2))
  have HL3 := hide (And.intro hf3 (And.intro hc3 hm4))
  clear hm3 hg3 hb3 hp3 hf3 hm4 hc3
  go_wp2_with fail
  obtain ⟨io, hio, hz0, hz1, hz2⟩ := info_parts (show (Try.prog.info? 55).map (fun i => (i.zero, i.size, i.bytes)) = some (some (.agg zcO), 22, 64) by kernel_rfl)
  have HI := hide (And.intro hio (And.intro hz0 (And.intro hz1 hz2)))
  clear hio hz0 hz1 hz2
  obtain ⟨ir, hir, hz0, hz1, hz2⟩ := info_parts (show (Try.prog.info? 57).map (fun i => (i.zero, i.size, i.bytes)) = some (some (.slice none 0 0), 1, 24) by kernel_rfl)
  have HJ := hide (And.intro hir (And.intro hz0 (And.intro hz1 hz2)))
  clear hir hz0 hz1 hz2
  go_loopw [4] (fun x wr => ∃ (i : Nat) (vo : Value) (rows : List (List Opt × Value)), i ≤ c.opts.length ∧ x = .int .i64 ((i : Nat) : Int) ∧ rows.map (·.1) = c.opts.take i ∧ Blk wr bx 29 (caseC ⟨v.own, vf, vc, vo, vm⟩).toArray ∧ wr.ownsRow w3.heap.size 57 1 vo i (flR rows) ∧ (∀ x ∈ rows, RowQ 55 (LentQ) wr x.2 x.1) ∧ w3.grownBy wr (some bx)) (fun x _ => c.opts.length - (intOf x).toNat)
  case atStart => exact ⟨0, .slice none 0 0, [], by omega, rfl, rfl, H3.out.1, World.ownsRow_nil _ _ _ _, (fun x hx => by cases hx), World.grownBy.refl _ _⟩
  case round =>
    obtain ⟨wi, rfl⟩ : ∃ wi, wi = wr := ⟨_, rfl⟩
    obtain ⟨i, vo, rows, hi, rfl, hrm, hbx, hown, hrq, hgr⟩ := hrel
    have hbel : Below w2.heap.size w2 wi := H3.out.2.1.trans (grownBy_rest hgr H3.out.2.2 H3.out.2.1.size)
    have H4 := hide (And.intro hrm (And.intro hbx (And.intro hown (And.intro hrq (And.intro hbel hgr)))))
    have c22 : wi.cell? ⟨w.heap.size, 22, none⟩ = some (.slice Ao c.opts.length capo) := (World.cell?_of_block (hbel.block w.heap.size (by have := HZ.out.2; omega))).trans HA.out.2.1
    clear hrm hbx hown hrq hbel hgr
    have i0 : (0 : Int) ≤ (i : Int) := by omega
    by_cases hi2 : i < c.opts.length
    · have i1 : (i : Int) < (c.opts.length : Int) := by omega
      obtain ⟨os, hos⟩ : ∃ os, c.opts[i]? = some os := ⟨_, List.getElem?_eq_getElem hi2⟩
      obtain ⟨hol, hxl⟩ := b7 os (List.mem_of_getElem? hos)
      obtain ⟨bo, offo, rfl, hlo, hEo⟩ := HA.out.2.2 (by omega)
      obtain ⟨cs1, hr1, hat1⟩ := hEo i os hos
      obtain ⟨vr, rfl, hat1⟩ := rowLay_at hat1
      obtain ⟨Ar, capr, rfl, _, _, _, hAr⟩ := slice_open hat1
      have e3 : w2.cell? ⟨bo, offo + i, none⟩ = some (.slice Ar os.length capr) := by
        have h9 : w2.cell? ⟨bo, offo + i * 1 + 0, none⟩ = some (.slice Ar os.length capr) := hr1 0 _ rfl
        rwa [Nat.mul_one, Nat.add_zero] at h9
      have HR := hide (And.intro e3 (And.intro hos hAr))
      have HXLEN := hide hxl
      have HLO := hide (show bo < w.heap.size ∧ w.heap.size < w2.heap.size ∧ w2.heap.size ≤ wi.heap.size from ⟨hlo, by have := HZ.out.2; omega, H4.out.2.2.2.2.1.size⟩)
      have k9 : (os.length : Int) ≤ 120 := by omega
      clear e3 hos hAr hr1 hat1 hEo hlo hxl
      go_wp2_with fail
      go_loopw [5, 6] (fun v5 x wr => ∃ (k : Nat) (xs : List (Opt × Value)) (u5 : Value), k ≤ os.length ∧ x = .int .i64 ((k : Nat) : Int) ∧ v5 = u5 ∧ xs.map (·.1) = os.take k ∧ wr.ownsRow wi.heap.size 55 22 u5 k (flO xs) ∧ (∀ y ∈ xs, okP y.1.1 ∧ LentQ wr y.2 y.1.2) ∧ Below wi.heap.size wi wr) (fun _ x _ => os.length - (intOf x).toNat)
      case atStart => exact ⟨0, [], .slice none 0 0, by omega, rfl, rfl, rfl, World.ownsRow_nil _ _ _ _, (fun x hx => by cases hx), Below.refl _ _⟩
      case round =>
        obtain ⟨wo, rfl⟩ : ∃ wo, wo = wr := ⟨_, rfl⟩
        obtain ⟨k, xs, u5, hk, rfl, rfl, hxm, hown, hxq, hbel⟩ := hrel
        have HO := hide (And.intro hown (And.intro (And.intro hxm hxq) hbel.size))
        have HBE := hide hbel
        clear hown hxm hxq hbel c22
        have hsame : ∀ b, b < w2.heap.size → wo.heap[b]? = w2.heap[b]? := fun b hb => (HBE.out.block b (by have := HLO.out.2.2; omega)).trans (H4.out.2.2.2.2.1.block b hb)
        have HC := hide (show wo.cell? ⟨w.heap.size, 22, none⟩ = some (.slice (some ⟨bo, offo, none⟩) c.opts.length capo) ∧ wo.cell? ⟨bo, offo + i, none⟩ = some (.slice Ar os.length capr) ∧ True from ⟨(World.cell?_of_block (hsame _ HLO.out.2.1)).trans HA.out.2.1, (World.cell?_of_block (hsame bo (by have := HLO.out; omega))).trans HR.out.1, trivial⟩)
        have HS := hide hsame
        clear hsame
        have k0 : (0 : Int) ≤ (k : Int) := by omega
        by_cases hk2 : k < os.length
        · have k1 : (k : Int) < (os.length : Int) := by omega
          obtain ⟨x, hx⟩ : ∃ x, os[k]? = some x := ⟨_, List.getElem?_eq_getElem hk2⟩
          have hAR := HR.out.2.2
          obtain ⟨br, offr, rfl, hlr, hEr⟩ := hAR (by omega)
          obtain ⟨cs2, hr2, hat2⟩ := hEr k x hx
          obtain ⟨cv, rfl, hpx, hatc⟩ := optLay_at hat2
          have hr2' : wo.rangeAt br (offr + k * 22) (oC x.1 cv) := rangeAt_same hr2 (HS.out br (by have := HLO.out; omega))
          obtain ⟨q1, q2⟩ := opt_parts hpx hr2'
          obtain ⟨Acv, ccv, rfl, _, _, _, _⟩ := slice_open hatc
          have HX := hide (And.intro q1 (And.intro q2 (And.intro hpx trivial)))
          have HXC := hide (And.intro hx hatc)
          have HXP := hide (fun q hq => (HOK.out os (List.mem_of_getElem? HR.out.2.1) x (List.mem_of_getElem? hx)).2 q hq)
          have HXL := hide (show x.2.length ≤ 1000000 by have := HXLEN.out x (List.mem_of_getElem? hx); omega)
          have HLT := hide (show w.heap.size < wi.heap.size ∧ bo < wi.heap.size ∧ br < wi.heap.size from by have := HLO.out; exact ⟨by omega, by omega, by omega⟩)
          clear hx hAR hEr hat2 hr2 hr2' q1 q2 hatc hpx hlr
          go_wp2_with (first | (refine wpList_value (o := ⟨some 29, _, _, _, _, _⟩) rfl (.slice (some ⟨bo, offo, none⟩) c.opts.length capo) wo (exec_load_cell (o := ⟨some 29, _, _, _, _, _⟩) 26 (.tmp 28) rfl ⟨w.heap.size, 22, none⟩ rfl _ _ wo Try.underlying26 rfl HC.out.1) ?_) | (refine wpList_value (o := ⟨some 31, _, _, _, _, _⟩) rfl (.pointer (some ⟨bo, offo + (i : Int).toNat * 1, none⟩)) wo (exec_index_off (o := ⟨some 31, _, _, _, _, _⟩) 26 57 (.tmp 29) (.tmp 30) rfl bo offo c.opts.length capo (i : Int) .i64 rfl rfl ⟨i0, i1⟩ 1 Try.underlying26 sz_row wo) ?_; rw [show offo + (i : Int).toNat * 1 = offo + i by omega]) | (refine wpList_value (o := ⟨some 32, _, _, _, _, _⟩) rfl (.slice (some ⟨br, offr, none⟩) os.length capr) wo (exec_load_cell (o := ⟨some 32, _, _, _, _, _⟩) 57 (.tmp 31) rfl ⟨bo, offo + i, none⟩ rfl _ _ wo Try.underlying57 rfl HC.out.2.1) ?_))
          have hL : ∀ p ∈ ([(56, ClQ w LentQ x.2), (57, AgQ w LentQ x.1 x.2), (58, SlQ w 55 wi.heap.size (LentQ) x.1 x.2)] : Fre.MadeL), Fre.MadeOk Blw p.2 := by
            intro p hp
            simp only [List.mem_cons, List.not_mem_nil, or_false] at hp
            rcases hp with rfl | rfl | rfl
            · exact clQ_ok (lentQ_ok w) _
            · exact agQ_ok (lentQ_ok w) _ _
            · exact slQ_ok (lentQ_ok w) _ _ _ _
          refine Fre.wp_made (X := Blw) 22 [(56, ClQ w LentQ x.2), (57, AgQ w LentQ x.1 x.2), (58, SlQ w 55 wi.heap.size (LentQ) x.1 x.2)] (by kernel_rfl) (by kernel_rfl) hL (by simp) (by simp only [List.map_cons, List.map_nil, List.forall_mem_cons]; exact ⟨Nat.le_of_ble_eq_true (by kernel_rfl), Nat.le_of_ble_eq_true (by kernel_rfl), Nat.le_of_ble_eq_true (by kernel_rfl), fun _ h => by cases h⟩) ?_
          simp only [List.take_succ_cons, List.take_zero, List.drop_succ_cons, List.drop_zero]
          refine Fre.made_val (u5) (by kernel_rfl) (by kernel_rfl) (by kernel_rfl) (fun _ _ => by kernel_rfl) ?_
          simp only [Act.put, List.setIfInBounds_toArray, List.set_cons_zero, List.set_cons_succ]
          refine Fre.made_val (.pointer (some ⟨w.heap.size, 22, none⟩)) (by kernel_rfl) (by kernel_rfl) (by kernel_rfl) (fun _ _ => by kernel_rfl) ?_
          simp only [Act.put, List.setIfInBounds_toArray, List.set_cons_zero, List.set_cons_succ]
          refine Fre.made_val (.slice (some ⟨bo, offo, none⟩) c.opts.length capo) (by kernel_rfl) (by kernel_rfl) (by kernel_rfl) (fun W9 hW9 => exec_load_cell (o := ⟨some 39, _, _, _, _, _⟩) 26 (.tmp 38) rfl ⟨w.heap.size, 22, none⟩ rfl _ _ W9 Try.underlying26 rfl (by have h9 : Below _ wo W9 := hW9; rw [World.cell?_of_block (h9.block (w.heap.size) (by have := HLT.out; have := HO.out.2.2; omega))]; exact HC.out.1)) ?_
          simp only [Act.put, List.setIfInBounds_toArray, List.set_cons_zero, List.set_cons_succ]
          refine Fre.made_val (.int .i64 (i : Int)) (by kernel_rfl) (by kernel_rfl) (by kernel_rfl) (fun _ _ => by kernel_rfl) ?_
          simp only [Act.put, List.setIfInBounds_toArray, List.set_cons_zero, List.set_cons_succ]
          refine Fre.made_val (.pointer (some ⟨bo, offo + (i : Int).toNat * 1, none⟩)) (by kernel_rfl) (by kernel_rfl) (by kernel_rfl) (fun W9 _ => exec_index_off (o := ⟨some 41, _, _, _, _, _⟩) 26 57 (.tmp 39) (.tmp 40) rfl bo offo c.opts.length capo (i : Int) .i64 rfl rfl ⟨i0, i1⟩ 1 Try.underlying26 sz_row W9) ?_
          simp only [Act.put, List.setIfInBounds_toArray, List.set_cons_zero, List.set_cons_succ]
          rw [show offo + (i : Int).toNat * 1 = offo + i by omega]
          refine Fre.made_val (.slice (some ⟨br, offr, none⟩) os.length capr) (by kernel_rfl) (by kernel_rfl) (by kernel_rfl) (fun W9 hW9 => exec_load_cell (o := ⟨some 42, _, _, _, _, _⟩) 57 (.tmp 41) rfl ⟨bo, offo + i, none⟩ rfl _ _ W9 Try.underlying57 rfl (by have h9 : Below _ wo W9 := hW9; rw [World.cell?_of_block (h9.block (bo) (by have := HLT.out; have := HO.out.2.2; omega))]; exact HC.out.2.1)) ?_
          simp only [Act.put, List.setIfInBounds_toArray, List.set_cons_zero, List.set_cons_succ]
          refine Fre.made_val (.int .i64 (k : Int)) (by kernel_rfl) (by kernel_rfl) (by kernel_rfl) (fun _ _ => by kernel_rfl) ?_
          simp only [Act.put, List.setIfInBounds_toArray, List.set_cons_zero, List.set_cons_succ]
          refine Fre.made_val (.pointer (some ⟨br, offr + (k : Int).toNat * 22, none⟩)) (by kernel_rfl) (by kernel_rfl) (by kernel_rfl) (fun W9 _ => exec_index_off (o := ⟨some 44, _, _, _, _, _⟩) 57 55 (.tmp 42) (.tmp 43) rfl br offr os.length capr (k : Int) .i64 rfl rfl ⟨k0, k1⟩ 22 Try.underlying57 sz_opt W9) ?_
          simp only [Act.put, List.setIfInBounds_toArray, List.set_cons_zero, List.set_cons_succ]
          rw [show offr + (k : Int).toNat * 22 = offr + k * 22 by omega]
          refine Fre.made_val (.pointer (some ⟨br, offr + k * 22, none⟩)) (by kernel_rfl) (by kernel_rfl) (by kernel_rfl) (fun _ _ => by kernel_rfl) ?_
          simp only [Act.put, List.setIfInBounds_toArray, List.set_cons_zero, List.set_cons_succ]
          refine Fre.made_val (.agg (pC x.1).toArray) (by kernel_rfl) (by kernel_rfl) (by kernel_rfl) (fun W9 hW9 => exec_load_mid (o := ⟨some 46, _, _, _, _, _⟩) 53 (.tmp 45) rfl br (offr + k * 22) rfl (pC x.1) _ W9 (rangeAt_same HX.out.1 (by have h9 : Below _ wo W9 := hW9; exact h9.block _ (by have := HLT.out; have := HO.out.2.2; omega))) Try.underlying53 rfl (by have := psz HX.out.2.2.1; simpa using this)) ?_
          simp only [Act.put, List.setIfInBounds_toArray, List.set_cons_zero, List.set_cons_succ]
          refine Fre.made_val (.pointer (some ⟨w.heap.size, 22, none⟩)) (by kernel_rfl) (by kernel_rfl) (by kernel_rfl) (fun _ _ => by kernel_rfl) ?_
          simp only [Act.put, List.setIfInBounds_toArray, List.set_cons_zero, List.set_cons_succ]
          refine Fre.made_val (.slice (some ⟨bo, offo, none⟩) c.opts.length capo) (by kernel_rfl) (by kernel_rfl) (by kernel_rfl) (fun W9 hW9 => exec_load_cell (o := ⟨some 48, _, _, _, _, _⟩) 26 (.tmp 47) rfl ⟨w.heap.size, 22, none⟩ rfl _ _ W9 Try.underlying26 rfl (by have h9 : Below _ wo W9 := hW9; rw [World.cell?_of_block (h9.block (w.heap.size) (by have := HLT.out; have := HO.out.2.2; omega))]; exact HC.out.1)) ?_
          simp only [Act.put, List.setIfInBounds_toArray, List.set_cons_zero, List.set_cons_succ]
          refine Fre.made_val (.int .i64 (i : Int)) (by kernel_rfl) (by kernel_rfl) (by kernel_rfl) (fun _ _ => by kernel_rfl) ?_
          simp only [Act.put, List.setIfInBounds_toArray, List.set_cons_zero, List.set_cons_succ]
          refine Fre.made_val (.pointer (some ⟨bo, offo + (i : Int).toNat * 1, none⟩)) (by kernel_rfl) (by kernel_rfl) (by kernel_rfl) (fun W9 _ => exec_index_off (o := ⟨some 50, _, _, _, _, _⟩) 26 57 (.tmp 48) (.tmp 49) rfl bo offo c.opts.length capo (i : Int) .i64 rfl rfl ⟨i0, i1⟩ 1 Try.underlying26 sz_row W9) ?_
          simp only [Act.put, List.setIfInBounds_toArray, List.set_cons_zero, List.set_cons_succ]
          rw [show offo + (i : Int).toNat * 1 = offo + i by omega]
          refine Fre.made_val (.slice (some ⟨br, offr, none⟩) os.length capr) (by kernel_rfl) (by kernel_rfl) (by kernel_rfl) (fun W9 hW9 => exec_load_cell (o := ⟨some 51, _, _, _, _, _⟩) 57 (.tmp 50) rfl ⟨bo, offo + i, none⟩ rfl _ _ W9 Try.underlying57 rfl (by have h9 : Below _ wo W9 := hW9; rw [World.cell?_of_block (h9.block (bo) (by have := HLT.out; have := HO.out.2.2; omega))]; exact HC.out.2.1)) ?_
          simp only [Act.put, List.setIfInBounds_toArray, List.set_cons_zero, List.set_cons_succ]
          refine Fre.made_val (.int .i64 (k : Int)) (by kernel_rfl) (by kernel_rfl) (by kernel_rfl) (fun _ _ => by kernel_rfl) ?_
          simp only [Act.put, List.setIfInBounds_toArray, List.set_cons_zero, List.set_cons_succ]
          refine Fre.made_val (.pointer (some ⟨br, offr + (k : Int).toNat * 22, none⟩)) (by kernel_rfl) (by kernel_rfl) (by kernel_rfl) (fun W9 _ => exec_index_off (o := ⟨some 53, _, _, _, _, _⟩) 57 55 (.tmp 51) (.tmp 52) rfl br offr os.length capr (k : Int) .i64 rfl rfl ⟨k0, k1⟩ 22 Try.underlying57 sz_opt W9) ?_
          simp only [Act.put, List.setIfInBounds_toArray, List.set_cons_zero, List.set_cons_succ]
          rw [show offr + (k : Int).toNat * 22 = offr + k * 22 by omega]
          refine Fre.made_val (.pointer (some ⟨br, offr + k * 22 + 21, none⟩)) (by kernel_rfl) (by kernel_rfl) (by kernel_rfl) (fun _ _ => by kernel_rfl) ?_
          simp only [Act.put, List.setIfInBounds_toArray, List.set_cons_zero, List.set_cons_succ]
          refine Fre.made_val (.slice Acv x.2.length ccv) (by kernel_rfl) (by kernel_rfl) (by kernel_rfl) (fun W9 hW9 => exec_load_cell (o := ⟨some 55, _, _, _, _, _⟩) 24 (.tmp 54) rfl ⟨br, offr + k * 22 + 21, none⟩ rfl _ _ W9 Try.underlying24 rfl (by have h9 : Below _ wo W9 := hW9; rw [World.cell?_of_block (h9.block (br) (by have := HLT.out; have := HO.out.2.2; omega))]; exact HX.out.2.1)) ?_
          simp only [Act.put, List.setIfInBounds_toArray, List.set_cons_zero, List.set_cons_succ]
          refine Fre.made_newcall 56 _ 44 #[.slice Acv x.2.length ccv] (by kernel_rfl) (by kernel_rfl) rfl rfl (fun _ => by kernel_rfl) (fun W9 hW9 => ?hcl) ?_
          case hcl =>
            have h9 : Below _ wo W9 := hW9
            have hsz9 : w.heap.size ≤ W9.heap.size := by have := h9.size; have := HLT.out; have := HO.out.2.2; omega
            refine (lentPaths_any x.2 HXL.out Acv _ ccv w.heap.size W9 hsz9 (pathsLay.alike HXC.out.2 fun b hb => (h9.block b (by have := HLT.out; have := HO.out.2.2; omega)).trans (HS.out b (by have := HZ.out; omega)))).mono ?_
            rintro e w' ⟨g, rfl, _, hg2, hg3⟩
            exact ⟨_, rfl, hg3, Nat.le_trans hsz9 hg3.size, g, rfl, hg2, HXP.out, HXL.out⟩
          simp only [Act.put, List.setIfInBounds_toArray, List.set_cons_zero, List.set_cons_succ]
          refine Fre.made_new1 56 _ 57 _ (by kernel_rfl) rfl (by kernel_rfl) rfl rfl (fun u W9 hW9 hu => ?hbl) ?_
          case hbl =>
            obtain ⟨h0, g, rfl, hu2⟩ := hu
            exact ⟨.agg (oC x.1 _).toArray, W9, exec_optB (o := ⟨some 57, _, _, _, _, _⟩) 55 (.tmp 46) (.tmp 56) rfl x.1 _ HX.out.2.2.1 ⟨_, _, _, rfl⟩ rfl rfl Try.underlying55 (fun w => by kernel_rfl) (fun w => by kernel_rfl) W9, Below.refl _ W9, h0, _, rfl, g, rfl, hu2⟩
          simp only [Act.put, List.setIfInBounds_toArray, List.set_cons_zero, List.set_cons_succ]
          refine Fre.made_new1 57 _ 58 _ (by kernel_rfl) rfl (by kernel_rfl) rfl rfl (fun u W9 hW9 hu => ?hsl) ?_
          case hsl =>
            obtain ⟨h0, cv9, rfl, hu2⟩ := hu
            have h9 : Below _ wo W9 := hW9
            have hb9 : Below W9.heap.size W9 (W9.alloc (.cells (oC x.1 cv9).toArray 55)) := (Below.refl _ W9).alloc (Nat.le_refl _) _
            exact ⟨.slice (some ⟨W9.heap.size, 0, none⟩) 1 1, W9.alloc (.cells (oC x.1 cv9).toArray 55), exec_buildSliceP (o := ⟨some 58, _, _, _, _, _⟩) (v := .agg (oC x.1 cv9).toArray) 57 (.tmp 57) rfl rfl Try.underlying57 sz_opt (by omega) (by omega) (z := .agg zcO) (fun w => by kernel_rfl) (by rw [Value.cells, List.size_toArray]; exact oC_len HX.out.2.2.1 _) W9, hb9, Nat.le_trans h0 hb9.size, W9.heap.size, cv9, rfl, by have := h9.size; have := HO.out.2.2; omega, Blk.new _ _ _, lentQ_below hu2 hb9⟩
          simp only [Act.put, List.setIfInBounds_toArray, List.set_cons_zero, List.set_cons_succ]
          show ∀ w', _ → _
          intro w5 hx5
          simp only [Fre.ended]
          have hx5 : Below _ wo w5 := hx5
          intro uc _ ub _ us hs9
          simp only [Act.put, List.setIfInBounds_toArray, List.set_cons_zero, List.set_cons_succ]
          obtain ⟨_, r9, cv9, rfl, hr9, hb9, hq9⟩ := hs9
          have hone9 : ∃ A n cap, cv9 = .slice A n cap := (lentQ_ok w).one hq9
          have hown5 : w5.ownsRow wi.heap.size 55 22 u5 k (flO xs) := owned_keepN HO.out.1 fun g _ hl => hx5.block g hl
          have hsrc5 : SrcN w5 22 (some ⟨r9, 0, none⟩) 1 1 (oC x.1 cv9) := by
            have h := box_src hb9 (oC_oneV hone9)
            rwa [oC_len HX.out.2.2.1] at h
          have H9 := hide (And.intro hown5 (And.intro hsrc5 (And.intro hq9 hx5)))
          clear hown5 hsrc5 hq9 hx5 hb9 hone9 hL
          go_wp2_with (at_builtin; (refine wpList_appS (o := ⟨some 59, _, _, _, _, _⟩) rfl _ _ 57 rfl wi.heap.size 55 io _ 22 64 Try.underlying57 HI.out.1 HI.out.2.1 HI.out.2.2.1 HI.out.2.2.2 rfl (by decide) _ k (flO xs) H9.out.1 (some ⟨r9, 0, none⟩) 1 1 (oC x.1 cv9) H9.out.2.1 ?hm1 ?hb1 ?hz1 rfl rfl ?_))
          case hm1 => simp only [maxLen]; omega
          case hb1 => omega
          case hz1 => have := H9.out.2.2.2.size; have := HO.out.2.2; omega
          intro y5 w6 own6 gr6 _
          have hb6 : Below wi.heap.size wi w6 := Below.grownOwn (HBE.out.trans (Below.mono H9.out.2.2.2 HO.out.2.2)) H9.out.1 (Nat.le_refl _) gr6
          have hw9 : w.heap.size ≤ wo.heap.size := by have := HLT.out; have := HO.out.2.2; omega
          have hkp : KeepO w 53 wo w6 := (KeepO.of_below H9.out.2.2.2 hw9).trans (KeepO.of_grown H9.out.1 gr6 (by have := HLT.out; omega) ⟨by decide, by decide⟩ (Nat.le_trans hw9 H9.out.2.2.2.size))
          have hq6 : ∀ y ∈ xs ++ [(x, cv9)], okP y.1.1 ∧ LentQ w6 y.2 y.1.2 := by
            intro y hy
            rcases List.mem_append.1 hy with hy | hy
            · exact ⟨(HO.out.2.1.2 y hy).1, (lentQ_ok w).keep (HO.out.2.1.2 y hy).2 hkp⟩
            · rw [List.mem_singleton.1 hy]
              exact ⟨HX.out.2.2.1, (lentQ_ok w).keep H9.out.2.2.1 (KeepO.of_grown H9.out.1 gr6 (by have := HLT.out; omega) ⟨by decide, by decide⟩ (Nat.le_trans hw9 H9.out.2.2.2.size))⟩
          have H5 := hide (And.intro hb6 (And.intro hq6 own6))
          clear hb6 hq6 own6 gr6 hkp
          go_wp2_with fail
          go_roundw
          case rel => exact ⟨k + 1, xs ++ [(x, cv9)], y5, by omega, by go_num, rfl, by rw [List.map_append, HO.out.2.1.1, List.take_add_one, HXC.out.1]; rfl, by rw [flO_snoc]; exact H5.out.2.2, H5.out.2.1, H5.out.1⟩
          case measure => simp [intOf]; omega
        · obtain rfl : k = os.length := by omega
          have hrow : RowQ 55 (LentQ) wo u5 os := ⟨xs, by rw [HO.out.2.1.1, List.take_length], ⟨_, HO.out.1⟩, HO.out.2.1.2⟩
          obtain ⟨A5, m5, c5, rfl⟩ := hrow.slice
          obtain ⟨w9, hw9⟩ : ∃ w9, w9 = wo.alloc (.cells #[.slice A5 m5 c5] 57) := ⟨_, rfl⟩
          have hb9 : Below wo.heap.size wo w9 := by rw [hw9]; exact (Below.refl _ wo).alloc (Nat.le_refl _) _
          have hk9 : Blk w9 wo.heap.size 57 #[.slice A5 m5 c5] := by rw [hw9]; exact Blk.new _ _ _
          have hbi : Below wi.heap.size wi w9 := HBE.out.trans (Below.mono hb9 HO.out.2.2)
          have hbxo : Blk wo bx 29 (caseC ⟨v.own, vf, vc, vo, vm⟩).toArray := H4.out.2.1.below HBE.out H4.out.2.1.lt
          have hbx9 : Blk w9 bx 29 (caseC ⟨v.own, vf, vc, vo, vm⟩).toArray := hbxo.below hb9 hbxo.lt
          have hown9 : w9.ownsRow w3.heap.size 57 1 vo i (flR rows) := owned_keepN H4.out.2.2.1 fun g _ hl => hbi.block g hl
          have hsrc9 : SrcN w9 1 (some ⟨wo.heap.size, 0, none⟩) 1 1 [.slice A5 m5 c5] := box_src (cs := [.slice A5 m5 c5]) hk9 (fun u hu => by rw [List.mem_singleton.1 hu]; rfl)
          have hwo : w.heap.size ≤ wo.heap.size := by have := HLO.out; have := HO.out.2.2; omega
          have hvo : wo.cell? ⟨bx, 22, none⟩ = some vo := (case_cellsT (v := ⟨v.own, vf, vc, vo, vm⟩) ho hbxo).2.2.1
          have H9 := hide (And.intro hown9 (And.intro hsrc9 (And.intro hb9 (And.intro hbi (And.intro hbx9 (And.intro hrow hwo))))))
          have HVO := hide hvo
          have HW9 := hide hw9
          clear hown9 hsrc9 hb9 hbi hbx9 hrow hwo hvo hk9 hbxo hw9
          go_wp2_with (first | (refine wpList_value (o := ⟨some 29, _, _, _, _, _⟩) rfl (.slice (some ⟨bo, offo, none⟩) c.opts.length capo) wo (exec_load_cell (o := ⟨some 29, _, _, _, _, _⟩) 26 (.tmp 28) rfl ⟨w.heap.size, 22, none⟩ rfl _ _ wo Try.underlying26 rfl HC.out.1) ?_) | (refine wpList_value (o := ⟨some 31, _, _, _, _, _⟩) rfl (.pointer (some ⟨bo, offo + (i : Int).toNat * 1, none⟩)) wo (exec_index_off (o := ⟨some 31, _, _, _, _, _⟩) 26 57 (.tmp 29) (.tmp 30) rfl bo offo c.opts.length capo (i : Int) .i64 rfl rfl ⟨i0, i1⟩ 1 Try.underlying26 sz_row wo) ?_; rw [show offo + (i : Int).toNat * 1 = offo + i by omega]) | (refine wpList_value (o := ⟨some 32, _, _, _, _, _⟩) rfl (.slice Ar os.length capr) wo (exec_load_cell (o := ⟨some 32, _, _, _, _, _⟩) 57 (.tmp 31) rfl ⟨bo, offo + i, none⟩ rfl _ _ wo Try.underlying57 rfl HC.out.2.1) ?_) | (refine wpList_value (o := ⟨some 61, _, _, _, _, _⟩) rfl vo wo (exec_load_cell (o := ⟨some 61, _, _, _, _, _⟩) 26 (.tmp 60) rfl ⟨bx, 22, none⟩ rfl _ _ wo Try.underlying26 rfl HVO.out) ?_) | (refine wpList_value (o := ⟨some 63, _, _, _, _, _⟩) rfl (.slice (some ⟨wo.heap.size, 0, none⟩) 1 1) w9 (by rw [HW9.out]; exact exec_buildSliceP (o := ⟨some 63, _, _, _, _, _⟩) (v := .slice A5 m5 c5) 26 (.tmp 62) rfl rfl Try.underlying26 sz_row (by omega) (by omega) (z := .slice none 0 0) (fun w => by kernel_rfl) rfl wo) ?_) | (at_builtin; (refine wpList_appS (o := ⟨some 64, _, _, _, _, _⟩) rfl _ _ 26 rfl w3.heap.size 57 ir _ 1 24 Try.underlying26 HJ.out.1 HJ.out.2.1 HJ.out.2.2.1 HJ.out.2.2.2 rfl (by decide) _ i (flR rows) H9.out.1 (some ⟨wo.heap.size, 0, none⟩) 1 1 [.slice A5 m5 c5] H9.out.2.1 ?hm2 ?hb2 ?hz2 rfl rfl ?_)))
          case hm2 => simp only [maxLen]; omega
          case hb2 => omega
          case hz2 => have := H4.out.2.2.2.2.2.size; have := H9.out.2.2.1.size; have := HO.out.2.2; omega
          intro v10 w10 own10 gr10 _
          obtain ⟨A10, m10, c10, rfl⟩ : ∃ A m c, v10 = .slice A m c := by
            rcases owned_formN own10 with ⟨e, _⟩ | ⟨g, cap, cur, e, _⟩
            · exact ⟨_, _, _, e⟩
            · exact ⟨_, _, _, e⟩
          have hlt3 : bx < w3.heap.size := H3.out.1.lt
          have hbx10 : Blk w10 bx 29 (caseC ⟨v.own, vf, vc, vo, vm⟩).toArray := (gr10.block bx H9.out.2.2.2.2.1.lt (fun e => by have := (owned_ltN H9.out.1 e.symm).1; omega)).trans H9.out.2.2.2.2.1
          have cl10 : w10.cell? ⟨bx, 22, none⟩ = some vo := (case_cellsT (v := ⟨v.own, vf, vc, vo, vm⟩) ho hbx10).2.2.1
          have fr10 := hbx10.frozen 22
          have lt10 := hbx10.lt
          obtain ⟨w11, hw11⟩ : ∃ w11, w11 = w10.setCell ⟨bx, 22, none⟩ (.slice A10 m10 c10) := ⟨_, rfl⟩
          have hbx11 : Blk w11 bx 29 (caseC ⟨v.own, vf, vc, .slice A10 m10 c10, vm⟩).toArray := by rw [hw11]; have h := hbx10.set_ 22 (.slice A10 m10 c10); rwa [caseC_set (v := ⟨v.own, vf, vc, vo, vm⟩) ho] at h
          have hoth : ∀ b, b ≠ bx → w11.heap[b]? = w10.heap[b]? := fun b hb => by rw [hw11]; exact Below.heap_setCell w10 _ _ b (fun e => hb e)
          have hsz11 : w11.heap.size = w10.heap.size := by rw [hw11]; simp [World.setCell]
          have hg11 : w10.grownBy w11 (some bx) := ⟨by rw [hw11]; rfl, by rw [hw11]; rfl, by rw [hw11]; rfl, by omega, fun k _ hne => hoth k (fun e => hne (by rw [e]))⟩
          have hw3i : w3.heap.size ≤ wi.heap.size := H4.out.2.2.2.2.2.size
          have hgr10 : w3.grownBy w10 (some bx) := by
            have h1 := grownBy_below H4.out.2.2.2.2.2 (Below.mono H9.out.2.2.2.1 hw3i)
            refine ⟨gr10.os.trans h1.os, gr10.tape.trans h1.tape, gr10.output.trans h1.output, Nat.le_trans h1.size gr10.size, fun b hb hne => (gr10.block b (by have := h1.size; omega) (fun e => ?_)).trans (h1.block b hb hne)⟩
            have := (owned_ltN H9.out.1 e.symm).1
            omega
          have hgr11 := grownBy_trans hgr10 hg11
          have hwb : w.heap.size ≤ bx := by have := H3.out.2.2; have := HLO.out; omega
          have kp1 : KeepO w 55 wo w9 := KeepO.of_below H9.out.2.2.1 H9.out.2.2.2.2.2.2
          have kp2 : KeepO w 55 w9 w10 := KeepO.of_grown H9.out.1 gr10 (by omega) ⟨by decide, by decide⟩ (Nat.le_trans H9.out.2.2.2.2.2.2 H9.out.2.2.1.size)
          have kp3 : KeepO w 55 w10 w11 := KeepO.of_one (b := bx) (by omega) (fun b hb _ => hoth b hb) hbx10 hwb ⟨by decide, by decide⟩
          have kp := kp1.trans (kp2.trans kp3)
          have kp0 : KeepO w 55 wi wo := KeepO.of_below HBE.out (by have := HLO.out; omega)
          have hrq11 : ∀ y ∈ rows ++ [(os, Value.slice A5 m5 c5)], RowQ 55 (LentQ) w11 y.2 y.1 := by
            intro y hy
            rcases List.mem_append.1 hy with hy | hy
            · exact (H4.out.2.2.2.1 y hy).keep (lentQ_ok w) (kp0.trans kp)
            · rw [List.mem_singleton.1 hy]
              exact H9.out.2.2.2.2.2.1.keep (lentQ_ok w) kp
          have own11 : w11.ownsRow w3.heap.size 57 1 (.slice A10 m10 c10) (i + 1) (flR rows ++ [.slice A5 m5 c5]) := owned_keepN own10 fun g hg _ => hoth g fun e => by have := (owned_ltN own10 hg).1; omega
          have H11 := hide (And.intro hbx11 (And.intro own11 (And.intro hrq11 hgr11)))
          have HW11 := hide hw11
          clear hbx10 hbx11 own10 own11 hrq11 hgr11 hgr10 hg11 hoth hsz11 kp kp0 kp1 kp2 kp3 gr10 hlt3 hw11 hw3i hwb
          go_wp2_with fail
          rw [← HW11.out]
          go_roundw
          case rel => exact ⟨i + 1, .slice A10 m10 c10, rows ++ [(os, .slice A5 m5 c5)], by omega, by go_num, by rw [List.map_append, H4.out.1, List.take_add_one, HR.out.2.1]; rfl, H11.out.1, by rw [flR_snoc]; exact H11.out.2.1, H11.out.2.2.1, H11.out.2.2.2⟩
          case measure => simp [intOf]; omega
    · obtain rfl : i = c.opts.length := by omega
      have hrm := H4.out.1
      rw [List.take_length] at hrm
      have hln : rows.length = c.opts.length := by rw [← hrm, List.length_map]
      obtain ⟨Av, mv, cvv, rfl⟩ : ∃ A m c, vo = .slice A m c := by
        rcases owned_formN H4.out.2.2.1 with ⟨e, _⟩ | ⟨g, cap, cur, e, _⟩
        · exact ⟨_, _, _, e⟩
        · exact ⟨_, _, _, e⟩
      have HRM := hide (And.intro hrm hln)
      clear hrm hln
      have hrb : Blk wi w1.heap.size 29 zcL.toArray := (H4.out.2.2.2.2.1.block w1.heap.size (by have := HZ.out; omega)).trans H2.out.2.2.1
      have HRB := hide hrb
      clear hrb
      have hcz := csz (v := ⟨v.own, vf, vc, .slice Av mv cvv, vm⟩) ho
      have hall : (caseC ⟨v.own, vf, vc, .slice Av mv cvv, vm⟩).toArray.all (·.oneCell') = true := all_oneCell_toArray (caseC_one HCO.out.1 HCO.out.2.1 rfl HCO.out.2.2)
      have hzz : zcL.toArray.size = (caseC ⟨v.own, vf, vc, .slice Av mv cvv, vm⟩).toArray.size := by rw [List.size_toArray, List.size_toArray, caseC_len (c := ⟨v.own, vf, vc, .slice Av mv cvv, vm⟩) ho]; rfl
      have HZZ := hide (And.intro hcz (And.intro hall hzz))
      clear hcz hall hzz
      go_wp2_with (first | (refine wpList_value (o := ⟨some 66, _, _, _, _, _⟩) rfl (.agg (caseC ⟨v.own, vf, vc, .slice Av mv cvv, vm⟩).toArray) wi (exec_load_blk (o := ⟨some 66, _, _, _, _, _⟩) 29 (.tmp 3) rfl bx rfl 29 _ _ wi H4.out.2.1 Try.underlying29 rfl HZZ.out.1) ?_) | (with_reducible refine wpList_store_blkA (o := ⟨none, _, _, _, _, _⟩) rfl 29 (.tmp 2) (.tmp 66) rfl w1.heap.size zcL.toArray (caseC ⟨v.own, vf, vc, .slice Av mv cvv, vm⟩).toArray 29 HRB.out ?s1 ?s2 ?s3 ?s4 ?s5 ?s6))
      case s1 => exact HZZ.out.1
      case s2 => exact HZZ.out.2.2
      case s3 => exact HZZ.out.2.1
      intro w12 hk12 hg12
      have hw1 : w.heap.size ≤ w1.heap.size := by have := HZ.out; omega
      have kp : KeepO w 55 wi w12 := KeepO.of_one (b := w1.heap.size) hg12.size (fun b hb hl => hg12.block b hl fun e => hb (Option.some.inj e)) HRB.out hw1 ⟨by decide, by decide⟩
      have hb12 : Below w.heap.size w w12 := (H2.out.1.trans (Below.mono H4.out.2.2.2.2.1 H2.out.1.size)).grown hg12 (by have := H4.out.2.2.2.2.1.size; have := HZ.out; omega) (fun b hb => by injection hb with hb; omega)
      have hw12 : w.heap.size ≤ w12.heap.size := hb12.size
      have hown12 : w12.ownsRow w3.heap.size 57 1 (.slice Av mv cvv) rows.length (flR rows) := by rw [HRM.out.2]; exact owned_keepN H4.out.2.2.1 fun g hg hl => hg12.block g hl fun e => by have := (owned_ltN H4.out.2.2.1 hg).1; have e := Option.some.inj e; have := H3.out.2.1.size; have := HZ.out; omega
      have hrq12 : ∀ y ∈ rows, RowQ 55 (LentQ) w12 y.2 y.1 := fun y hy => (H4.out.2.2.2.1 y hy).keep (lentQ_ok w) kp
      have hat12 : rowsLay.At w12 w12.heap.size [.slice Av mv cvv] c.opts := rowsQ_at (lentQ_ok w) HRM.out.1 hown12 hrq12 hw12
      have hal : ∀ b, b < w3.heap.size → b ≠ bx → b ≠ w1.heap.size → w12.heap[b]? = w3.heap[b]? := fun b hb h1 h2 => (hg12.block b (Nat.lt_of_lt_of_le hb H4.out.2.2.2.2.2.size) (fun e => h2 (Option.some.inj e))).trans (H4.out.2.2.2.2.2.block b hb (fun e => h1 (Option.some.inj e)))
      have hz1 : Blk w3 w1.heap.size 29 zcL.toArray := (H3.out.2.1.block w1.heap.size (by have := HZ.out; omega)).trans H2.out.2.2.1
      have hp3 : ∀ b cs e, e ≠ 29 → Blk w3 b e cs → Blk w12 b e cs := fun b cs e he hb => by
        have hn : ∀ g cs', Blk w3 g 29 cs' → b ≠ g := fun g cs' h4 e9 => by
          subst e9
          have h3 : w3.heap[b]? = some (.cells cs e (0, 0)) := hb
          have h4 : w3.heap[b]? = some (.cells cs' 29 (0, 0)) := h4
          rw [h3] at h4
          injection h4 with h4
          injection h4 with _ h4
          exact he h4
        exact (hal b hb.lt (hn _ _ H3.out.1) (hn _ _ hz1)).trans hb
      have hf3 : LentQ w12 vf c.fixed := by obtain ⟨g, e, h1, h2⟩ := HL3.out.1; exact ⟨g, e, hp3 _ _ _ (by decide) h1, h2⟩
      have hm4 : LentM w12 vm c.of := by obtain ⟨g, e, h1, h2⟩ := HL3.out.2.2; exact ⟨g, e, hp3 _ _ _ (by decide) h1, h2⟩
      have hc3 : w12.ownsRow w2.heap.size 23 20 vc c.cls.length (hashCells c.cls) := by
        have h := HL3.out.2.1
        rcases owned_formN h with ⟨rfl, h4, h5⟩ | ⟨g, cap, cur, rfl, hbg, hnc, hcm, hg, hcs, htake, _⟩
        · exact ⟨h.1, .inl ⟨rfl, h4⟩⟩
        · exact ⟨h.1, .inr ⟨g, cap, cur, rfl, hbg, hp3 _ _ _ (by decide) hg, hnc, hcm, hcs, htake⟩⟩
      have hC12 : CaseAt w12.heap.size w12 ⟨v.own, vf, vc, .slice Av mv cvv, vm⟩ c := ⟨HA.out.1.own, HA.out.1.okO, hf3.paths, own_slice (L := hashLay) (f := bv) (by decide) hc3 _ (Nat.le_refl _) (fun x hx => ⟨rfl, HOKC.out x hx⟩), hat12, hm4.mades⟩
      have hL12 : LentAt w12 ⟨v.own, vf, vc, .slice Av mv cvv, vm⟩ c := ⟨hf3, hm4, rowsQ_at (lentQ_ok2 w) HRM.out.1 hown12 hrq12 hw12⟩
      have H12 := hide (And.intro hk12 (And.intro hC12 (And.intro hL12 hb12)))
      clear hk12 hg12 hC12 hL12 hb12 hw12 kp hown12 hrq12 hat12 hw1 hal hz1 hp3 hf3 hm4 hc3
      go_wp2_with fail
      refine bodyPost_ret (results_cell_row rfl _ _ w1.heap.size 29 (caseC ⟨v.own, vf, vc, .slice Av mv cvv, vm⟩).toArray (0, 0) _ rfl H12.out.1 Try.underlying29 rfl HZZ.out.1) rfl ⟨_, rfl, H12.out.2⟩
end Go.Proofs.Ytfppddnfdinipaa
end
section
namespace Go.Proofs.Ytfppddnfdinipaa
open Go Go.RowKit Go.Maps
set_option maxRecDepth 100000
theorem bin_ne_hash (a b : Hsh) (ha : okH a) (hb : okH b) (w : World) : (binOp .neq 23 (hV a) (hV b)).run Try.prog w = .ok (.bool (!decide (a = b))) w := by
  have h := eq_hash a b ha hb w
  unfold hV at h ⊢
  simp only [binOp, Sem.run_bind, h, Result.andThen_ok, Sem.run_pure]
theorem optLayQ_at {L : Lay (List Pth)} {w : World} {B : Nat} {cs : List Value} {o : Opt} (hL : ∀ {w B cs x}, L.At w B cs x → ∃ v, cs = [v]) (h : (optLayQ L).At w B cs o) : ∃ v, cs = oC o.1 v ∧ okP o.1 ∧ L.At w B [v] o.2 := by
  obtain ⟨c1, c2, rfl, h1, c3, c4, rfl, h3, h4⟩ := h
  have h4 : c4 = [] := h4
  subst h4
  obtain ⟨rfl, hp⟩ := pathLay_at.1 h1
  obtain ⟨v, rfl⟩ := hL h3
  exact ⟨v, by simp [oC], hp, h3⟩
theorem rowLayQ_at {L : Lay (List Pth)} {w : World} {B : Nat} {cs : List Value} {l : List Opt} (h : (rowLayQ L).At w B cs l) : ∃ v, cs = [v] ∧ (rowLayQ L).At w B [v] l := by
  have h' := h
  obtain ⟨A, cap, e, _⟩ := h'
  subst e
  exact ⟨_, rfl, h⟩
set_option maxHeartbeats 4000000 in
theorem kept_any (w : World) (v1 v2 : Cvs) (c : CaseP) (hc : c.size ≤ 120) (h1 : CaseAt w.heap.size w v1 c) (hL : LentAt w v1 c) (h2 : CaseAt w.heap.size w v2 c) :
    Calls Try.prog 18 #[.agg (caseC v1).toArray, .agg (caseC v2).toArray] w fun e w' => e = .returned (.bool true) ∧ Below w.heap.size w w' := by
  have ho := h1.okO
  obtain ⟨o1, f1, k1, p1, m1⟩ := v1
  obtain ⟨o2, f2, k2, p2, m2⟩ := v2
  obtain rfl : o1 = c.own := h1.own
  obtain rfl : o2 = c.own := h2.own
  obtain ⟨b1, b2, b3, b4, b5, b6, b7⟩ := CaseP.bounds hc
  obtain ⟨hok1, hok2, hok3, hok4⟩ := h1.oks
  obtain ⟨gf, hfe, hfb, _, _⟩ := hL.atF
  obtain rfl : f1 = _ := hfe
  obtain ⟨gm, hme, hmb, _, _⟩ := hL.atM
  obtain rfl : m1 = _ := hme
  obtain ⟨A1, cap1, rfl, _, _, _, hE1⟩ := slice_open (v := p1) hL.atO
  obtain ⟨A2, cap2, rfl, _, _, _, hE2⟩ := slice_open (v := p2) h2.atO
  obtain ⟨B1, ck1, rfl, _, _, _, hG1⟩ := slice_open (v := k1) h1.atC
  obtain ⟨B2, ck2, rfl, _, _, _, hG2⟩ := slice_open (v := k2) h2.atC
  obtain ⟨Af, capf, rfl, _⟩ := slice_open (v := f2) h2.atF
  obtain ⟨Am, capm, rfl, _⟩ := slice_open (v := m2) h2.atM
  obtain ⟨v1, hv1⟩ : ∃ v1 : Cvs, v1 = ⟨c.own, .slice (some ⟨gf, 0, none⟩) c.fixed.length (c.fixed.length + 12), .slice B1 c.cls.length ck1, .slice A1 c.opts.length cap1, .slice (some ⟨gm, 0, none⟩) c.of.length (c.of.length + 12)⟩ := ⟨_, rfl⟩
  obtain ⟨v2, hv2⟩ : ∃ v2 : Cvs, v2 = ⟨c.own, .slice Af c.fixed.length capf, .slice B2 c.cls.length ck2, .slice A2 c.opts.length cap2, .slice Am c.of.length capm⟩ := ⟨_, rfl⟩
  rw [← hv1, ← hv2]
  obtain ⟨w1, hw1⟩ : ∃ w1, w1 = w.alloc (.cells (caseC v1).toArray 29) := ⟨_, rfl⟩
  obtain ⟨w2, hw2⟩ : ∃ w2, w2 = w1.alloc (.cells (caseC v2).toArray 29) := ⟨_, rfl⟩
  have hb1 : Below w.heap.size w w1 := by rw [hw1]; exact (Below.refl _ w).alloc (Nat.le_refl _) _
  have hk1 : Blk w1 w.heap.size 29 (caseC v1).toArray := by rw [hw1]; exact Blk.new _ _ _
  have hz1 : w1.heap.size = w.heap.size + 1 := by rw [hw1, size_alloc]
  have hb2 : Below w1.heap.size w1 w2 := by rw [hw2]; exact (Below.refl _ w1).alloc (Nat.le_refl _) _
  have hk2 : Blk w2 w1.heap.size 29 (caseC v2).toArray := by rw [hw2]; exact Blk.new _ _ _
  have hz2 : w2.heap.size = w.heap.size + 2 := by rw [hw2, size_alloc, hz1]
  have hb := hb1.trans (Below.mono hb2 hb1.size)
  have hk := hk1.below hb2 (by omega)
  have ho1 : okH v1.own := by rw [hv1]; exact ho
  have ho2 : okH v2.own := by rw [hv2]; exact ho
  have hc1 := case_cellsT ho1 hk
  have hc2 := case_cellsT ho2 hk2
  have hr1 : w2.rangeAt w.heap.size 0 (bv c.own) := by have h := rangeAt_own hk; rwa [hv1] at h
  have hr2 : w2.rangeAt w1.heap.size 0 (bv c.own) := by have h := rangeAt_own hk2; rwa [hv2] at h
  have hE1' : 0 < c.opts.length → ∃ b off, A1 = some ⟨b, off, none⟩ ∧ b < w.heap.size ∧ ElemsAt (rowLayQ lentLay) w w.heap.size b off c.opts := hE1
  have HK := hide (And.intro hr1 hr2)
  rw [hv1] at hc1
  rw [hv2] at hc2
  have HC1 := hide hc1
  have HC2 := hide hc2
  have HB0 := hide hb
  have HZ := hide (And.intro hz1 hz2)
  have HO := hide ho
  have HE := hide (And.intro hE1' hE2)
  have HG := hide (And.intro hG1 hG2)
  have HOK := hide (And.intro hok2 hok4)
  have HF := hide (And.intro hc1.1 (And.intro hc2.1 (And.intro hc1.2.2.2 hc2.2.2.2)))
  have al : ∀ b, b < w.heap.size → w2.heap[b]? = w.heap[b]? := fun b hb9 => hb.block b hb9
  have HFX := hide (And.intro (show c.fixed.length ≤ 1000000 by omega) (And.intro hok1 (And.intro ((al gf hfb.lt).trans hfb) (And.intro (show gf < w2.heap.size by have := hfb.lt; omega) (pathsLay.alike h2.atF al)))))
  have HMX := hide (And.intro (show c.of.length ≤ 1000000 by omega) (And.intro hok3 (And.intro ((al gm hmb.lt).trans hmb) (And.intro (show gm < w2.heap.size by have := hmb.lt; omega) (madesLay.alike h2.atM al)))))
  have AL := hide al
  have HW1 := hide hw1
  have HW2 := hide hw2
  have hszo : (Try.prog.info? 23).map (·.size) = some (bv c.own).length := by have := hsz ho; simpa using this
  have o9 : (c.opts.length : Int) ≤ 120 := by omega
  have k9 : (c.cls.length : Int) ≤ 120 := by omega
  clear h1 h2 hL hb hk hb1 hk1 hb2 hk2 hw1 hw2 hc1 hc2 hr1 hr2 hE1 hE1' hE2 hG1 hG2 hok1 hok2 hok3 hok4 hfb hmb al ho1 ho2 hv1 hv2 hz1 hz2 ho
  go_enter Try.func18, Try.ntmps18
  go_wp2_with (first | (refine wpList_value (o := ⟨some 2, _, _, _, _, _⟩) rfl (.pointer (some ⟨w.heap.size, 0, none⟩)) w1 (by rw [HW1.out]; kernel_rfl) ?_) | (refine wpList_value (o := ⟨some 3, _, _, _, _, _⟩) rfl (.pointer (some ⟨w1.heap.size, 0, none⟩)) w2 (by rw [HW2.out]; kernel_rfl) ?_))
  go_loopw [5] (fun x wr => ∃ i : Nat, i ≤ c.opts.length ∧ x = .int .i64 ((i : Nat) : Int) ∧ Below w2.heap.size w2 wr) (fun x _ => c.opts.length - (intOf x).toNat)
  case atStart => exact ⟨0, by omega, rfl, Below.refl _ _⟩
  case round =>
    obtain ⟨wi, rfl⟩ : ∃ wi, wi = wr := ⟨_, rfl⟩
    obtain ⟨i, hi, rfl, hb⟩ := hrel
    have HBI := hide hb
    have c22 : wi.cell? ⟨w1.heap.size, 22, none⟩ = some (.slice A2 c.opts.length cap2) := (World.cell?_of_block (hb.block w1.heap.size (by have := HZ.out; omega))).trans HC2.out.2.2.1
    clear hb
    have i0 : (0 : Int) ≤ (i : Int) := by omega
    by_cases hi2 : i < c.opts.length
    · have i1 : (i : Int) < (c.opts.length : Int) := by omega
      obtain ⟨os, hos⟩ : ∃ os, c.opts[i]? = some os := ⟨_, List.getElem?_eq_getElem hi2⟩
      obtain ⟨hol, hxl⟩ := b7 os (List.mem_of_getElem? hos)
      have HE' := HE.out
      obtain ⟨⟨p1, q1, rfl, hl1, hEo1⟩, ⟨p2, q2, rfl, hl2, hEo2⟩⟩ := And.intro (HE'.1 (by omega)) (HE'.2 (by omega))
      obtain ⟨cs1, hr1, hat1⟩ := hEo1 i os hos
      obtain ⟨vr1, rfl, hat1⟩ := rowLayQ_at hat1
      obtain ⟨Ar1, cr1, rfl, _, _, _, hA1⟩ := slice_open hat1
      obtain ⟨cs2, hr2, hat2⟩ := hEo2 i os hos
      obtain ⟨vr2, rfl, hat2⟩ := rowLay_at hat2
      obtain ⟨Ar2, cr2, rfl, _, _, _, hA2⟩ := slice_open hat2
      have e1 : w2.cell? ⟨p1, q1 + i, none⟩ = some (.slice Ar1 os.length cr1) := by
        have h9 : w.cell? ⟨p1, q1 + i * 1 + 0, none⟩ = some (.slice Ar1 os.length cr1) := hr1 0 _ rfl
        rw [Nat.mul_one, Nat.add_zero] at h9
        exact (World.cell?_of_block (AL.out p1 hl1)).trans h9
      have e2 : w2.cell? ⟨p2, q2 + i, none⟩ = some (.slice Ar2 os.length cr2) := by
        have h9 : w.cell? ⟨p2, q2 + i * 1 + 0, none⟩ = some (.slice Ar2 os.length cr2) := hr2 0 _ rfl
        rw [Nat.mul_one, Nat.add_zero] at h9
        exact (World.cell?_of_block (AL.out p2 hl2)).trans h9
      have HEO := hide (And.intro hA1 hA2)
      have HRR := hide (And.intro e1 (And.intro e2 (And.intro hl1 hl2)))
      have HOS := hide (And.intro hos hxl)
      have m9 : (os.length : Int) ≤ 120 := by omega
      clear e1 e2 hA1 hA2 hr1 hr2 hat1 hat2 hEo1 hEo2 HE' hos hxl hl1 hl2
      go_wp2_with fail
      go_loopw [6] (fun x wr => ∃ k : Nat, k ≤ os.length ∧ x = .int .i64 ((k : Nat) : Int) ∧ Below w2.heap.size w2 wr) (fun x _ => os.length - (intOf x).toNat)
      case atStart => exact ⟨0, by omega, rfl, HBI.out⟩
      case round =>
        obtain ⟨wo, rfl⟩ : ∃ wo, wo = wr := ⟨_, rfl⟩
        obtain ⟨k, hk, rfl, hb⟩ := hrel
        have HB := hide hb
        clear hb c22
        have HD := hide (show wo.cell? ⟨w1.heap.size, 22, none⟩ = some (.slice (some ⟨p2, q2, none⟩) c.opts.length cap2) ∧ wo.cell? ⟨p2, q2 + i, none⟩ = some (.slice Ar2 os.length cr2) from ⟨(World.cell?_of_block (HB.out.block w1.heap.size (by have := HZ.out; omega))).trans HC2.out.2.2.1, (World.cell?_of_block (HB.out.block p2 (by have := HZ.out; have := HRR.out.2.2.2; omega))).trans HRR.out.2.1⟩)
        have k0 : (0 : Int) ≤ (k : Int) := by omega
        by_cases hk2 : k < os.length
        · have k1 : (k : Int) < (os.length : Int) := by omega
          obtain ⟨x, hx⟩ : ∃ x, os[k]? = some x := ⟨_, List.getElem?_eq_getElem hk2⟩
          have HEO' := HEO.out
          obtain ⟨⟨r1, s1, rfl, hlr1, hEr1⟩, ⟨r2, s2, rfl, hlr2, hEr2⟩⟩ := And.intro (HEO'.1 (by omega)) (HEO'.2 (by omega))
          obtain ⟨cs1, hr1, hat1⟩ := hEr1 k x hx
          obtain ⟨cv1, rfl, hpx, hac1⟩ := optLayQ_at (fun h => by obtain ⟨g, e, _⟩ := h; exact ⟨_, e⟩) hat1
          obtain ⟨gq, ecq, hgq, hbq⟩ := hac1
          obtain rfl : cv1 = _ := (List.cons.inj ecq).1
          obtain ⟨cs2, hr2, hat2⟩ := hEr2 k x hx
          obtain ⟨cv2, rfl, _, hac2⟩ := optLay_at hat2
          obtain ⟨Aq, cq, rfl, _⟩ := slice_open hac2
          obtain ⟨t1, t2⟩ := opt_parts hpx (rangeAt_same hr1 (AL.out r1 hlr1))
          obtain ⟨t3, t4⟩ := opt_parts hpx (rangeAt_same hr2 (AL.out r2 hlr2))
          have HX1 := hide (And.intro t1 (And.intro t2 hlr1))
          have HX2 := hide (And.intro t3 (And.intro t4 hlr2))
          have HP := hide hpx
          have HQ := hide (And.intro (show x.2.length ≤ 1000000 by have := HOS.out.2 x (List.mem_of_getElem? hx); omega) (And.intro (fun q hq => (HOK.out.2 os (List.mem_of_getElem? HOS.out.1) x (List.mem_of_getElem? hx)).2 q hq) (And.intro ((AL.out gq hgq).trans hbq) (And.intro (show gq < w2.heap.size by have := HZ.out; omega) (pathsLay.alike hac2 AL.out)))))
          have HR1 := hide (And.intro HRR.out.1 (And.intro HRR.out.2.2.1 trivial))
          have HR2 := hide (And.intro HRR.out.2.1 (And.intro HRR.out.2.2.2 trivial))
          have HC := hide (And.intro HC1.out.2.2.1 (And.intro HC2.out.2.2.1 trivial))
          have hszp : (Try.prog.info? 53).map (·.size) = some (pC x.1).length := by have := psz hpx; simpa using this
          clear hx HEO' hEr1 hEr2 hat1 hat2 hr1 hr2 t1 t2 t3 t4 hac2 hgq hbq hlr1 hlr2 hpx ecq
          go_wp2_with (first | (refine wpList_value (o := ⟨some 17, _, _, _, _, _⟩) rfl (.slice (some ⟨p2, q2, none⟩) c.opts.length cap2) wo (exec_load_cell (o := ⟨some 17, _, _, _, _, _⟩) 26 (.tmp 16) rfl ⟨w1.heap.size, 22, none⟩ rfl _ _ wo Try.underlying26 rfl HD.out.1) ?_) | (refine wpList_value (o := ⟨some 19, _, _, _, _, _⟩) rfl (.pointer (some ⟨p2, q2 + (i : Int).toNat * 1, none⟩)) wo (exec_index_off (o := ⟨some 19, _, _, _, _, _⟩) 26 57 (.tmp 17) (.tmp 18) rfl p2 q2 c.opts.length cap2 (i : Int) .i64 rfl rfl ⟨i0, i1⟩ 1 Try.underlying26 sz_row wo) ?_; rw [show q2 + (i : Int).toNat * 1 = q2 + i by omega]) | (refine wpList_value (o := ⟨some 20, _, _, _, _, _⟩) rfl (.slice (some ⟨r2, s2, none⟩) os.length cr2) wo (exec_load_cell (o := ⟨some 20, _, _, _, _, _⟩) 57 (.tmp 19) rfl ⟨p2, q2 + i, none⟩ rfl _ _ wo Try.underlying57 rfl HD.out.2) ?_))
          refine Fre.wp_made (X := Blw) 40 [] (by kernel_rfl) (by kernel_rfl) (by simp) (by simp) (by simp) ?_
          simp only [List.take_succ_cons, List.take_zero, List.drop_succ_cons, List.drop_zero]
          refine Fre.made_val (.pointer (some ⟨w.heap.size, 22, none⟩)) (by kernel_rfl) (by kernel_rfl) (by kernel_rfl) (fun _ _ => by kernel_rfl) ?_
          simp only [Act.put, List.setIfInBounds_toArray, List.set_cons_zero, List.set_cons_succ]
          refine Fre.made_val (.slice (some ⟨p1, q1, none⟩) c.opts.length cap1) (by kernel_rfl) (by kernel_rfl) (by kernel_rfl) (fun W9 hW9 => exec_load_cell (o := ⟨some 26, _, _, _, _, _⟩) 26 (.tmp 25) rfl ⟨w.heap.size, 22, none⟩ rfl _ _ W9 Try.underlying26 rfl (by have h9 : Below _ wo W9 := hW9; rw [World.cell?_of_block ((h9.block (w.heap.size) (by have := HB.out.size; have := HZ.out; have := HZ.out; omega)).trans (HB.out.block _ (by have := HZ.out; have := HZ.out; omega)))]; exact HC.out.1)) ?_
          simp only [Act.put, List.setIfInBounds_toArray, List.set_cons_zero, List.set_cons_succ]
          refine Fre.made_val (.int .i64 (i : Int)) (by kernel_rfl) (by kernel_rfl) (by kernel_rfl) (fun _ _ => by kernel_rfl) ?_
          simp only [Act.put, List.setIfInBounds_toArray, List.set_cons_zero, List.set_cons_succ]
          refine Fre.made_val (.pointer (some ⟨p1, q1 + (i : Int).toNat * 1, none⟩)) (by kernel_rfl) (by kernel_rfl) (by kernel_rfl) (fun W9 _ => exec_index_off (o := ⟨some 28, _, _, _, _, _⟩) 26 57 (.tmp 26) (.tmp 27) rfl p1 q1 c.opts.length cap1 (i : Int) .i64 rfl rfl ⟨i0, i1⟩ 1 Try.underlying26 sz_row W9) ?_
          simp only [Act.put, List.setIfInBounds_toArray, List.set_cons_zero, List.set_cons_succ]
          rw [show q1 + (i : Int).toNat * 1 = q1 + i by omega]
          refine Fre.made_val (.slice (some ⟨r1, s1, none⟩) os.length cr1) (by kernel_rfl) (by kernel_rfl) (by kernel_rfl) (fun W9 hW9 => exec_load_cell (o := ⟨some 29, _, _, _, _, _⟩) 57 (.tmp 28) rfl ⟨p1, q1 + i, none⟩ rfl _ _ W9 Try.underlying57 rfl (by have h9 : Below _ wo W9 := hW9; rw [World.cell?_of_block ((h9.block (p1) (by have := HB.out.size; have := HZ.out; have := HR1.out.2.1; omega)).trans (HB.out.block _ (by have := HZ.out; have := HR1.out.2.1; omega)))]; exact HR1.out.1)) ?_
          simp only [Act.put, List.setIfInBounds_toArray, List.set_cons_zero, List.set_cons_succ]
          refine Fre.made_val (.int .i64 (k : Int)) (by kernel_rfl) (by kernel_rfl) (by kernel_rfl) (fun _ _ => by kernel_rfl) ?_
          simp only [Act.put, List.setIfInBounds_toArray, List.set_cons_zero, List.set_cons_succ]
          refine Fre.made_val (.pointer (some ⟨r1, s1 + (k : Int).toNat * 22, none⟩)) (by kernel_rfl) (by kernel_rfl) (by kernel_rfl) (fun W9 _ => exec_index_off (o := ⟨some 31, _, _, _, _, _⟩) 57 55 (.tmp 29) (.tmp 30) rfl r1 s1 os.length cr1 (k : Int) .i64 rfl rfl ⟨k0, k1⟩ 22 Try.underlying57 sz_opt W9) ?_
          simp only [Act.put, List.setIfInBounds_toArray, List.set_cons_zero, List.set_cons_succ]
          rw [show s1 + (k : Int).toNat * 22 = s1 + k * 22 by omega]
          refine Fre.made_val (.pointer (some ⟨r1, s1 + k * 22, none⟩)) (by kernel_rfl) (by kernel_rfl) (by kernel_rfl) (fun _ _ => by kernel_rfl) ?_
          simp only [Act.put, List.setIfInBounds_toArray, List.set_cons_zero, List.set_cons_succ]
          refine Fre.made_val (.agg (pC x.1).toArray) (by kernel_rfl) (by kernel_rfl) (by kernel_rfl) (fun W9 hW9 => exec_load_mid (o := ⟨some 33, _, _, _, _, _⟩) 53 (.tmp 32) rfl r1 (s1 + k * 22) rfl (pC x.1) _ W9 (rangeAt_same HX1.out.1 (by have h9 : Below _ wo W9 := hW9; exact (h9.block _ (by have := HB.out.size; have := HZ.out; have := HX1.out.2.2; omega)).trans (HB.out.block _ (by have := HZ.out; have := HX1.out.2.2; omega)))) Try.underlying53 rfl hszp) ?_
          simp only [Act.put, List.setIfInBounds_toArray, List.set_cons_zero, List.set_cons_succ]
          refine Fre.made_val (.pointer (some ⟨w1.heap.size, 22, none⟩)) (by kernel_rfl) (by kernel_rfl) (by kernel_rfl) (fun _ _ => by kernel_rfl) ?_
          simp only [Act.put, List.setIfInBounds_toArray, List.set_cons_zero, List.set_cons_succ]
          refine Fre.made_val (.slice (some ⟨p2, q2, none⟩) c.opts.length cap2) (by kernel_rfl) (by kernel_rfl) (by kernel_rfl) (fun W9 hW9 => exec_load_cell (o := ⟨some 35, _, _, _, _, _⟩) 26 (.tmp 34) rfl ⟨w1.heap.size, 22, none⟩ rfl _ _ W9 Try.underlying26 rfl (by have h9 : Below _ wo W9 := hW9; rw [World.cell?_of_block ((h9.block (w1.heap.size) (by have := HB.out.size; have := HZ.out; have := HZ.out; omega)).trans (HB.out.block _ (by have := HZ.out; have := HZ.out; omega)))]; exact HC.out.2.1)) ?_
          simp only [Act.put, List.setIfInBounds_toArray, List.set_cons_zero, List.set_cons_succ]
          refine Fre.made_val (.int .i64 (i : Int)) (by kernel_rfl) (by kernel_rfl) (by kernel_rfl) (fun _ _ => by kernel_rfl) ?_
          simp only [Act.put, List.setIfInBounds_toArray, List.set_cons_zero, List.set_cons_succ]
          refine Fre.made_val (.pointer (some ⟨p2, q2 + (i : Int).toNat * 1, none⟩)) (by kernel_rfl) (by kernel_rfl) (by kernel_rfl) (fun W9 _ => exec_index_off (o := ⟨some 37, _, _, _, _, _⟩) 26 57 (.tmp 35) (.tmp 36) rfl p2 q2 c.opts.length cap2 (i : Int) .i64 rfl rfl ⟨i0, i1⟩ 1 Try.underlying26 sz_row W9) ?_
          simp only [Act.put, List.setIfInBounds_toArray, List.set_cons_zero, List.set_cons_succ]
          rw [show q2 + (i : Int).toNat * 1 = q2 + i by omega]
          refine Fre.made_val (.slice (some ⟨r2, s2, none⟩) os.length cr2) (by kernel_rfl) (by kernel_rfl) (by kernel_rfl) (fun W9 hW9 => exec_load_cell (o := ⟨some 38, _, _, _, _, _⟩) 57 (.tmp 37) rfl ⟨p2, q2 + i, none⟩ rfl _ _ W9 Try.underlying57 rfl (by have h9 : Below _ wo W9 := hW9; rw [World.cell?_of_block ((h9.block (p2) (by have := HB.out.size; have := HZ.out; have := HR2.out.2.1; omega)).trans (HB.out.block _ (by have := HZ.out; have := HR2.out.2.1; omega)))]; exact HR2.out.1)) ?_
          simp only [Act.put, List.setIfInBounds_toArray, List.set_cons_zero, List.set_cons_succ]
          refine Fre.made_val (.int .i64 (k : Int)) (by kernel_rfl) (by kernel_rfl) (by kernel_rfl) (fun _ _ => by kernel_rfl) ?_
          simp only [Act.put, List.setIfInBounds_toArray, List.set_cons_zero, List.set_cons_succ]
          refine Fre.made_val (.pointer (some ⟨r2, s2 + (k : Int).toNat * 22, none⟩)) (by kernel_rfl) (by kernel_rfl) (by kernel_rfl) (fun W9 _ => exec_index_off (o := ⟨some 40, _, _, _, _, _⟩) 57 55 (.tmp 38) (.tmp 39) rfl r2 s2 os.length cr2 (k : Int) .i64 rfl rfl ⟨k0, k1⟩ 22 Try.underlying57 sz_opt W9) ?_
          simp only [Act.put, List.setIfInBounds_toArray, List.set_cons_zero, List.set_cons_succ]
          rw [show s2 + (k : Int).toNat * 22 = s2 + k * 22 by omega]
          refine Fre.made_val (.pointer (some ⟨r2, s2 + k * 22, none⟩)) (by kernel_rfl) (by kernel_rfl) (by kernel_rfl) (fun _ _ => by kernel_rfl) ?_
          simp only [Act.put, List.setIfInBounds_toArray, List.set_cons_zero, List.set_cons_succ]
          refine Fre.made_val (.agg (pC x.1).toArray) (by kernel_rfl) (by kernel_rfl) (by kernel_rfl) (fun W9 hW9 => exec_load_mid (o := ⟨some 42, _, _, _, _, _⟩) 53 (.tmp 41) rfl r2 (s2 + k * 22) rfl (pC x.1) _ W9 (rangeAt_same HX2.out.1 (by have h9 : Below _ wo W9 := hW9; exact (h9.block _ (by have := HB.out.size; have := HZ.out; have := HX2.out.2.2; omega)).trans (HB.out.block _ (by have := HZ.out; have := HX2.out.2.2; omega)))) Try.underlying53 rfl hszp) ?_
          simp only [Act.put, List.setIfInBounds_toArray, List.set_cons_zero, List.set_cons_succ]
          refine Fre.made_val (.bool false) (by kernel_rfl) (by kernel_rfl) (by kernel_rfl) (fun W9 hW9 => exec_binop_agg (o := ⟨some 43, _, _, _, _, _⟩) .neq 53 (.tmp 33) (.tmp 42) _ rfl (pC x.1).toArray (pC x.1).toArray rfl rfl (by kernel_rfl) _ (fun W => by have := bin_ne_path x.1 x.1 HP.out HP.out W; rw [decide_eq_true rfl] at this; exact this) W9) ?_
          simp only [Act.put, List.setIfInBounds_toArray, List.set_cons_zero, List.set_cons_succ]
          refine Fre.made_val (.bool false) (by kernel_rfl) (by kernel_rfl) (by kernel_rfl) (fun _ _ => by kernel_rfl) ?_
          simp only [Act.put, List.setIfInBounds_toArray, List.set_cons_zero, List.set_cons_succ]
          refine Fre.made_val (.pointer (some ⟨w.heap.size, 22, none⟩)) (by kernel_rfl) (by kernel_rfl) (by kernel_rfl) (fun _ _ => by kernel_rfl) ?_
          simp only [Act.put, List.setIfInBounds_toArray, List.set_cons_zero, List.set_cons_succ]
          refine Fre.made_val (.slice (some ⟨p1, q1, none⟩) c.opts.length cap1) (by kernel_rfl) (by kernel_rfl) (by kernel_rfl) (fun W9 hW9 => exec_load_cell (o := ⟨some 46, _, _, _, _, _⟩) 26 (.tmp 45) rfl ⟨w.heap.size, 22, none⟩ rfl _ _ W9 Try.underlying26 rfl (by have h9 : Below _ wo W9 := hW9; rw [World.cell?_of_block ((h9.block (w.heap.size) (by have := HB.out.size; have := HZ.out; have := HZ.out; omega)).trans (HB.out.block _ (by have := HZ.out; have := HZ.out; omega)))]; exact HC.out.1)) ?_
          simp only [Act.put, List.setIfInBounds_toArray, List.set_cons_zero, List.set_cons_succ]
          refine Fre.made_val (.int .i64 (i : Int)) (by kernel_rfl) (by kernel_rfl) (by kernel_rfl) (fun _ _ => by kernel_rfl) ?_
          simp only [Act.put, List.setIfInBounds_toArray, List.set_cons_zero, List.set_cons_succ]
          refine Fre.made_val (.pointer (some ⟨p1, q1 + (i : Int).toNat * 1, none⟩)) (by kernel_rfl) (by kernel_rfl) (by kernel_rfl) (fun W9 _ => exec_index_off (o := ⟨some 48, _, _, _, _, _⟩) 26 57 (.tmp 46) (.tmp 47) rfl p1 q1 c.opts.length cap1 (i : Int) .i64 rfl rfl ⟨i0, i1⟩ 1 Try.underlying26 sz_row W9) ?_
          simp only [Act.put, List.setIfInBounds_toArray, List.set_cons_zero, List.set_cons_succ]
          rw [show q1 + (i : Int).toNat * 1 = q1 + i by omega]
          refine Fre.made_val (.slice (some ⟨r1, s1, none⟩) os.length cr1) (by kernel_rfl) (by kernel_rfl) (by kernel_rfl) (fun W9 hW9 => exec_load_cell (o := ⟨some 49, _, _, _, _, _⟩) 57 (.tmp 48) rfl ⟨p1, q1 + i, none⟩ rfl _ _ W9 Try.underlying57 rfl (by have h9 : Below _ wo W9 := hW9; rw [World.cell?_of_block ((h9.block (p1) (by have := HB.out.size; have := HZ.out; have := HR1.out.2.1; omega)).trans (HB.out.block _ (by have := HZ.out; have := HR1.out.2.1; omega)))]; exact HR1.out.1)) ?_
          simp only [Act.put, List.setIfInBounds_toArray, List.set_cons_zero, List.set_cons_succ]
          refine Fre.made_val (.int .i64 (k : Int)) (by kernel_rfl) (by kernel_rfl) (by kernel_rfl) (fun _ _ => by kernel_rfl) ?_
          simp only [Act.put, List.setIfInBounds_toArray, List.set_cons_zero, List.set_cons_succ]
          refine Fre.made_val (.pointer (some ⟨r1, s1 + (k : Int).toNat * 22, none⟩)) (by kernel_rfl) (by kernel_rfl) (by kernel_rfl) (fun W9 _ => exec_index_off (o := ⟨some 51, _, _, _, _, _⟩) 57 55 (.tmp 49) (.tmp 50) rfl r1 s1 os.length cr1 (k : Int) .i64 rfl rfl ⟨k0, k1⟩ 22 Try.underlying57 sz_opt W9) ?_
          simp only [Act.put, List.setIfInBounds_toArray, List.set_cons_zero, List.set_cons_succ]
          rw [show s1 + (k : Int).toNat * 22 = s1 + k * 22 by omega]
          refine Fre.made_val (.pointer (some ⟨r1, s1 + k * 22 + 21, none⟩)) (by kernel_rfl) (by kernel_rfl) (by kernel_rfl) (fun _ _ => by kernel_rfl) ?_
          simp only [Act.put, List.setIfInBounds_toArray, List.set_cons_zero, List.set_cons_succ]
          refine Fre.made_val (.slice (some ⟨gq, 0, none⟩) x.2.length (x.2.length + 12)) (by kernel_rfl) (by kernel_rfl) (by kernel_rfl) (fun W9 hW9 => exec_load_cell (o := ⟨some 53, _, _, _, _, _⟩) 24 (.tmp 52) rfl ⟨r1, s1 + k * 22 + 21, none⟩ rfl _ _ W9 Try.underlying24 rfl (by have h9 : Below _ wo W9 := hW9; rw [World.cell?_of_block ((h9.block (r1) (by have := HB.out.size; have := HZ.out; have := HX1.out.2.2; omega)).trans (HB.out.block _ (by have := HZ.out; have := HX1.out.2.2; omega)))]; exact HX1.out.2.1)) ?_
          simp only [Act.put, List.setIfInBounds_toArray, List.set_cons_zero, List.set_cons_succ]
          refine Fre.made_val (.pointer (some ⟨w1.heap.size, 22, none⟩)) (by kernel_rfl) (by kernel_rfl) (by kernel_rfl) (fun _ _ => by kernel_rfl) ?_
          simp only [Act.put, List.setIfInBounds_toArray, List.set_cons_zero, List.set_cons_succ]
          refine Fre.made_val (.slice (some ⟨p2, q2, none⟩) c.opts.length cap2) (by kernel_rfl) (by kernel_rfl) (by kernel_rfl) (fun W9 hW9 => exec_load_cell (o := ⟨some 55, _, _, _, _, _⟩) 26 (.tmp 54) rfl ⟨w1.heap.size, 22, none⟩ rfl _ _ W9 Try.underlying26 rfl (by have h9 : Below _ wo W9 := hW9; rw [World.cell?_of_block ((h9.block (w1.heap.size) (by have := HB.out.size; have := HZ.out; have := HZ.out; omega)).trans (HB.out.block _ (by have := HZ.out; have := HZ.out; omega)))]; exact HC.out.2.1)) ?_
          simp only [Act.put, List.setIfInBounds_toArray, List.set_cons_zero, List.set_cons_succ]
          refine Fre.made_val (.int .i64 (i : Int)) (by kernel_rfl) (by kernel_rfl) (by kernel_rfl) (fun _ _ => by kernel_rfl) ?_
          simp only [Act.put, List.setIfInBounds_toArray, List.set_cons_zero, List.set_cons_succ]
          refine Fre.made_val (.pointer (some ⟨p2, q2 + (i : Int).toNat * 1, none⟩)) (by kernel_rfl) (by kernel_rfl) (by kernel_rfl) (fun W9 _ => exec_index_off (o := ⟨some 57, _, _, _, _, _⟩) 26 57 (.tmp 55) (.tmp 56) rfl p2 q2 c.opts.length cap2 (i : Int) .i64 rfl rfl ⟨i0, i1⟩ 1 Try.underlying26 sz_row W9) ?_
          simp only [Act.put, List.setIfInBounds_toArray, List.set_cons_zero, List.set_cons_succ]
          rw [show q2 + (i : Int).toNat * 1 = q2 + i by omega]
          refine Fre.made_val (.slice (some ⟨r2, s2, none⟩) os.length cr2) (by kernel_rfl) (by kernel_rfl) (by kernel_rfl) (fun W9 hW9 => exec_load_cell (o := ⟨some 58, _, _, _, _, _⟩) 57 (.tmp 57) rfl ⟨p2, q2 + i, none⟩ rfl _ _ W9 Try.underlying57 rfl (by have h9 : Below _ wo W9 := hW9; rw [World.cell?_of_block ((h9.block (p2) (by have := HB.out.size; have := HZ.out; have := HR2.out.2.1; omega)).trans (HB.out.block _ (by have := HZ.out; have := HR2.out.2.1; omega)))]; exact HR2.out.1)) ?_
          simp only [Act.put, List.setIfInBounds_toArray, List.set_cons_zero, List.set_cons_succ]
          refine Fre.made_val (.int .i64 (k : Int)) (by kernel_rfl) (by kernel_rfl) (by kernel_rfl) (fun _ _ => by kernel_rfl) ?_
          simp only [Act.put, List.setIfInBounds_toArray, List.set_cons_zero, List.set_cons_succ]
          refine Fre.made_val (.pointer (some ⟨r2, s2 + (k : Int).toNat * 22, none⟩)) (by kernel_rfl) (by kernel_rfl) (by kernel_rfl) (fun W9 _ => exec_index_off (o := ⟨some 60, _, _, _, _, _⟩) 57 55 (.tmp 58) (.tmp 59) rfl r2 s2 os.length cr2 (k : Int) .i64 rfl rfl ⟨k0, k1⟩ 22 Try.underlying57 sz_opt W9) ?_
          simp only [Act.put, List.setIfInBounds_toArray, List.set_cons_zero, List.set_cons_succ]
          rw [show s2 + (k : Int).toNat * 22 = s2 + k * 22 by omega]
          refine Fre.made_val (.pointer (some ⟨r2, s2 + k * 22 + 21, none⟩)) (by kernel_rfl) (by kernel_rfl) (by kernel_rfl) (fun _ _ => by kernel_rfl) ?_
          simp only [Act.put, List.setIfInBounds_toArray, List.set_cons_zero, List.set_cons_succ]
          refine Fre.made_val (.slice Aq x.2.length cq) (by kernel_rfl) (by kernel_rfl) (by kernel_rfl) (fun W9 hW9 => exec_load_cell (o := ⟨some 62, _, _, _, _, _⟩) 24 (.tmp 61) rfl ⟨r2, s2 + k * 22 + 21, none⟩ rfl _ _ W9 Try.underlying24 rfl (by have h9 : Below _ wo W9 := hW9; rw [World.cell?_of_block ((h9.block (r2) (by have := HB.out.size; have := HZ.out; have := HX2.out.2.2; omega)).trans (HB.out.block _ (by have := HZ.out; have := HX2.out.2.2; omega)))]; exact HX2.out.2.1)) ?_
          simp only [Act.put, List.setIfInBounds_toArray, List.set_cons_zero, List.set_cons_succ]
          refine Fre.made_call (.bool true) 54 #[.slice (some ⟨gq, 0, none⟩) x.2.length (x.2.length + 12), .slice Aq x.2.length cq] (by kernel_rfl) (by kernel_rfl) (by kernel_rfl) (fun W9 => by kernel_rfl) (fun W9 hW9 => ?hcl) ?_
          case hcl =>
            have h9 : Below _ wo W9 := hW9
            have hs9 : w.heap.size ≤ W9.heap.size := by have := h9.size; have := HB.out.size; have := HZ.out; omega
            refine (keptPaths_any x.2 HQ.out.1 _ gq w.heap.size W9 hs9 (pathsLay.alike HQ.out.2.2.2.2 fun b hb => (h9.block b (by have := HB.out.size; have := HZ.out; omega)).trans (HB.out.block b (by have := HZ.out; omega))) (((h9.block gq (by have := HB.out.size; have := HQ.out.2.2.2.1; omega)).trans (HB.out.block gq HQ.out.2.2.2.1)).trans HQ.out.2.2.1) HQ.out.2.1).mono ?_
            rintro e w' ⟨rfl, hb⟩
            exact ⟨rfl, hb⟩
          simp only [Act.put, List.setIfInBounds_toArray, List.set_cons_zero, List.set_cons_succ]
          refine Fre.made_val (.bool false) (by kernel_rfl) (by kernel_rfl) (by kernel_rfl) (fun _ _ => by kernel_rfl) ?_
          simp only [Act.put, List.setIfInBounds_toArray, List.set_cons_zero, List.set_cons_succ]
          show ∀ w', _ → _
          intro w4 hb
          simp only [Fre.ended]
          have H4 := hide (HB.out.trans (Below.mono (show Below wo.heap.size wo w4 from hb) HB.out.size))
          clear hb
          go_wp2_with fail
          go_roundw
          case rel => exact ⟨k + 1, by omega, by go_num, H4.out⟩
          case measure => simp [intOf]; omega
        · obtain rfl : k = os.length := by omega
          go_wp2_with (first | (refine wpList_value (o := ⟨some 17, _, _, _, _, _⟩) rfl (.slice (some ⟨p2, q2, none⟩) c.opts.length cap2) wo (exec_load_cell (o := ⟨some 17, _, _, _, _, _⟩) 26 (.tmp 16) rfl ⟨w1.heap.size, 22, none⟩ rfl _ _ wo Try.underlying26 rfl HD.out.1) ?_) | (refine wpList_value (o := ⟨some 19, _, _, _, _, _⟩) rfl (.pointer (some ⟨p2, q2 + (i : Int).toNat * 1, none⟩)) wo (exec_index_off (o := ⟨some 19, _, _, _, _, _⟩) 26 57 (.tmp 17) (.tmp 18) rfl p2 q2 c.opts.length cap2 (i : Int) .i64 rfl rfl ⟨i0, i1⟩ 1 Try.underlying26 sz_row wo) ?_; rw [show q2 + (i : Int).toNat * 1 = q2 + i by omega]) | (refine wpList_value (o := ⟨some 20, _, _, _, _, _⟩) rfl (.slice Ar2 os.length cr2) wo (exec_load_cell (o := ⟨some 20, _, _, _, _, _⟩) 57 (.tmp 19) rfl ⟨p2, q2 + i, none⟩ rfl _ _ wo Try.underlying57 rfl HD.out.2) ?_))
          go_roundw
          case rel => exact ⟨i + 1, by omega, by go_num, HB.out⟩
          case measure => simp [intOf]; omega
    · obtain rfl : i = c.opts.length := by omega
      go_wp2_with fail
      go_loopw [7] (fun x wr => ∃ j : Nat, j ≤ c.cls.length ∧ x = .int .i64 ((j : Nat) : Int) ∧ Below w2.heap.size w2 wr) (fun x _ => c.cls.length - (intOf x).toNat)
      case atStart => exact ⟨0, by omega, rfl, HBI.out⟩
      case round =>
        obtain ⟨wo, rfl⟩ : ∃ wo, wo = wr := ⟨_, rfl⟩
        obtain ⟨j, hj, rfl, hb⟩ := hrel
        have HB := hide hb
        have c21 : wo.cell? ⟨w1.heap.size, 21, none⟩ = some (.slice B2 c.cls.length ck2) := (World.cell?_of_block (hb.block w1.heap.size (by have := HZ.out; omega))).trans HC2.out.2.1
        clear hb c22
        have j0 : (0 : Int) ≤ (j : Int) := by omega
        by_cases hj2 : j < c.cls.length
        · have j1 : (j : Int) < (c.cls.length : Int) := by omega
          obtain ⟨x, hx⟩ : ∃ x, c.cls[j]? = some x := ⟨_, List.getElem?_eq_getElem hj2⟩
          have HG' := HG.out
          obtain ⟨⟨u1, z1, rfl, hlu1, hE1⟩, ⟨u2, z2, rfl, hlu2, hE2⟩⟩ := And.intro (HG'.1 (by omega)) (HG'.2 (by omega))
          obtain ⟨cs1, hr1, ha1⟩ := hE1 j x hx
          obtain ⟨cs2, hr2, ha2⟩ := hE2 j x hx
          obtain rfl : cs1 = _ := ha1.1
          obtain rfl : cs2 = _ := ha2.1
          have hxo : okH x := HOK.out.1 x (List.mem_of_getElem? hx)
          have HY := hide (And.intro (rangeAt_same hr1 (AL.out u1 hlu1)) (And.intro (rangeAt_same hr2 (AL.out u2 hlu2)) (And.intro hlu1 (And.intro hlu2 hxo))))
          have HCC := hide (And.intro HC1.out.2.1 (And.intro HC2.out.2.1 trivial))
          have hszh : (Try.prog.info? 23).map (·.size) = some (bv x).length := by have := hsz hxo; simpa using this
          clear hx HG' hE1 hE2 hr1 hr2 ha1 ha2 hlu1 hlu2 hxo
          go_wp2_with fail
          refine Fre.wp_made (X := Blw) 10 [] (by kernel_rfl) (by kernel_rfl) (by simp) (by simp) (by simp) ?_
          simp only [List.take_succ_cons, List.take_zero, List.drop_succ_cons, List.drop_zero]
          refine Fre.made_val (.pointer (some ⟨w.heap.size, 21, none⟩)) (by kernel_rfl) (by kernel_rfl) (by kernel_rfl) (fun _ _ => by kernel_rfl) ?_
          simp only [Act.put, List.setIfInBounds_toArray, List.set_cons_zero, List.set_cons_succ]
          refine Fre.made_val (.slice (some ⟨u1, z1, none⟩) c.cls.length ck1) (by kernel_rfl) (by kernel_rfl) (by kernel_rfl) (fun W9 hW9 => exec_load_cell (o := ⟨some 74, _, _, _, _, _⟩) 25 (.tmp 73) rfl ⟨w.heap.size, 21, none⟩ rfl _ _ W9 Try.underlying25 rfl (by have h9 : Below _ wo W9 := hW9; rw [World.cell?_of_block ((h9.block (w.heap.size) (by have := HB.out.size; have := HZ.out; have := HZ.out; omega)).trans (HB.out.block _ (by have := HZ.out; have := HZ.out; omega)))]; exact HCC.out.1)) ?_
          simp only [Act.put, List.setIfInBounds_toArray, List.set_cons_zero, List.set_cons_succ]
          refine Fre.made_val (.int .i64 (j : Int)) (by kernel_rfl) (by kernel_rfl) (by kernel_rfl) (fun _ _ => by kernel_rfl) ?_
          simp only [Act.put, List.setIfInBounds_toArray, List.set_cons_zero, List.set_cons_succ]
          refine Fre.made_val (.pointer (some ⟨u1, z1 + (j : Int).toNat * 20, none⟩)) (by kernel_rfl) (by kernel_rfl) (by kernel_rfl) (fun W9 _ => exec_index_off (o := ⟨some 76, _, _, _, _, _⟩) 25 23 (.tmp 74) (.tmp 75) rfl u1 z1 c.cls.length ck1 (j : Int) .i64 rfl rfl ⟨j0, j1⟩ 20 Try.underlying25 (by kernel_rfl) W9) ?_
          simp only [Act.put, List.setIfInBounds_toArray, List.set_cons_zero, List.set_cons_succ]
          rw [show z1 + (j : Int).toNat * 20 = z1 + j * 20 by omega]
          refine Fre.made_val (.agg (bv x).toArray) (by kernel_rfl) (by kernel_rfl) (by kernel_rfl) (fun W9 hW9 => exec_load_mid (o := ⟨some 77, _, _, _, _, _⟩) 23 (.tmp 76) rfl u1 (z1 + j * 20) rfl (bv x) _ W9 (rangeAt_same HY.out.1 (by have h9 : Below _ wo W9 := hW9; exact (h9.block _ (by have := HB.out.size; have := HZ.out; have := HY.out.2.2.1; omega)).trans (HB.out.block _ (by have := HZ.out; have := HY.out.2.2.1; omega)))) Try.underlying23 rfl hszh) ?_
          simp only [Act.put, List.setIfInBounds_toArray, List.set_cons_zero, List.set_cons_succ]
          refine Fre.made_val (.pointer (some ⟨w1.heap.size, 21, none⟩)) (by kernel_rfl) (by kernel_rfl) (by kernel_rfl) (fun _ _ => by kernel_rfl) ?_
          simp only [Act.put, List.setIfInBounds_toArray, List.set_cons_zero, List.set_cons_succ]
          refine Fre.made_val (.slice (some ⟨u2, z2, none⟩) c.cls.length ck2) (by kernel_rfl) (by kernel_rfl) (by kernel_rfl) (fun W9 hW9 => exec_load_cell (o := ⟨some 79, _, _, _, _, _⟩) 25 (.tmp 78) rfl ⟨w1.heap.size, 21, none⟩ rfl _ _ W9 Try.underlying25 rfl (by have h9 : Below _ wo W9 := hW9; rw [World.cell?_of_block ((h9.block (w1.heap.size) (by have := HB.out.size; have := HZ.out; have := HZ.out; omega)).trans (HB.out.block _ (by have := HZ.out; have := HZ.out; omega)))]; exact HCC.out.2.1)) ?_
          simp only [Act.put, List.setIfInBounds_toArray, List.set_cons_zero, List.set_cons_succ]
          refine Fre.made_val (.int .i64 (j : Int)) (by kernel_rfl) (by kernel_rfl) (by kernel_rfl) (fun _ _ => by kernel_rfl) ?_
          simp only [Act.put, List.setIfInBounds_toArray, List.set_cons_zero, List.set_cons_succ]
          refine Fre.made_val (.pointer (some ⟨u2, z2 + (j : Int).toNat * 20, none⟩)) (by kernel_rfl) (by kernel_rfl) (by kernel_rfl) (fun W9 _ => exec_index_off (o := ⟨some 81, _, _, _, _, _⟩) 25 23 (.tmp 79) (.tmp 80) rfl u2 z2 c.cls.length ck2 (j : Int) .i64 rfl rfl ⟨j0, j1⟩ 20 Try.underlying25 (by kernel_rfl) W9) ?_
          simp only [Act.put, List.setIfInBounds_toArray, List.set_cons_zero, List.set_cons_succ]
          rw [show z2 + (j : Int).toNat * 20 = z2 + j * 20 by omega]
          refine Fre.made_val (.agg (bv x).toArray) (by kernel_rfl) (by kernel_rfl) (by kernel_rfl) (fun W9 hW9 => exec_load_mid (o := ⟨some 82, _, _, _, _, _⟩) 23 (.tmp 81) rfl u2 (z2 + j * 20) rfl (bv x) _ W9 (rangeAt_same HY.out.2.1 (by have h9 : Below _ wo W9 := hW9; exact (h9.block _ (by have := HB.out.size; have := HZ.out; have := HY.out.2.2.2.1; omega)).trans (HB.out.block _ (by have := HZ.out; have := HY.out.2.2.2.1; omega)))) Try.underlying23 rfl hszh) ?_
          simp only [Act.put, List.setIfInBounds_toArray, List.set_cons_zero, List.set_cons_succ]
          show ∀ w', _ → _
          intro w4 hb
          simp only [Fre.ended]
          have H4 := hide (HB.out.trans (Below.mono (show Below wo.heap.size wo w4 from hb) HB.out.size))
          clear hb
          go_wp2_with (refine wpList_value (o := ⟨some 83, _, _, _, _, _⟩) rfl (.bool false) w4 (exec_binop_agg (o := ⟨some 83, _, _, _, _, _⟩) .neq 23 (.tmp 77) (.tmp 82) _ rfl (bv x).toArray (bv x).toArray rfl rfl (by kernel_rfl) _ (fun W => by have := bin_ne_hash x x HY.out.2.2.2.2 HY.out.2.2.2.2 W; rw [decide_eq_true rfl] at this; exact this) w4) ?_)
          go_wp2_with fail
          go_roundw
          case rel => exact ⟨j + 1, by omega, by go_num, H4.out⟩
          case measure => simp [intOf]; omega
        · obtain rfl : j = c.cls.length := by omega
          have x1 : wo.cell? ⟨w.heap.size, 20, none⟩ = some (.slice (some ⟨gf, 0, none⟩) c.fixed.length (c.fixed.length + 12)) := (World.cell?_of_block (HB.out.block (w.heap.size) (by have := HZ.out; omega))).trans HF.out.1
          have x2 : wo.cell? ⟨w1.heap.size, 20, none⟩ = some (.slice Af c.fixed.length capf) := (World.cell?_of_block (HB.out.block (w1.heap.size) (by have := HZ.out; omega))).trans HF.out.2.1
          go_wp2_with (first | (refine wpList_value (o := ⟨some 85, _, _, _, _, _⟩) rfl (.agg (bv c.own).toArray) wo (exec_load_mid (o := ⟨some 85, _, _, _, _, _⟩) 23 (.tmp 84) rfl w.heap.size 0 rfl (bv c.own) _ wo (rangeAt_same HK.out.1 (HB.out.block _ (by have := HZ.out; omega))) Try.underlying23 rfl hszo) ?_) | (refine wpList_value (o := ⟨some 87, _, _, _, _, _⟩) rfl (.agg (bv c.own).toArray) wo (exec_load_mid (o := ⟨some 87, _, _, _, _, _⟩) 23 (.tmp 86) rfl w1.heap.size 0 rfl (bv c.own) _ wo (rangeAt_same HK.out.2 (HB.out.block _ (by have := HZ.out; omega))) Try.underlying23 rfl hszo) ?_) | (refine wpList_value (o := ⟨some 88, _, _, _, _, _⟩) rfl (.bool true) wo (exec_binop_agg (o := ⟨some 88, _, _, _, _, _⟩) .eql 23 (.tmp 85) (.tmp 87) _ rfl (bv c.own).toArray (bv c.own).toArray rfl rfl (by kernel_rfl) _ (fun W => by have := bin_eq_hash c.own c.own HO.out HO.out W; rw [decide_eq_true rfl] at this; exact this) wo) ?_))
          refine (keptPaths_any _ HFX.out.1 _ _ w.heap.size wo (by have := HB.out.size; have := HZ.out; omega) (pathsLay.alike HFX.out.2.2.2.2 fun b hb => HB.out.block b (by have := HZ.out; omega)) ((HB.out.block _ HFX.out.2.2.2.1).trans HFX.out.2.2.1) HFX.out.2.1).mono ?_
          rintro e w5 ⟨rfl, hb⟩
          have Hw5 := hide (HB.out.trans (Below.mono hb HB.out.size))
          clear hb
          dsimp only
          have x3 : w5.cell? ⟨w.heap.size, 23, none⟩ = some (.slice (some ⟨gm, 0, none⟩) c.of.length (c.of.length + 12)) := (World.cell?_of_block (Hw5.out.block (w.heap.size) (by have := HZ.out; omega))).trans HF.out.2.2.1
          have x4 : w5.cell? ⟨w1.heap.size, 23, none⟩ = some (.slice Am c.of.length capm) := (World.cell?_of_block (Hw5.out.block (w1.heap.size) (by have := HZ.out; omega))).trans HF.out.2.2.2
          clear x1 x2
          go_wp2_with fail
          refine (keptMades_any _ HMX.out.1 _ _ w.heap.size w5 (by have := Hw5.out.size; have := HZ.out; omega) (madesLay.alike HMX.out.2.2.2.2 fun b hb => Hw5.out.block b (by have := HZ.out; omega)) ((Hw5.out.block _ HMX.out.2.2.2.1).trans HMX.out.2.2.1) HMX.out.2.1).mono ?_
          rintro e w6 ⟨rfl, hb⟩
          have Hw6 := hide (Hw5.out.trans (Below.mono hb Hw5.out.size))
          clear hb
          dsimp only
          go_wp2_with fail
          go_ret
          exact ⟨rfl, HB0.out.trans (Below.mono Hw6.out (by have := HZ.out; omega))⟩
end Go.Proofs.Ytfppddnfdinipaa
end
