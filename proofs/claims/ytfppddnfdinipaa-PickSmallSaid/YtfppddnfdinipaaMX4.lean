/- spenceref24: there. spenceref24: clean. spenceref24: search. spenceref24: Least. spencelaw24: class, path, option. -/
import Derived.Test.YtfppddnfdinipaaMX3
import Derived.Test.YtfppddnfdinipaaMX2
section
namespace Go.Proofs.Ytfppddnfdinipaa
open Go Go.RowKit Go.Maps
set_option maxRecDepth 100000
theorem sz_rowR : (Try.prog.info? 107).map (·.size) = some 1 := by kernel_rfl
theorem sz_optR : (Try.prog.info? 109).map (·.size) = some 22 := by kernel_rfl
/-- what there tells -/
def ThereQ (w : World) (c : CaseP) (l : List Nat) (e : Ending) (w' : World) : Prop :=
  (∃ p m, e = .returned (.tuple #[p, m]) ∧ OwnP w.heap.size w' p (foldT (c.cls.zip c.opts) l c.fixed c.of).1 ∧ OwnM w.heap.size w' m (foldT (c.cls.zip c.opts) l c.fixed c.of).2) ∧ ((foldT (c.cls.zip c.opts) l c.fixed c.of).1.length ≤ 100000 ∧ (foldT (c.cls.zip c.opts) l c.fixed c.of).2.length ≤ 100000) ∧ Below w.heap.size w w'
set_option maxHeartbeats 8000000 in
theorem rthere_any (w : World) (v : Cvs) (c : CaseP) (hc : c.size ≤ 120) (hC : CaseAt w.heap.size w v c) (hne : c.opts.length = c.cls.length) (l : List Nat) (HLEN : l.length ≤ c.opts.length) (hin : ∀ (i : Nat) os k, c.opts[i]? = some os → l[i]? = some k → k < os.length) (vk : Value) (hK : IntsAt w w.heap.size vk (l.map fun k => ((k : Nat) : Int))) :
    Calls Try.prog 95 #[.agg (caseC v).toArray, vk] w (ThereQ w c l) := by
  have HNE := hide hne
  clear hne
  obtain ⟨b1, b2, b3, b4, b5, b6, b7⟩ := CaseP.bounds hc
  obtain ⟨w1, hw1⟩ : ∃ w1, w1 = w.alloc (.cells (caseC v).toArray 40) := ⟨_, rfl⟩
  have hb1 : Below w.heap.size w w1 := by rw [hw1]; exact (Below.refl _ w).alloc (Nat.le_refl _) _
  have hk1 : Blk w1 w.heap.size 40 (caseC v).toArray := by rw [hw1]; exact Blk.new _ _ _
  have hz1 : w1.heap.size = w.heap.size + 1 := by rw [hw1, size_alloc]
  have hC1 : CaseAt w.heap.size w1 v c := hC.alike fun k hk => hb1.block k hk
  have hK1 : IntsAt w1 w.heap.size vk (l.map fun k => ((k : Nat) : Int)) := hK.alike fun k hk => hb1.block k hk
  have ho : okH v.own := by rw [hC.own]; exact hC.okO
  obtain ⟨Ao, capo, hvo, _, _, _, hAo⟩ := slice_open hC1.atO
  obtain ⟨Ac, capc, hvc, _, _, _, hAc⟩ := slice_open hC1.atC
  obtain ⟨Af, capf, hvf, _, _, _, _⟩ := slice_open hC1.atF
  obtain ⟨Am, capm, hvm, _, _, _, _⟩ := slice_open hC1.atM
  obtain ⟨Ak, capk, rfl, hKs⟩ := hK1
  rw [List.length_map]
  have hcells := case_cellsT ho hk1
  rw [hvo, hvc, hvf, hvm] at hcells
  have hoks := hC1.oks
  have hsf : SrcN w1 21 Af c.fixed.length capf (flP c.fixed) := (paths_src (by have := hC1.atF; rw [hvf] at this; exact this)).2
  have hsm : SrcN w1 41 Am c.of.length capm (flM c.of) := (mades_src (by have := hC1.atM; rw [hvm] at this; exact this)).2
  obtain ⟨w2, hw2⟩ : ∃ w2, w2 = w1.alloc (.cells #[] 53) := ⟨_, rfl⟩
  have hb2 : Below w1.heap.size w1 w2 := by rw [hw2]; exact (Below.refl _ w1).alloc (Nat.le_refl _) _
  have hown2 : w2.ownsRow w1.heap.size 53 21 (.slice (some ⟨w1.heap.size, 0, none⟩) 0 0) 0 [] := by rw [hw2]; exact own_new w1 _ _
  obtain ⟨ip, hi, hp0, hp1, hp2⟩ := info_parts info_pathI
  obtain ⟨im, hm, hm0, hm1, hm2⟩ := info_parts info_madeI
  have c20 : w2.cell? ⟨w.heap.size, 20, none⟩ = some (.slice Af c.fixed.length capf) := (World.cell?_of_block (hb2.block w.heap.size (by omega))).trans hcells.1
  have H1 := hide (And.intro hb1 hz1)
  have HBX := hide hk1
  have HOW := hide hC1.own
  have HI := hide (And.intro hi (And.intro hp0 (And.intro hp1 hp2)))
  have HJ := hide (And.intro hm (And.intro hm0 (And.intro hm1 hm2)))
  have H2 := hide (And.intro c20 (And.intro hown2 (And.intro hb2 (And.intro (hsf.below hb2) (And.intro hcells (And.intro hsm (And.intro hoks hz1)))))))
  have H3 := hide (And.intro hC1 (And.intro hKs (And.intro hAo (And.intro hAc (And.intro hvo hvc)))))
  rw [hz1] at hown2
  have HW : Hid (w2 = (w.alloc (.cells (caseC v).toArray 40)).alloc (.cells #[] 53)) := by have h := hw2; rw [hw1] at h; exact hide h
  have HOWN := hide hown2
  clear hb1 hk1 hC1 hC hvo hvc hvf hvm hw1 hK hKs hAo hAc hcells hoks hsf hsm hw2 hb2 hown2 hi hp0 hp1 hp2 hm hm0 hm1 hm2 c20 hz1
  have o9 : (c.opts.length : Int) ≤ 120 := by omega
  have l9 : (l.length : Int) ≤ 120 := by omega
  go_enter Try.func95, Try.ntmps95
  go_wp2_with (first | (refine wpList_value (o := ⟨some 12, _, _, _, _, _⟩) rfl (.slice Af c.fixed.length capf) w2 (by rw [← HW.out]; exact exec_load_cell (o := ⟨some 12, _, _, _, _, _⟩) 24 (.tmp 11) rfl ⟨w.heap.size, 20, none⟩ rfl _ _ w2 Try.underlying24 rfl H2.out.1) ?_) | (at_builtin; (refine wpList_appS (o := ⟨some 13, _, _, _, _, _⟩) rfl _ _ 24 rfl (w.heap.size + 1) 53 ip _ 21 40 Try.underlying24 HI.out.1 HI.out.2.1 HI.out.2.2.1 HI.out.2.2.2 rfl (by decide) _ 0 [] HOWN.out Af c.fixed.length capf (flP c.fixed) H2.out.2.2.2.1 ?hm1 ?hb1 ?hz1 rfl rfl ?_)))
  case hm1 => simp only [maxLen]; omega
  case hb1 => omega
  case hz1 => have := H2.out.2.2.1.size; have := H1.out.2; omega
  intro y5 w3 own3 gr3 _
  rw [← H1.out.2] at own3
  have hb3 : Below w1.heap.size w1 w3 := Below.grownOwn H2.out.2.2.1 H2.out.2.1 (Nat.le_refl _) (by rw [H1.out.2]; exact gr3)
  obtain ⟨w4, hw4⟩ : ∃ w4, w4 = w3.alloc (.cells #[] 60) := ⟨_, rfl⟩
  have hb4 : Below w3.heap.size w3 w4 := by rw [hw4]; exact (Below.refl _ w3).alloc (Nat.le_refl _) _
  have hown4 : w4.ownsRow w3.heap.size 60 41 (.slice (some ⟨w3.heap.size, 0, none⟩) 0 0) 0 [] := by rw [hw4]; exact own_new w3 _ _
  have hb14 : Below w1.heap.size w1 w4 := hb3.trans (Below.mono hb4 hb3.size)
  have c23 : w4.cell? ⟨w.heap.size, 23, none⟩ = some (.slice Am c.of.length capm) := (World.cell?_of_block (hb14.block w.heap.size (by have := H1.out.2; omega))).trans H2.out.2.2.2.2.1.2.2.2
  have H4 := hide (And.intro c23 (And.intro hown4 (And.intro hb14 (And.intro (And.intro own3 hb3) hb4))))
  have HW4 := hide hw4
  clear hw4 hown4 hb14 c23 own3 hb3 gr3 hb4
  go_wp2_with (first | (refine wpList_value (o := ⟨some 16, _, _, _, _, _⟩) rfl (.slice Am c.of.length capm) w4 (by rw [← HW4.out]; exact exec_load_cell (o := ⟨some 16, _, _, _, _, _⟩) 27 (.tmp 15) rfl ⟨w.heap.size, 23, none⟩ rfl _ _ w4 Try.underlying27 rfl H4.out.1) ?_) | (at_builtin; (refine wpList_appS (o := ⟨some 17, _, _, _, _, _⟩) rfl _ _ 27 rfl w3.heap.size 60 im _ 41 64 Try.underlying27 HJ.out.1 HJ.out.2.1 HJ.out.2.2.1 HJ.out.2.2.2 rfl (by decide) _ 0 [] H4.out.2.1 Am c.of.length capm (flM c.of) ?hs2 ?hm2 ?hb2 ?hz2 rfl rfl ?_)))
  case hs2 => exact H2.out.2.2.2.2.2.1.below H4.out.2.2.1
  case hm2 => simp only [maxLen]; omega
  case hb2 => omega
  case hz2 => have := H4.out.2.2.2.2.size; omega
  intro y6 w5 own5 gr5 _
  have hb5 : Below w3.heap.size w3 w5 := Below.grownOwn H4.out.2.2.2.2 H4.out.2.1 (Nat.le_refl _) gr5
  have hp5 : OwnP w1.heap.size w5 y5 c.fixed := OwnP.below ⟨H4.out.2.2.2.1.1, H2.out.2.2.2.2.2.2.1.1⟩ hb5
  have hm5 : OwnM w1.heap.size w5 y6 c.of := ⟨owned_baseN own5 fun g hg => by have := (owned_ltN own5 hg).1; have := H4.out.2.2.2.1.2.size; omega, H2.out.2.2.2.2.2.2.1.2.2.1⟩
  have hb15 : Below w1.heap.size w1 w5 := H4.out.2.2.2.1.2.trans (Below.mono hb5 H4.out.2.2.2.1.2.size)
  have H5 := hide (And.intro hp5 (And.intro hm5 hb15))
  clear hp5 hm5 hb5 hb15 own5 gr5
  go_wp2_with fail
  go_loopw [6, 7, 8] (fun y5 y6 x wr => ∃ i, i ≤ l.length ∧ x = .int .i64 ((i : Nat) : Int) ∧ OwnP w1.heap.size wr y5 (thereL c l i).1 ∧ OwnM w1.heap.size wr y6 (thereL c l i).2 ∧ Below w1.heap.size w1 wr ∧ (thereL c l i).1.length ≤ 120 + 120 * i ∧ (thereL c l i).2.length ≤ 120 + i) (fun _ _ x _ => l.length - (intOf x).toNat)
  case atStart => exact ⟨0, by omega, rfl, by rw [thereL_zero]; exact H5.out.1, by rw [thereL_zero]; exact H5.out.2.1, H5.out.2.2, by rw [thereL_zero]; exact b3, by rw [thereL_zero]; exact b4⟩
  case round =>
    clear H4 H5
    obtain ⟨wo, rfl⟩ : ∃ wo, wo = wr := ⟨_, rfl⟩
    obtain ⟨i, hi, rfl, hp4, hm4, hb4, hl4, hl5⟩ := hrel
    have H4 := hide (And.intro hp4 (And.intro hm4 (And.intro hb4 (And.intro hl4 hl5))))
    clear hp4 hm4 hb4 hl4 hl5
    have i0 : (0 : Int) ≤ (i : Int) := by omega
    by_cases hi2 : i < l.length
    · have i1 : (i : Int) < (c.opts.length : Int) := by omega
      have i1k : (i : Int) < (l.length : Int) := by omega
      obtain ⟨os, hos⟩ : ∃ os, c.opts[i]? = some os := ⟨_, List.getElem?_eq_getElem (by omega)⟩
      obtain ⟨h, hh⟩ : ∃ h, c.cls[i]? = some h := ⟨_, List.getElem?_eq_getElem (by have := HNE.out; omega)⟩
      obtain ⟨j, hj⟩ : ∃ j, l[i]? = some j := ⟨_, List.getElem?_eq_getElem (by omega)⟩
      have hjl := hin i os j hos hj
      obtain ⟨x, hx⟩ : ∃ x, os[j]? = some x := ⟨_, List.getElem?_eq_getElem hjl⟩
      have hnx := thereL_next hin hh hos hj hx
      have HN := hide (show (thereL c l (i + 1)).1 = (thereL c l i).1 ++ x.1 :: x.2 ∧ (thereL c l (i + 1)).2 = (thereL c l i).2 ++ [(h, x.1)] from by rw [hnx]; exact ⟨rfl, rfl⟩)
      obtain ⟨bk, offk, rfl, hbk, hjc⟩ := H3.out.2.1 i (j : Int) (by rw [List.getElem?_map, hj]; rfl)
      obtain ⟨bo, offo, rfl, hlo, hEo⟩ := H3.out.2.2.1 (by omega)
      obtain ⟨bc, offc, rfl, hlc, hEc⟩ := H3.out.2.2.2.1 (by have := HNE.out; omega)
      obtain ⟨csh, hrh, hath⟩ := hEc i h hh
      obtain ⟨rfl, hho⟩ := hashLay_at.1 hath
      obtain ⟨cs1, hr1, hat1⟩ := hEo i os hos
      obtain ⟨vr, rfl, hat1⟩ := rowLay_at hat1
      obtain ⟨Ar, capr, rfl, _, _, _, hAr⟩ := slice_open hat1
      obtain ⟨br, offr, rfl, hlr, hEr⟩ := hAr (by omega)
      obtain ⟨cs2, hr2, hat2⟩ := hEr j x hx
      obtain ⟨vx, rfl, hpx, hvx⟩ := optLay_at hat2
      obtain ⟨Ax, capx, rfl, _, _, _, _⟩ := slice_open hvx
      have hsame : ∀ b, b < w.heap.size + 1 → wo.heap[b]? = w1.heap[b]? := fun b hb9 => H4.out.2.2.1.block b (by have := H1.out.2; omega)
      have e22 : wo.cell? ⟨w.heap.size, 22, none⟩ = some (.slice (some ⟨bo, offo, none⟩) c.opts.length capo) := (World.cell?_of_block (hsame w.heap.size (by omega))).trans H2.out.2.2.2.2.1.2.2.1
      have e21 : w1.cell? ⟨w.heap.size, 21, none⟩ = some (.slice (some ⟨bc, offc, none⟩) c.opts.length capc) := by have := H2.out.2.2.2.2.1.2.1; rwa [← HNE.out] at this
      have er : wo.cell? ⟨bo, offo + i, none⟩ = some (.slice (some ⟨br, offr, none⟩) os.length capr) := by
        have h9 : w1.cell? ⟨bo, offo + i * 1 + 0, none⟩ = some (.slice (some ⟨br, offr, none⟩) os.length capr) := hr1 0 _ rfl
        rw [Nat.mul_one, Nat.add_zero] at h9
        exact (World.cell?_of_block (hsame bo (by omega))).trans h9
      have ej : wo.cell? ⟨bk, offk + i, none⟩ = some (.int .i64 (j : Int)) := (World.cell?_of_block (hsame bk (by omega))).trans hjc
      have ex : wo.rangeAt br (offr + j * 22) (oC x.1 (.slice Ax x.2.length capx)) := rangeAt_same hr2 (hsame br (by omega))
      have hbr : br < wo.heap.size := by have := H4.out.2.2.1.size; have := H1.out.2; omega
      have hxok : ∀ q ∈ x.2, okP q := (H2.out.2.2.2.2.2.2.1.2.2.2 os (List.mem_of_getElem? hos) x (List.mem_of_getElem? hx)).2
      have hx9 := (b7 os (List.mem_of_getElem? hos)).2 x (List.mem_of_getElem? hx)
      have hxo : (Try.prog.info? 109).map (·.size) = some (oC x.1 (.slice Ax x.2.length capx)).length := by rw [sz_optR]; simp [pC_len hpx]
      have H5 := hide (And.intro e22 (And.intro er (And.intro ej (And.intro ex (And.intro hbr (And.intro hxok hvx))))))
      have HC21 := hide e21
      have HH := hide (And.intro hrh hlc)
      have j0 : (0 : Int) ≤ (j : Int) := by omega
      have j1 : (j : Int) < (os.length : Int) := by omega
      have os9 : (os.length : Int) ≤ 120 := by have := (b7 os (List.mem_of_getElem? hos)).1; omega
      clear hos hh hj hjl hx hnx hjc hEo hEc hrh hath hr1 hat1 hAr hEr hr2 hat2 hvx hsame e22 e21 er ej ex hbr hxok
      go_wp2_with fail
      refine Fre.wp_made (X := Blw) 12 [(9, OneBox wo.heap.size 109 zcO)] (by kernel_rfl) (by kernel_rfl) (by simp only [List.forall_mem_cons]; exact ⟨oneBox_ok, fun p hp => by cases hp⟩) (by simp) (by simp) ?_
      simp only [List.take_succ_cons, List.take_zero, List.drop_succ_cons, List.drop_zero]
      refine Fre.made_val (.pointer (some ⟨w.heap.size, 22, none⟩)) (by kernel_rfl) (by kernel_rfl) (by kernel_rfl) (fun _ _ => by kernel_rfl) ?_
      simp only [Act.put, List.setIfInBounds_toArray, List.set_cons_zero, List.set_cons_succ]
      refine Fre.made_val (.slice (some ⟨bo, offo, none⟩) c.opts.length capo) (by kernel_rfl) (by kernel_rfl) (by kernel_rfl) (fun W9 hW9 => exec_load_cell (o := ⟨some 25, _, _, _, _, _⟩) 38 (.tmp 24) rfl ⟨w.heap.size, 22, none⟩ rfl _ _ W9 Try.underlying38 rfl (by rw [World.cell?_of_block ((blw hW9).block w.heap.size (World.block_lt_of_cell? wo _ H5.out.1))]; exact H5.out.1)) ?_
      simp only [Act.put, List.setIfInBounds_toArray, List.set_cons_zero, List.set_cons_succ]
      refine Fre.made_val (.int .i64 (i : Int)) (by kernel_rfl) (by kernel_rfl) (by kernel_rfl) (fun _ _ => by kernel_rfl) ?_
      simp only [Act.put, List.setIfInBounds_toArray, List.set_cons_zero, List.set_cons_succ]
      refine Fre.made_val (.pointer (some ⟨bo, offo + (i : Int).toNat * 1, none⟩)) (by kernel_rfl) (by kernel_rfl) (by kernel_rfl) (fun W9 _ => exec_index_off (o := ⟨some 27, _, _, _, _, _⟩) 38 107 (.tmp 25) (.tmp 26) rfl bo offo c.opts.length capo (i : Int) .i64 rfl rfl ⟨i0, i1⟩ 1 Try.underlying38 sz_rowR W9) ?_
      simp only [Act.put, List.setIfInBounds_toArray, List.set_cons_zero, List.set_cons_succ]
      rw [show offo + (i : Int).toNat * 1 = offo + i by omega]
      refine Fre.made_val (.slice (some ⟨br, offr, none⟩) os.length capr) (by kernel_rfl) (by kernel_rfl) (by kernel_rfl) (fun W9 hW9 => exec_load_cell (o := ⟨some 28, _, _, _, _, _⟩) 107 (.tmp 27) rfl ⟨bo, offo + i, none⟩ rfl _ _ W9 Try.underlying107 rfl (by rw [World.cell?_of_block ((blw hW9).block bo (World.block_lt_of_cell? wo _ H5.out.2.1))]; exact H5.out.2.1)) ?_
      simp only [Act.put, List.setIfInBounds_toArray, List.set_cons_zero, List.set_cons_succ]
      refine Fre.made_val (.slice (some ⟨bk, offk, none⟩) l.length capk) (by kernel_rfl) (by kernel_rfl) (by kernel_rfl) (fun _ _ => by kernel_rfl) ?_
      simp only [Act.put, List.setIfInBounds_toArray, List.set_cons_zero, List.set_cons_succ]
      refine Fre.made_val (.int .i64 (i : Int)) (by kernel_rfl) (by kernel_rfl) (by kernel_rfl) (fun _ _ => by kernel_rfl) ?_
      simp only [Act.put, List.setIfInBounds_toArray, List.set_cons_zero, List.set_cons_succ]
      refine Fre.made_val (.pointer (some ⟨bk, offk + (i : Int).toNat * 1, none⟩)) (by kernel_rfl) (by kernel_rfl) (by kernel_rfl) (fun W9 _ => exec_index_off (o := ⟨some 31, _, _, _, _, _⟩) 33 3 (.tmp 29) (.tmp 30) rfl bk offk l.length capk (i : Int) .i64 rfl rfl ⟨i0, i1k⟩ 1 Try.underlying33 (by kernel_rfl) W9) ?_
      simp only [Act.put, List.setIfInBounds_toArray, List.set_cons_zero, List.set_cons_succ]
      rw [show offk + (i : Int).toNat * 1 = offk + i by omega]
      refine Fre.made_val (.int .i64 (j : Int)) (by kernel_rfl) (by kernel_rfl) (by kernel_rfl) (fun W9 hW9 => exec_load_cell (o := ⟨some 32, _, _, _, _, _⟩) 3 (.tmp 31) rfl ⟨bk, offk + i, none⟩ rfl _ _ W9 Try.underlying3 rfl (by rw [World.cell?_of_block ((blw hW9).block bk (World.block_lt_of_cell? wo _ H5.out.2.2.1))]; exact H5.out.2.2.1)) ?_
      simp only [Act.put, List.setIfInBounds_toArray, List.set_cons_zero, List.set_cons_succ]
      refine Fre.made_val (.pointer (some ⟨br, offr + (j : Int).toNat * 22, none⟩)) (by kernel_rfl) (by kernel_rfl) (by kernel_rfl) (fun W9 _ => exec_index_off (o := ⟨some 33, _, _, _, _, _⟩) 107 109 (.tmp 28) (.tmp 32) rfl br offr os.length capr (j : Int) .i64 rfl rfl ⟨j0, j1⟩ 22 Try.underlying107 sz_optR W9) ?_
      simp only [Act.put, List.setIfInBounds_toArray, List.set_cons_zero, List.set_cons_succ]
      rw [show offr + (j : Int).toNat * 22 = offr + j * 22 by omega]
      refine Fre.made_val (.agg (oC x.1 (.slice Ax x.2.length capx)).toArray) (by kernel_rfl) (by kernel_rfl) (by kernel_rfl) (fun W9 hW9 => exec_load_mid (o := ⟨some 34, _, _, _, _, _⟩) 109 (.tmp 33) rfl br (offr + j * 22) rfl (oC x.1 (.slice Ax x.2.length capx)) _ W9 (rangeAt_same H5.out.2.2.2.1 ((blw hW9).block br H5.out.2.2.2.2.1)) Try.underlying109 rfl hxo) ?_
      simp only [Act.put, List.setIfInBounds_toArray, List.set_cons_zero, List.set_cons_succ]
      refine Fre.made_new 9 _ (by kernel_rfl) (by kernel_rfl) rfl rfl (fun W9 hW9 => ⟨.pointer (some ⟨W9.heap.size, 0, none⟩), W9.alloc (.cells zcO 109), by kernel_rfl, (Below.refl _ W9).alloc (Nat.le_refl _) _, W9.heap.size, rfl, (blw hW9).size, Blk.new _ _ _⟩) ?_
      simp only [Act.put, List.setIfInBounds_toArray, List.set_cons_zero, List.set_cons_succ]
      show ∀ w', _ → _
      intro w3 hb3
      simp only [Fre.ended]
      have hb3 : Below wo.heap.size wo w3 := hb3
      rintro ux ⟨bx, rfl, hxa, hxb⟩
      simp only [Act.put, List.setIfInBounds_toArray, List.set_cons_zero, List.set_cons_succ]
      refine wpList_store_blkA (o := ⟨none, _, _, _, _, _⟩) rfl 109 (.tmp 9) (.tmp 34) rfl bx zcO (oC x.1 (.slice Ax x.2.length capx)).toArray 109 hxb ?_ ?_ ?_ rfl rfl ?_
      · rw [List.size_toArray]; exact hxo
      · have e : (oC x.1 (.slice Ax x.2.length capx)).toArray.size = 22 := by simp [pC_len hpx]
        rw [e]
        rfl
      · exact all_oneCell_toArray (oC_one _ _ _ _)
      intro w4 hm4 hg4
      have hb4 : Below wo.heap.size wo w4 := hb3.grown hg4 hb3.size (fun k hk => by injection hk with hk; omega)
      have hop4 := H4.out.1.below hb4
      have hom4 := H4.out.2.1.below hb4
      have hwb4 : Below w1.heap.size w1 w4 := H4.out.2.2.1.trans (Below.mono hb4 H4.out.2.2.1.size)
      have hsx : SrcN w4 21 Ax x.2.length capx (flP x.2) := (paths_src (pathsLay.alike H5.out.2.2.2.2.2.2 (fun g hg => hwb4.block g (by have := H1.out.1.size; omega)))).2
      have hxbl : ∀ ad, Ax = some ad → ad.block < w1.heap.size ∨ x.2.length = 0 := by
        intro ad had
        obtain ⟨A', c', e, _, _, _, hA'⟩ := slice_open H5.out.2.2.2.2.2.2
        injection e with e1 _ e3
        subst e1 e3
        rcases Nat.eq_zero_or_pos x.2.length with h0 | h0
        · exact .inr h0
        · obtain ⟨b, off, e, hb, _⟩ := hA' h0
          rw [e] at had; injection had with had; subst had
          exact .inl (by have := H1.out.1.size; show b < w1.heap.size; omega)
      have hr4 : w4.rangeAt bx 0 (pC x.1) := opt_pT hm4
      have hc4 : w4.cell? ⟨bx, 21, none⟩ = some (.slice Ax x.2.length capx) := by rw [hm4.cell]; simp [pC_len hpx]
      have hbl4 : w1.heap.size ≤ bx := by have := H4.out.2.2.1.size; omega
      have H6 := hide (And.intro hm4 (And.intro hop4 (And.intro hom4 (And.intro hwb4 (And.intro hsx (And.intro hxbl (And.intro hr4 (And.intro hc4 hbl4))))))))
      clear hb3 hxa hxb hm4 hg4 hb4 hop4 hom4 hwb4 hsx hxbl hr4 hc4 hbl4
      go_wp2_with fail
      have hpsok := H6.out.2.1.2
      have hxok : ∀ q ∈ x.2, okP q := H5.out.2.2.2.2.2.1
      have hL : ∀ p ∈ ([(38, OnePth w1.heap.size x.1), (39, fun u W => OwnP w1.heap.size W u ((thereL c l i).1 ++ [x.1])), (42, fun u W => OwnP w1.heap.size W u ((thereL c l i).1 ++ x.1 :: x.2))] : Fre.MadeL), Fre.MadeOk (GrowF w1.heap.size (NPM (thereL c l i).1 (thereL c l i).2) (FPM ((thereL c l i).1 ++ x.1 :: x.2) (thereL c l i).2)) p.2 := by
        intro p hp
        simp only [List.mem_cons, List.not_mem_nil, or_false] at hp
        rcases hp with rfl | rfl | rfl
        · exact ⟨fun u W W' h hx => onePth_stays hpx hpsok h hx⟩
        · exact ⟨fun u W W' h hx => OwnP.grow (ps' := x.2) h (by have hx : GrowF _ _ _ W W' := hx; rwa [show (thereL c l i).1 ++ x.1 :: x.2 = (thereL c l i).1 ++ [x.1] ++ x.2 by simp] at hx)⟩
        · exact ⟨fun u W W' h hx => OwnP.grow (ps' := []) h (by have hx : GrowF _ _ _ W W' := hx; rwa [List.append_nil])⟩
      refine Fre.wp_made (X := (GrowF w1.heap.size (NPM (thereL c l i).1 (thereL c l i).2) (FPM ((thereL c l i).1 ++ x.1 :: x.2) (thereL c l i).2))) 8 [(38, OnePth w1.heap.size x.1), (39, fun u W => OwnP w1.heap.size W u ((thereL c l i).1 ++ [x.1])), (42, fun u W => OwnP w1.heap.size W u ((thereL c l i).1 ++ x.1 :: x.2))] (by kernel_rfl) (by kernel_rfl) hL (by simp) (by simp only [List.map_cons, List.map_nil, List.forall_mem_cons]; exact ⟨Nat.le_of_ble_eq_true (by kernel_rfl), Nat.le_of_ble_eq_true (by kernel_rfl), Nat.le_of_ble_eq_true (by kernel_rfl), fun _ h => by cases h⟩) ?_
      simp only [List.take_succ_cons, List.take_zero, List.drop_succ_cons, List.drop_zero]
      refine Fre.made_val (u6) (by kernel_rfl) (by kernel_rfl) (by kernel_rfl) (fun _ _ => by kernel_rfl) ?_
      simp only [Act.put, List.setIfInBounds_toArray, List.set_cons_zero, List.set_cons_succ]
      refine Fre.made_val (.pointer (some ⟨bx, 0, none⟩)) (by kernel_rfl) (by kernel_rfl) (by kernel_rfl) (fun _ _ => by kernel_rfl) ?_
      simp only [Act.put, List.setIfInBounds_toArray, List.set_cons_zero, List.set_cons_succ]
      refine Fre.made_val (.agg (pC x.1).toArray) (by kernel_rfl) (by kernel_rfl) (by kernel_rfl) (fun W9 hW9 => exec_load_mid (o := ⟨some 37, _, _, _, _, _⟩) 53 (.tmp 36) rfl bx 0 rfl (pC x.1) _ W9 (opt_pT (GrowF.blk hW9 H6.out.1 (by rfl))) Try.underlying53 rfl (by have := psz hpx; simpa using this)) ?_
      simp only [Act.put, List.setIfInBounds_toArray, List.set_cons_zero, List.set_cons_succ]
      refine Fre.made_new 38 _ (by kernel_rfl) (by kernel_rfl) rfl rfl (fun W9 hW9 => ⟨.slice (some ⟨W9.heap.size, 0, none⟩) 1 1, W9.alloc (.cells (pC x.1).toArray 53), exec_buildSliceP (o := ⟨some 38, _, _, _, _, _⟩) (v := .agg (pC x.1).toArray) 24 (.tmp 37) rfl rfl Try.underlying24 sz_path (by omega) (by omega) (z := .agg zcP) (fun w => by kernel_rfl) (by simp [Value.cells, pC_len hpx]) W9, GrowF.of_below ((Below.refl _ W9).alloc (Nat.le_refl _) _), W9.heap.size, rfl, by have h9 : GrowF _ _ _ w4 W9 := hW9; have := h9.size; have := H6.out.2.2.2.1.size; omega, Blk.new _ _ _⟩) ?_
      simp only [Act.put, List.setIfInBounds_toArray, List.set_cons_zero, List.set_cons_succ]
      refine Fre.made_new1 38 _ 39 _ (by kernel_rfl) rfl (by kernel_rfl) rfl rfl (fun u W9 hW9 hu => ?hone) ?_
      case hone =>
        obtain ⟨r, rfl, hrB, hrb⟩ := hu
        have h9 : GrowF _ _ _ w4 W9 := hW9
        have hsz : w1.heap.size ≤ W9.heap.size := by have := h9.size; have := H6.out.2.2.2.1.size; omega
        have hsrc : SrcN W9 21 (some ⟨r, 0, none⟩) ([x.1] : List Pth).length 1 (flP [x.1]) := by have h := box_src hrb (pC_one x.1); rw [pC_len hpx] at h; simpa [flP] using h
        obtain ⟨v', w', h1, h2, h3⟩ := app_paths (r := x.2) (M := (thereL c l i).2) (N := (thereL c l i).2) (H6.out.2.1.grow h9) (qs := [x.1]) (fun q hq => by rw [List.mem_singleton.1 hq]; exact hpx) hsz (some ⟨r, 0, none⟩) 1 hsrc (by have := H4.out.2.2.2.1; simp; omega) (p0 := (thereL c l i).1) (Nat.le_refl _)
        exact ⟨v', w', exec_append (o := ⟨some 39, _, _, _, _, _⟩) (.tmp 35) (.tmp 38) 24 rfl u6 (.slice (some ⟨r, 0, none⟩) 1 1) _ _ _ (by kernel_rfl) (by kernel_rfl) h1, (by rw [show (thereL c l i).1 ++ x.1 :: x.2 = (thereL c l i).1 ++ [x.1] ++ x.2 by simp]; exact h2), h3⟩
      simp only [Act.put, List.setIfInBounds_toArray, List.set_cons_zero, List.set_cons_succ]
      refine Fre.made_val (.pointer (some ⟨bx, 21, none⟩)) (by kernel_rfl) (by kernel_rfl) (by kernel_rfl) (fun _ _ => by kernel_rfl) ?_
      simp only [Act.put, List.setIfInBounds_toArray, List.set_cons_zero, List.set_cons_succ]
      refine Fre.made_val (.slice Ax x.2.length capx) (by kernel_rfl) (by kernel_rfl) (by kernel_rfl) (fun W9 hW9 => exec_load_cell (o := ⟨some 41, _, _, _, _, _⟩) 24 (.tmp 40) rfl ⟨bx, 21, none⟩ rfl _ _ W9 Try.underlying24 rfl (by have h9 := GrowF.blk hW9 H6.out.1 (by rfl); rw [h9.cell]; simp [pC_len hpx])) ?_
      simp only [Act.put, List.setIfInBounds_toArray, List.set_cons_zero, List.set_cons_succ]
      refine Fre.made_new1 39 _ 42 _ (by kernel_rfl) rfl (by kernel_rfl) rfl rfl (fun u W9 hW9 hu => ?hall) ?_
      case hall =>
        have h9 : GrowF _ _ _ w4 W9 := hW9
        have hsz : w1.heap.size ≤ W9.heap.size := by have := h9.size; have := H6.out.2.2.2.1.size; omega
        have hsrc : SrcN W9 21 Ax x.2.length capx (flP x.2) := by
          refine ⟨H6.out.2.2.2.2.1.len, H6.out.2.2.2.2.1.none_, H6.out.2.2.2.2.1.one, fun ad had j u hu => ?_⟩
          rcases H6.out.2.2.2.2.2.1 ad had with hlt | h0
          · have h1 := H6.out.2.2.2.2.1.cells ad had j u hu
            have h2 : (ad.add j).block = ad.block := by cases ad; simp [Addr.add]; split <;> rfl
            rw [World.cell?_of_block (w' := W9) ((h9.below (by have := H6.out.2.2.2.1.size; omega)).block _ (by rw [h2]; exact hlt))]
            exact h1
          · have h1 := H6.out.2.2.2.2.1.len
            rw [h0, Nat.zero_mul] at h1
            have := (List.getElem?_eq_some_iff.1 hu).1
            omega
        obtain ⟨v', w', h1, h2, h3⟩ := app_paths (r := []) (M := (thereL c l i).2) (N := (thereL c l i).2) hu (qs := x.2) hxok hsz Ax capx hsrc (by have := H4.out.2.2.2.1; simp; omega) (p0 := (thereL c l i).1) (by rw [flP_app, List.length_append]; omega)
        rw [show (thereL c l i).1 ++ [x.1] ++ x.2 = (thereL c l i).1 ++ x.1 :: x.2 by simp, List.append_nil] at h2
        rw [show (thereL c l i).1 ++ [x.1] ++ x.2 = (thereL c l i).1 ++ x.1 :: x.2 by simp] at h3
        exact ⟨v', w', exec_append (o := ⟨some 42, _, _, _, _, _⟩) (.tmp 39) (.tmp 41) 24 rfl u (.slice Ax x.2.length capx) _ _ _ (by kernel_rfl) (by kernel_rfl) h1, h2, h3⟩
      simp only [Act.put, List.setIfInBounds_toArray, List.set_cons_zero, List.set_cons_succ]
      show ∀ w', _ → _
      intro w5 hx5
      simp only [Fre.ended]
      have hx5 : GrowF _ _ _ w4 w5 := hx5
      intro u38 _ u39 _ y5' hy5
      simp only [Act.put, List.setIfInBounds_toArray, List.set_cons_zero, List.set_cons_succ]
      have hom5 := OwnM.grow (of' := []) H6.out.2.2.1 (by rw [List.append_nil]; exact hx5)
      have hb5 : Below w1.heap.size w1 w5 := H6.out.2.2.2.1.trans (hx5.below H6.out.2.2.2.1.size)
      have H7 := hide (And.intro hy5 (And.intro hom5 (And.intro hb5 (hx5.blk H6.out.1 (by rfl)))))
      clear hy5 hom5 hb5 hx5 hL
      go_wp2_with fail
      have hofok := H7.out.2.1.2
      have hL : ∀ p ∈ ([(52, OneMde w1.heap.size (h, x.1)), (53, fun u W => OwnM w1.heap.size W u ((thereL c l i).2 ++ [(h, x.1)]))] : Fre.MadeL), Fre.MadeOk (GrowF w1.heap.size (NPM (thereL c l (i + 1)).1 (thereL c l i).2) (FPM (thereL c l (i + 1)).1 ((thereL c l i).2 ++ [(h, x.1)]))) p.2 := by
        intro p hp
        simp only [List.mem_cons, List.not_mem_nil, or_false] at hp
        rcases hp with rfl | rfl
        · exact ⟨fun u W W' h hx => oneMde_stays (r := []) ⟨hho, hpx⟩ hofok h hx⟩
        · exact ⟨fun u W W' h hx => OwnM.grow (of' := []) h (by have hx : GrowF _ _ _ W W' := hx; rwa [List.append_nil])⟩
      refine Fre.wp_made (X := (GrowF w1.heap.size (NPM (thereL c l (i + 1)).1 (thereL c l i).2) (FPM (thereL c l (i + 1)).1 ((thereL c l i).2 ++ [(h, x.1)])))) 11 [(52, OneMde w1.heap.size (h, x.1)), (53, fun u W => OwnM w1.heap.size W u ((thereL c l i).2 ++ [(h, x.1)]))] (by kernel_rfl) (by kernel_rfl) hL (by simp) (by simp only [List.map_cons, List.map_nil, List.forall_mem_cons]; exact ⟨Nat.le_of_ble_eq_true (by kernel_rfl), Nat.le_of_ble_eq_true (by kernel_rfl), fun _ h => by cases h⟩) ?_
      simp only [List.take_succ_cons, List.take_zero, List.drop_succ_cons, List.drop_zero]
      refine Fre.made_val (u7) (by kernel_rfl) (by kernel_rfl) (by kernel_rfl) (fun _ _ => by kernel_rfl) ?_
      simp only [Act.put, List.setIfInBounds_toArray, List.set_cons_zero, List.set_cons_succ]
      refine Fre.made_val (.pointer (some ⟨w.heap.size, 21, none⟩)) (by kernel_rfl) (by kernel_rfl) (by kernel_rfl) (fun _ _ => by kernel_rfl) ?_
      simp only [Act.put, List.setIfInBounds_toArray, List.set_cons_zero, List.set_cons_succ]
      refine Fre.made_val (.slice (some ⟨bc, offc, none⟩) c.opts.length capc) (by kernel_rfl) (by kernel_rfl) (by kernel_rfl) (fun W9 hW9 => exec_load_cell (o := ⟨some 45, _, _, _, _, _⟩) 25 (.tmp 44) rfl ⟨w.heap.size, 21, none⟩ rfl _ _ W9 Try.underlying25 rfl (by rw [World.cell?_of_block ((GrowF.below hW9 H7.out.2.2.1.size).block w.heap.size (by have := H1.out.2; omega))]; rw [World.cell?_of_block (H7.out.2.2.1.block w.heap.size (by have := H1.out.2; omega))]; exact HC21.out)) ?_
      simp only [Act.put, List.setIfInBounds_toArray, List.set_cons_zero, List.set_cons_succ]
      refine Fre.made_val (.int .i64 (i : Int)) (by kernel_rfl) (by kernel_rfl) (by kernel_rfl) (fun _ _ => by kernel_rfl) ?_
      simp only [Act.put, List.setIfInBounds_toArray, List.set_cons_zero, List.set_cons_succ]
      refine Fre.made_val (.pointer (some ⟨bc, offc + (i : Int).toNat * 20, none⟩)) (by kernel_rfl) (by kernel_rfl) (by kernel_rfl) (fun W9 _ => exec_index_off (o := ⟨some 47, _, _, _, _, _⟩) 25 23 (.tmp 45) (.tmp 46) rfl bc offc c.opts.length capc (i : Int) .i64 rfl rfl ⟨i0, i1⟩ 20 Try.underlying25 sz_hash W9) ?_
      simp only [Act.put, List.setIfInBounds_toArray, List.set_cons_zero, List.set_cons_succ]
      rw [show offc + (i : Int).toNat * 20 = offc + i * 20 by omega]
      refine Fre.made_val (.agg (bv h).toArray) (by kernel_rfl) (by kernel_rfl) (by kernel_rfl) (fun W9 hW9 => exec_load_mid (o := ⟨some 48, _, _, _, _, _⟩) 23 (.tmp 47) rfl bc (offc + i * 20) rfl (bv h) _ W9 (rangeAt_same HH.out.1 (((GrowF.below hW9 H7.out.2.2.1.size).block bc (by have := H1.out.1.size; have := HH.out.2; omega)).trans (H7.out.2.2.1.block bc (by have := H1.out.1.size; have := HH.out.2; omega)))) Try.underlying23 rfl (by have := hsz hho; simpa using this)) ?_
      simp only [Act.put, List.setIfInBounds_toArray, List.set_cons_zero, List.set_cons_succ]
      refine Fre.made_val (.pointer (some ⟨bx, 0, none⟩)) (by kernel_rfl) (by kernel_rfl) (by kernel_rfl) (fun _ _ => by kernel_rfl) ?_
      simp only [Act.put, List.setIfInBounds_toArray, List.set_cons_zero, List.set_cons_succ]
      refine Fre.made_val (.agg (pC x.1).toArray) (by kernel_rfl) (by kernel_rfl) (by kernel_rfl) (fun W9 hW9 => exec_load_mid (o := ⟨some 50, _, _, _, _, _⟩) 53 (.tmp 49) rfl bx 0 rfl (pC x.1) _ W9 (opt_pT (GrowF.blk hW9 H7.out.2.2.2 (by rfl))) Try.underlying53 rfl (by have := psz hpx; simpa using this)) ?_
      simp only [Act.put, List.setIfInBounds_toArray, List.set_cons_zero, List.set_cons_succ]
      refine Fre.made_val (.agg (mC h x.1).toArray) (by kernel_rfl) (by kernel_rfl) (by kernel_rfl) (fun W9 hW9 => ?hbuild) ?_
      case hbuild =>
        have e9 : (Value.agg (bv h).toArray).cells ++ (Value.agg (pC x.1).toArray).cells = (mC h x.1).toArray := by simp [Value.cells]
        refine Eq.trans (exec_build2 (o := ⟨some 51, _, _, _, _, _⟩) 60 (.tmp 48) (.tmp 50) rfl (n1 := 20) (n2 := 21) (z := .agg zcM) (v1 := .agg (bv h).toArray) (v2 := .agg (pC x.1).toArray) rfl rfl Try.underlying60 (fun w => by kernel_rfl) (by kernel_rfl) (fun w => by kernel_rfl) (by simp [Value.cells, bvL]; exact hho) (by simp [Value.cells, pC_len hpx]) W9) ?_
        rw [e9]
      simp only [Act.put, List.setIfInBounds_toArray, List.set_cons_zero, List.set_cons_succ]
      refine Fre.made_new 52 _ (by kernel_rfl) (by kernel_rfl) rfl rfl (fun W9 hW9 => ⟨.slice (some ⟨W9.heap.size, 0, none⟩) 1 1, W9.alloc (.cells (mC h x.1).toArray 60), exec_buildSliceP (o := ⟨some 52, _, _, _, _, _⟩) (v := .agg (mC h x.1).toArray) 27 (.tmp 51) rfl rfl Try.underlying27 sz_made (by omega) (by omega) (z := .agg zcM) (fun w => by kernel_rfl) (by rw [Value.cells, List.size_toArray, mC_len hho hpx]) W9, GrowF.of_below ((Below.refl _ W9).alloc (Nat.le_refl _) _), W9.heap.size, rfl, by have h9 : GrowF _ _ _ w5 W9 := hW9; have := h9.size; have := H7.out.2.2.1.size; omega, Blk.new _ _ _⟩) ?_
      simp only [Act.put, List.setIfInBounds_toArray, List.set_cons_zero, List.set_cons_succ]
      refine Fre.made_new1 52 _ 53 _ (by kernel_rfl) rfl (by kernel_rfl) rfl rfl (fun u W9 hW9 hu => ?honem) ?_
      case honem =>
        obtain ⟨r, rfl, hrB, hrb⟩ := hu
        have h9 : GrowF _ _ _ w5 W9 := hW9
        have hsz : w1.heap.size ≤ W9.heap.size := by have := h9.size; have := H7.out.2.2.1.size; omega
        have hsrc : SrcN W9 41 (some ⟨r, 0, none⟩) ([(h, x.1)] : List Mde).length 1 (flM [(h, x.1)]) := by have hq := box_src hrb (mC_one h x.1); rw [mC_len hho hpx] at hq; simpa [flM] using hq
        obtain ⟨v', w', h1, h2, h3⟩ := app_mades (r := []) (M := (thereL c l (i + 1)).1) (N := (thereL c l (i + 1)).1) (H7.out.2.1.grow h9) (qs := [(h, x.1)]) (fun q hq => by rw [List.mem_singleton.1 hq]; exact ⟨hho, hpx⟩) hsz (some ⟨r, 0, none⟩) 1 hsrc (by have := H4.out.2.2.2.2; simp; omega) (p0 := (thereL c l i).2) (Nat.le_refl _)
        rw [List.append_nil] at h2
        exact ⟨v', w', exec_append (o := ⟨some 53, _, _, _, _, _⟩) (.tmp 43) (.tmp 52) 27 rfl u7 (.slice (some ⟨r, 0, none⟩) 1 1) _ _ _ (by kernel_rfl) (by kernel_rfl) h1, h2, h3⟩
      simp only [Act.put, List.setIfInBounds_toArray, List.set_cons_zero, List.set_cons_succ]
      show ∀ w', _ → _
      intro w6 hx6
      simp only [Fre.ended]
      have hx6 : GrowF _ _ _ w5 w6 := hx6
      intro u52 _ y6' hy6
      simp only [Act.put, List.setIfInBounds_toArray, List.set_cons_zero, List.set_cons_succ]
      have hop6 := OwnP.grow (ps' := []) (by have := H7.out.1; rw [← HN.out.1] at this; exact this) (by rw [List.append_nil]; exact hx6)
      have hb6 : Below w1.heap.size w1 w6 := H7.out.2.2.1.trans (hx6.below H7.out.2.2.1.size)
      have hy6 : OwnM w1.heap.size w6 y6' (thereL c l (i + 1)).2 := by rw [HN.out.2]; exact hy6
      have H8 := hide (And.intro hop6 (And.intro hy6 hb6))
      clear hop6 hy6 hb6 hx6 hL
      go_wp2_with fail
      go_roundw
      case rel => exact ⟨i + 1, by omega, by go_num, H8.out.1, H8.out.2.1, H8.out.2.2, by rw [HN.out.1, List.length_append, List.length_cons]; have := H4.out.2.2.2.1; omega, by rw [HN.out.2, List.length_append]; have := H4.out.2.2.2.2; simp; omega⟩
      case measure => simp [intOf]; omega
    · obtain rfl : i = l.length := by omega
      have hth : thereL c l l.length = foldT (c.cls.zip c.opts) l c.fixed c.of := by unfold thereL; rw [List.take_length]
      have hB : Below w.heap.size w wo := H1.out.1.trans (Below.mono H4.out.2.2.1 (by have := H1.out.2; omega))
      have H5 := hide (And.intro hth hB)
      clear hth hB
      go_wp2_with fail
      go_ret2
      refine ⟨⟨_, _, rfl, ?_, ?_⟩, ⟨?_, ?_⟩, H5.out.2⟩
      · rw [← H5.out.1]; exact ⟨owned_baseN H4.out.1.1 fun g hg => by have := (owned_ltN H4.out.1.1 hg).1; have := H1.out.2; omega, H4.out.1.2⟩
      · rw [← H5.out.1]; exact ⟨owned_baseN H4.out.2.1.1 fun g hg => by have := (owned_ltN H4.out.2.1.1 hg).1; have := H1.out.2; omega, H4.out.2.1.2⟩
      · rw [← H5.out.1]; have := H4.out.2.2.2.1; omega
      · rw [← H5.out.1]; have := H4.out.2.2.2.2; omega
end Go.Proofs.Ytfppddnfdinipaa
end
section
namespace Go.Proofs.Ytfppddnfdinipaa
open Go Go.RowKit Go.Maps
set_option maxRecDepth 100000
theorem cszR {v : Cvs} (h : okH v.own) : (Try.prog.info? 40).map (·.size) = some (caseC v).toArray.size := by
  rw [List.size_toArray, caseC_len h]
  kernel_rfl
set_option maxHeartbeats 8000000 in
theorem rclean_any (w : World) (v : Cvs) (c : CaseP) (hc : c.size ≤ 120) (hC : CaseAt w.heap.size w v c) (hne : c.opts.length = c.cls.length) (l : List Nat) (HLEN : l.length ≤ c.opts.length) (hin : ∀ (i : Nat) os k, c.opts[i]? = some os → l[i]? = some k → k < os.length) (vk : Value) (hK : IntsAt w w.heap.size vk (l.map fun k => ((k : Nat) : Int))) :
    Calls Try.prog 50 #[.agg (caseC v).toArray, vk] w fun e w' => e = .returned (.bool (clean1 c.own (c.cls.zip c.opts) c.fixed c.of l)) ∧ Below w.heap.size w w' := by
  have ho : okH v.own := by rw [hC.own]; exact hC.okO
  have HOW := hide hC.own
  have hsz0 := cszR ho
  obtain ⟨w1, hw1⟩ : ∃ w1, w1 = w.alloc (.cells (caseC v).toArray 40) := ⟨_, rfl⟩
  have hb1 : Below w.heap.size w w1 := by rw [hw1]; exact (Below.refl _ w).alloc (Nat.le_refl _) _
  have hk1 : Blk w1 w.heap.size 40 (caseC v).toArray := by rw [hw1]; exact Blk.new _ _ _
  have HC1 := hide (And.intro (show CaseAt w1.heap.size w1 v c from (hC.alike hb1.block).widen hb1.size) (And.intro hk1 hb1))
  have HW1 := hide hw1
  clear hb1 hk1 hC hw1
  go_enter Try.func50, Try.ntmps50
  go_wp2_with (refine wpList_value (o := ⟨some 10, _, _, _, _, _⟩) rfl (.agg (caseC v).toArray) w1 (by rw [← HW1.out]; exact exec_load_blk (o := ⟨some 10, _, _, _, _, _⟩) 40 (.tmp 2) rfl w.heap.size rfl 40 _ _ w1 HC1.out.2.1 Try.underlying40 rfl hsz0) ?_)
  refine (rthere_any w1 v c hc HC1.out.1 hne l HLEN hin vk ((hK.alike HC1.out.2.2.block).widen HC1.out.2.2.size)).mono ?_
  rintro e w2 ⟨⟨u5, u6, rfl, hop, hom⟩, ⟨hl1, hl2⟩, hb2⟩
  obtain ⟨PS, hPS⟩ : ∃ PS, PS = (foldT (c.cls.zip c.opts) l c.fixed c.of).1 := ⟨_, rfl⟩
  obtain ⟨OF, hOF⟩ : ∃ OF, OF = (foldT (c.cls.zip c.opts) l c.fixed c.of).2 := ⟨_, rfl⟩
  rw [← hPS] at hop hl1
  rw [← hOF] at hom hl2
  have hcl : clean1 c.own (c.cls.zip c.opts) c.fixed c.of l = cleanB c.own PS OF := by rw [hPS, hOF]; rfl
  have HCL := hide hcl
  have hp := hop.at_
  have hm := hom.at_
  obtain ⟨A6, cap6, rfl, _, _, _, hA6⟩ := slice_open hm
  have hB : Below w.heap.size w w2 := HC1.out.2.2.trans (Below.mono hb2 HC1.out.2.2.size)
  have hbx : w.heap.size < w2.heap.size := by have := HC1.out.2.1.lt; have := hb2.size; omega
  have hown : w2.rangeAt w.heap.size 0 (bv v.own) := rangeAt_same (rangeAt_left (c2 := [v.fixed, v.classes, v.opts, v.of]) (by have := rangeAt_blk HC1.out.2.1; simpa [caseC] using this)) (hb2.block w.heap.size HC1.out.2.1.lt)
  have HB := hide hB
  have H5 := hide (And.intro hp (And.intro hA6 (And.intro hbx hown)))
  have of9 : (OF.length : Int) ≤ 100000 := by omega
  have ps9 : PS.length ≤ 100000 := by omega
  clear hcl hp hm hl1 hl2 hA6 hB hbx hown hPS hOF hop hom hb2 hK hin
  dsimp only
  go_wp2_with fail
  go_loopw [7] (fun x wr => ∃ i, i ≤ OF.length ∧ x = .int .i64 ((i : Nat) : Int) ∧ Below w2.heap.size w2 wr ∧ ∀ (a : Nat) m, a < i → OF[a]? = some m → badI c.own PS (OF.take a) m = false) (fun x _ => OF.length - (intOf x).toNat)
  case atStart => exact ⟨0, by omega, rfl, Below.refl _ _, fun a m h => absurd h (by omega)⟩
  case round =>
    obtain ⟨wi, rfl⟩ : ∃ wi, wi = wr := ⟨_, rfl⟩
    obtain ⟨i, hi, rfl, hb6, hno⟩ := hrel
    have H6 := hide hb6
    have HNO := hide hno
    clear hb6 hno
    have i0 : (0 : Int) ≤ (i : Int) := by omega
    by_cases hi2 : i < OF.length
    · have i1 : (i : Int) < (OF.length : Int) := by omega
      obtain ⟨m, hm⟩ : ∃ m, OF[i]? = some m := ⟨_, List.getElem?_eq_getElem hi2⟩
      have HMM := hide hm
      clear hm
      obtain ⟨b6, o6, rfl, hlb6, hE6⟩ := H5.out.2.1 (by omega)
      have HE := hide hlb6
      clear hlb6
      obtain ⟨cs_i, hr_i, hat_i⟩ := hE6 i m HMM.out
      obtain ⟨rfl, hm1_i, hm2_i⟩ := madeLay_at.1 hat_i
      have hra_i : w2.rangeAt b6 (o6 + i * 41) (bv m.1) := rangeAt_left hr_i
      have hrb_i : w2.rangeAt b6 (o6 + i * 41 + 20) (pC m.2) := by have := rangeAt_right hr_i; rwa [bvL, show m.1.length = 20 from hm1_i] at this
      have HM := hide (And.intro hra_i (And.intro hrb_i (And.intro hm1_i hm2_i)))
      clear hr_i hat_i hra_i hrb_i hm1_i hm2_i
      have hsz1 : (Try.prog.info? 53).map (·.size) = some (pC m.2).length := by have := psz HM.out.2.2.2; simpa using this
      go_wp2_with (first | (refine wpList_value (o := ⟨some 24, _, _, _, _, _⟩) rfl (.pointer (some ⟨b6, o6 + (i : Int).toNat * 41, none⟩)) wi (exec_index_off (o := ⟨some 24, _, _, _, _, _⟩) 27 60 (.tmp 22) (.tmp 23) rfl b6 o6 OF.length cap6 (i : Int) .i64 rfl rfl ⟨i0, i1⟩ 41 Try.underlying27 sz_made wi) ?_; rw [show o6 + (i : Int).toNat * 41 = o6 + i * 41 by omega]) | (refine wpList_value (o := ⟨some 26, _, _, _, _, _⟩) rfl (.agg (pC m.2).toArray) wi (exec_load_mid (o := ⟨some 26, _, _, _, _, _⟩) 53 (.tmp 25) rfl b6 (o6 + i * 41 + 20) rfl (pC m.2) _ wi (rangeAt_same HM.out.2.1 (H6.out.block b6 HE.out)) Try.underlying53 rfl hsz1) ?_; simp only [Act.put, List.setIfInBounds_toArray, List.set_cons_zero, List.set_cons_succ]))
      refine (has_any PS (by omega) m.2 HM.out.2.2.2 _ wi (pathsLay.widen (pathsLay.alike H5.out.1 fun g hg => H6.out.block g hg) H6.out.size)).mono ?_
      rintro e w7 ⟨rfl, hb⟩
      have H7 := hide (H6.out.trans (Below.mono hb H6.out.size))
      clear hb
      dsimp only
      cases hkm : hasK PS m.2 with
      | false =>
        have HKM := hide hkm
        clear hkm
        go_wp2_with fail
        go_roundw
        case rel =>
          refine ⟨i + 1, by omega, by go_num, H7.out, fun a m' ha hm' => ?_⟩
          by_cases hai : a < i
          · exact HNO.out a m' hai hm'
          · obtain rfl : a = i := by omega
            rw [HMM.out] at hm'
            injection hm' with hm'
            subst hm'
            unfold badI
            rw [HKM.out]
            rfl
        case measure => simp [intOf]; omega
      | true =>
        have HKM := hide hkm
        clear hkm
        go_wp2_with fail
        refine Fre.wp_made (X := Blw) 7 [] (by kernel_rfl) (by kernel_rfl) (by simp) (by simp) (by simp) ?_
        simp only [List.take_succ_cons, List.take_zero, List.drop_succ_cons, List.drop_zero]
        refine Fre.made_val (.slice (some ⟨b6, o6, none⟩) OF.length cap6) (by kernel_rfl) (by kernel_rfl) (by kernel_rfl) (fun _ _ => by kernel_rfl) ?_
        simp only [Act.put, List.setIfInBounds_toArray, List.set_cons_zero, List.set_cons_succ]
        refine Fre.made_val (.int .i64 (i : Int)) (by kernel_rfl) (by kernel_rfl) (by kernel_rfl) (fun _ _ => by kernel_rfl) ?_
        simp only [Act.put, List.setIfInBounds_toArray, List.set_cons_zero, List.set_cons_succ]
        refine Fre.made_val (.pointer (some ⟨b6, o6 + (i : Int).toNat * 41, none⟩)) (by kernel_rfl) (by kernel_rfl) (by kernel_rfl) (fun W9 _ => exec_index_off (o := ⟨some 31, _, _, _, _, _⟩) 27 60 (.tmp 29) (.tmp 30) rfl b6 o6 OF.length cap6 (i : Int) .i64 rfl rfl ⟨i0, i1⟩ 41 Try.underlying27 sz_made W9) ?_
        simp only [Act.put, List.setIfInBounds_toArray, List.set_cons_zero, List.set_cons_succ]
        rw [show o6 + (i : Int).toNat * 41 = o6 + i * 41 by omega]
        refine Fre.made_val (.pointer (some ⟨b6, o6 + i * 41, none⟩)) (by kernel_rfl) (by kernel_rfl) (by kernel_rfl) (fun _ _ => by kernel_rfl) ?_
        simp only [Act.put, List.setIfInBounds_toArray, List.set_cons_zero, List.set_cons_succ]
        refine Fre.made_val (.agg (bv m.1).toArray) (by kernel_rfl) (by kernel_rfl) (by kernel_rfl) (fun W9 hW9 => exec_load_mid (o := ⟨some 33, _, _, _, _, _⟩) 23 (.tmp 32) rfl b6 (o6 + i * 41) rfl (bv m.1) _ W9 (rangeAt_same (rangeAt_same HM.out.1 (H7.out.block b6 HE.out)) ((blw hW9).block b6 (Nat.lt_of_lt_of_le HE.out H7.out.size))) Try.underlying23 rfl (by have := hsz HM.out.2.2.1; simpa using this)) ?_
        simp only [Act.put, List.setIfInBounds_toArray, List.set_cons_zero, List.set_cons_succ]
        refine Fre.made_val (.pointer (some ⟨w.heap.size, 0, none⟩)) (by kernel_rfl) (by kernel_rfl) (by kernel_rfl) (fun _ _ => by kernel_rfl) ?_
        simp only [Act.put, List.setIfInBounds_toArray, List.set_cons_zero, List.set_cons_succ]
        refine Fre.made_val (.agg (bv v.own).toArray) (by kernel_rfl) (by kernel_rfl) (by kernel_rfl) (fun W9 hW9 => exec_load_mid (o := ⟨some 35, _, _, _, _, _⟩) 23 (.tmp 34) rfl w.heap.size 0 rfl (bv v.own) _ W9 (rangeAt_same (rangeAt_same H5.out.2.2.2 (H7.out.block w.heap.size H5.out.2.2.1)) ((blw hW9).block w.heap.size (Nat.lt_of_lt_of_le H5.out.2.2.1 H7.out.size))) Try.underlying23 rfl (by have := hsz ho; simpa using this)) ?_
        simp only [Act.put, List.setIfInBounds_toArray, List.set_cons_zero, List.set_cons_succ]
        show ∀ w', _ → _
        intro w8 hb
        simp only [Fre.ended]
        have hb : Below w7.heap.size w7 w8 := hb
        have H8 := hide (H7.out.trans (Below.mono hb H7.out.size))
        clear hb
        by_cases h1 : m.1 = v.own
        · have hd1 : decide (m.1 = v.own) = true := by simp [h1]
          have HH1 := hide h1
          clear h1
          go_wp2_with (refine wpList_value (o := ⟨some 36, _, _, _, _, _⟩) rfl (.bool true) w8 (exec_binop_agg (o := ⟨some 36, _, _, _, _, _⟩) .eql 23 (.tmp 33) (.tmp 35) _ rfl (bv m.1).toArray (bv v.own).toArray rfl rfl (by kernel_rfl) _ (fun W => by have := bin_eq_hash m.1 v.own HM.out.2.2.1 ho W; rw [hd1] at this; exact this) w8) ?_)
          go_ret
          have e : clean1 c.own (c.cls.zip c.opts) c.fixed c.of l = false := by
            rw [HCL.out]
            refine cleanB_not.2 ⟨i, m, HMM.out, badI_iff.2 ⟨hasK_mem.1 HKM.out, ?_⟩⟩
            exact .inl (by rw [← HOW.out]; exact HH1.out)
          rw [e]
          exact ⟨rfl, HB.out.trans (Below.mono H8.out HB.out.size)⟩
        · have hd1 : decide (m.1 = v.own) = false := by simp [h1]
          have HH1 := hide h1
          clear h1
          go_wp2_with (refine wpList_value (o := ⟨some 36, _, _, _, _, _⟩) rfl (.bool false) w8 (exec_binop_agg (o := ⟨some 36, _, _, _, _, _⟩) .eql 23 (.tmp 33) (.tmp 35) _ rfl (bv m.1).toArray (bv v.own).toArray rfl rfl (by kernel_rfl) _ (fun W => by have := bin_eq_hash m.1 v.own HM.out.2.2.1 ho W; rw [hd1] at this; exact this) w8) ?_)
          go_loopw [8] (fun x wr => ∃ k, k ≤ i ∧ x = .int .i64 ((k : Nat) : Int) ∧ Below w2.heap.size w2 wr ∧ ∀ (a : Nat) k', a < k → OF[a]? = some k' → ¬ (k'.1 = m.1 ∧ k'.2 ≠ m.2 ∧ k'.2 ∈ PS)) (fun x _ => i - (intOf x).toNat)
          case atStart => exact ⟨0, by omega, rfl, H8.out, fun a m h => absurd h (by omega)⟩
          case round =>
            obtain ⟨wk, rfl⟩ : ∃ wk, wk = wr := ⟨_, rfl⟩
            obtain ⟨k, hk, rfl, hb9, hno⟩ := hrel
            have H9 := hide hb9
            have HN9 := hide hno
            clear hb9 hno
            have k0 : (0 : Int) ≤ (k : Int) := by omega
            by_cases hk2 : k < i
            · have k1 : (k : Int) < (OF.length : Int) := by omega
              have ki : (k : Int) < (i : Int) := by omega
              obtain ⟨kk, hkk⟩ : ∃ m, OF[k]? = some m := ⟨_, List.getElem?_eq_getElem (by omega)⟩
              have HKK := hide hkk
              clear hkk
              obtain ⟨cs_k, hr_k, hat_k⟩ := hE6 k kk HKK.out
              obtain ⟨rfl, hm1_k, hm2_k⟩ := madeLay_at.1 hat_k
              have hra_k : w2.rangeAt b6 (o6 + k * 41) (bv kk.1) := rangeAt_left hr_k
              have hrb_k : w2.rangeAt b6 (o6 + k * 41 + 20) (pC kk.2) := by have := rangeAt_right hr_k; rwa [bvL, show kk.1.length = 20 from hm1_k] at this
              have HK := hide (And.intro hra_k (And.intro hrb_k (And.intro hm1_k hm2_k)))
              clear hr_k hat_k hra_k hrb_k hm1_k hm2_k
              go_wp2_with fail
              by_cases h2 : kk.1 = m.1
              · have hd2 : decide (kk.1 = m.1) = true := by simp [h2]
                have HH2 := hide h2
                clear h2
                by_cases h3 : kk.2 = m.2
                · have hd3 : (!decide (kk.2 = m.2)) = false := by simp [h3]
                  have HH3 := hide h3
                  clear h3
                  refine Fre.wp_made (X := Blw) 32 [] (by kernel_rfl) (by kernel_rfl) (by simp) (by simp) (by simp) ?_
                  simp only [List.take_succ_cons, List.take_zero, List.drop_succ_cons, List.drop_zero]
                  refine Fre.made_val (.slice (some ⟨b6, o6, none⟩) OF.length cap6) (by kernel_rfl) (by kernel_rfl) (by kernel_rfl) (fun _ _ => by kernel_rfl) ?_
                  simp only [Act.put, List.setIfInBounds_toArray, List.set_cons_zero, List.set_cons_succ]
                  refine Fre.made_val (.int .i64 (k : Int)) (by kernel_rfl) (by kernel_rfl) (by kernel_rfl) (fun _ _ => by kernel_rfl) ?_
                  simp only [Act.put, List.setIfInBounds_toArray, List.set_cons_zero, List.set_cons_succ]
                  refine Fre.made_val (.pointer (some ⟨b6, o6 + (k : Int).toNat * 41, none⟩)) (by kernel_rfl) (by kernel_rfl) (by kernel_rfl) (fun W9 _ => exec_index_off (o := ⟨some 44, _, _, _, _, _⟩) 27 60 (.tmp 42) (.tmp 43) rfl b6 o6 OF.length cap6 (k : Int) .i64 rfl rfl ⟨k0, k1⟩ 41 Try.underlying27 sz_made W9) ?_
                  simp only [Act.put, List.setIfInBounds_toArray, List.set_cons_zero, List.set_cons_succ]
                  rw [show o6 + (k : Int).toNat * 41 = o6 + k * 41 by omega]
                  refine Fre.made_val (.pointer (some ⟨b6, o6 + k * 41, none⟩)) (by kernel_rfl) (by kernel_rfl) (by kernel_rfl) (fun _ _ => by kernel_rfl) ?_
                  simp only [Act.put, List.setIfInBounds_toArray, List.set_cons_zero, List.set_cons_succ]
                  refine Fre.made_val (.agg (bv kk.1).toArray) (by kernel_rfl) (by kernel_rfl) (by kernel_rfl) (fun W9 hW9 => exec_load_mid (o := ⟨some 46, _, _, _, _, _⟩) 23 (.tmp 45) rfl b6 (o6 + k * 41) rfl (bv kk.1) _ W9 (rangeAt_same (rangeAt_same HK.out.1 (H9.out.block b6 HE.out)) ((blw hW9).block b6 (Nat.lt_of_lt_of_le HE.out H9.out.size))) Try.underlying23 rfl (by have := hsz HK.out.2.2.1; simpa using this)) ?_
                  simp only [Act.put, List.setIfInBounds_toArray, List.set_cons_zero, List.set_cons_succ]
                  refine Fre.made_val (.slice (some ⟨b6, o6, none⟩) OF.length cap6) (by kernel_rfl) (by kernel_rfl) (by kernel_rfl) (fun _ _ => by kernel_rfl) ?_
                  simp only [Act.put, List.setIfInBounds_toArray, List.set_cons_zero, List.set_cons_succ]
                  refine Fre.made_val (.int .i64 (i : Int)) (by kernel_rfl) (by kernel_rfl) (by kernel_rfl) (fun _ _ => by kernel_rfl) ?_
                  simp only [Act.put, List.setIfInBounds_toArray, List.set_cons_zero, List.set_cons_succ]
                  refine Fre.made_val (.pointer (some ⟨b6, o6 + (i : Int).toNat * 41, none⟩)) (by kernel_rfl) (by kernel_rfl) (by kernel_rfl) (fun W9 _ => exec_index_off (o := ⟨some 49, _, _, _, _, _⟩) 27 60 (.tmp 47) (.tmp 48) rfl b6 o6 OF.length cap6 (i : Int) .i64 rfl rfl ⟨i0, i1⟩ 41 Try.underlying27 sz_made W9) ?_
                  simp only [Act.put, List.setIfInBounds_toArray, List.set_cons_zero, List.set_cons_succ]
                  rw [show o6 + (i : Int).toNat * 41 = o6 + i * 41 by omega]
                  refine Fre.made_val (.pointer (some ⟨b6, o6 + i * 41, none⟩)) (by kernel_rfl) (by kernel_rfl) (by kernel_rfl) (fun _ _ => by kernel_rfl) ?_
                  simp only [Act.put, List.setIfInBounds_toArray, List.set_cons_zero, List.set_cons_succ]
                  refine Fre.made_val (.agg (bv m.1).toArray) (by kernel_rfl) (by kernel_rfl) (by kernel_rfl) (fun W9 hW9 => exec_load_mid (o := ⟨some 51, _, _, _, _, _⟩) 23 (.tmp 50) rfl b6 (o6 + i * 41) rfl (bv m.1) _ W9 (rangeAt_same (rangeAt_same HM.out.1 (H9.out.block b6 HE.out)) ((blw hW9).block b6 (Nat.lt_of_lt_of_le HE.out H9.out.size))) Try.underlying23 rfl (by have := hsz HM.out.2.2.1; simpa using this)) ?_
                  simp only [Act.put, List.setIfInBounds_toArray, List.set_cons_zero, List.set_cons_succ]
                  refine Fre.made_val (.bool true) (by kernel_rfl) (by kernel_rfl) (by kernel_rfl) (fun W9 hW9 => exec_binop_agg (o := ⟨some 52, _, _, _, _, _⟩) .eql 23 (.tmp 46) (.tmp 51) _ rfl (bv kk.1).toArray (bv m.1).toArray rfl rfl (by kernel_rfl) _ (fun W => by have := bin_eq_hash kk.1 m.1 HK.out.2.2.1 HM.out.2.2.1 W; rw [hd2] at this; exact this) W9) ?_
                  simp only [Act.put, List.setIfInBounds_toArray, List.set_cons_zero, List.set_cons_succ]
                  refine Fre.made_val (.bool true) (by kernel_rfl) (by kernel_rfl) (by kernel_rfl) (fun _ _ => by kernel_rfl) ?_
                  simp only [Act.put, List.setIfInBounds_toArray, List.set_cons_zero, List.set_cons_succ]
                  refine Fre.made_val (.slice (some ⟨b6, o6, none⟩) OF.length cap6) (by kernel_rfl) (by kernel_rfl) (by kernel_rfl) (fun _ _ => by kernel_rfl) ?_
                  simp only [Act.put, List.setIfInBounds_toArray, List.set_cons_zero, List.set_cons_succ]
                  refine Fre.made_val (.int .i64 (k : Int)) (by kernel_rfl) (by kernel_rfl) (by kernel_rfl) (fun _ _ => by kernel_rfl) ?_
                  simp only [Act.put, List.setIfInBounds_toArray, List.set_cons_zero, List.set_cons_succ]
                  refine Fre.made_val (.pointer (some ⟨b6, o6 + (k : Int).toNat * 41, none⟩)) (by kernel_rfl) (by kernel_rfl) (by kernel_rfl) (fun W9 _ => exec_index_off (o := ⟨some 56, _, _, _, _, _⟩) 27 60 (.tmp 54) (.tmp 55) rfl b6 o6 OF.length cap6 (k : Int) .i64 rfl rfl ⟨k0, k1⟩ 41 Try.underlying27 sz_made W9) ?_
                  simp only [Act.put, List.setIfInBounds_toArray, List.set_cons_zero, List.set_cons_succ]
                  rw [show o6 + (k : Int).toNat * 41 = o6 + k * 41 by omega]
                  refine Fre.made_val (.pointer (some ⟨b6, o6 + k * 41 + 20, none⟩)) (by kernel_rfl) (by kernel_rfl) (by kernel_rfl) (fun _ _ => by kernel_rfl) ?_
                  simp only [Act.put, List.setIfInBounds_toArray, List.set_cons_zero, List.set_cons_succ]
                  refine Fre.made_val (.agg (pC kk.2).toArray) (by kernel_rfl) (by kernel_rfl) (by kernel_rfl) (fun W9 hW9 => exec_load_mid (o := ⟨some 58, _, _, _, _, _⟩) 53 (.tmp 57) rfl b6 (o6 + k * 41 + 20) rfl (pC kk.2) _ W9 (rangeAt_same (rangeAt_same HK.out.2.1 (H9.out.block b6 HE.out)) ((blw hW9).block b6 (Nat.lt_of_lt_of_le HE.out H9.out.size))) Try.underlying53 rfl (by have := psz HK.out.2.2.2; simpa using this)) ?_
                  simp only [Act.put, List.setIfInBounds_toArray, List.set_cons_zero, List.set_cons_succ]
                  refine Fre.made_val (.slice (some ⟨b6, o6, none⟩) OF.length cap6) (by kernel_rfl) (by kernel_rfl) (by kernel_rfl) (fun _ _ => by kernel_rfl) ?_
                  simp only [Act.put, List.setIfInBounds_toArray, List.set_cons_zero, List.set_cons_succ]
                  refine Fre.made_val (.int .i64 (i : Int)) (by kernel_rfl) (by kernel_rfl) (by kernel_rfl) (fun _ _ => by kernel_rfl) ?_
                  simp only [Act.put, List.setIfInBounds_toArray, List.set_cons_zero, List.set_cons_succ]
                  refine Fre.made_val (.pointer (some ⟨b6, o6 + (i : Int).toNat * 41, none⟩)) (by kernel_rfl) (by kernel_rfl) (by kernel_rfl) (fun W9 _ => exec_index_off (o := ⟨some 61, _, _, _, _, _⟩) 27 60 (.tmp 59) (.tmp 60) rfl b6 o6 OF.length cap6 (i : Int) .i64 rfl rfl ⟨i0, i1⟩ 41 Try.underlying27 sz_made W9) ?_
                  simp only [Act.put, List.setIfInBounds_toArray, List.set_cons_zero, List.set_cons_succ]
                  rw [show o6 + (i : Int).toNat * 41 = o6 + i * 41 by omega]
                  refine Fre.made_val (.pointer (some ⟨b6, o6 + i * 41 + 20, none⟩)) (by kernel_rfl) (by kernel_rfl) (by kernel_rfl) (fun _ _ => by kernel_rfl) ?_
                  simp only [Act.put, List.setIfInBounds_toArray, List.set_cons_zero, List.set_cons_succ]
                  refine Fre.made_val (.agg (pC m.2).toArray) (by kernel_rfl) (by kernel_rfl) (by kernel_rfl) (fun W9 hW9 => exec_load_mid (o := ⟨some 63, _, _, _, _, _⟩) 53 (.tmp 62) rfl b6 (o6 + i * 41 + 20) rfl (pC m.2) _ W9 (rangeAt_same (rangeAt_same HM.out.2.1 (H9.out.block b6 HE.out)) ((blw hW9).block b6 (Nat.lt_of_lt_of_le HE.out H9.out.size))) Try.underlying53 rfl (by have := psz HM.out.2.2.2; simpa using this)) ?_
                  simp only [Act.put, List.setIfInBounds_toArray, List.set_cons_zero, List.set_cons_succ]
                  refine Fre.made_val (.bool false) (by kernel_rfl) (by kernel_rfl) (by kernel_rfl) (fun W9 hW9 => exec_binop_agg (o := ⟨some 64, _, _, _, _, _⟩) .neq 53 (.tmp 58) (.tmp 63) _ rfl (pC kk.2).toArray (pC m.2).toArray rfl rfl (by kernel_rfl) _ (fun W => by have := bin_ne_path kk.2 m.2 HK.out.2.2.2 HM.out.2.2.2 W; rw [hd3] at this; exact this) W9) ?_
                  simp only [Act.put, List.setIfInBounds_toArray, List.set_cons_zero, List.set_cons_succ]
                  refine Fre.made_val (.bool false) (by kernel_rfl) (by kernel_rfl) (by kernel_rfl) (fun _ _ => by kernel_rfl) ?_
                  simp only [Act.put, List.setIfInBounds_toArray, List.set_cons_zero, List.set_cons_succ]
                  refine Fre.made_val (.bool false) (by kernel_rfl) (by kernel_rfl) (by kernel_rfl) (fun _ _ => by kernel_rfl) ?_
                  simp only [Act.put, List.setIfInBounds_toArray, List.set_cons_zero, List.set_cons_succ]
                  refine Fre.made_skip (by kernel_rfl) (by kernel_rfl) (by kernel_rfl) ?_
                  refine Fre.made_skip (by kernel_rfl) (by kernel_rfl) (by kernel_rfl) ?_
                  refine Fre.made_skip (by kernel_rfl) (by kernel_rfl) (by kernel_rfl) ?_
                  refine Fre.made_skip (by kernel_rfl) (by kernel_rfl) (by kernel_rfl) ?_
                  refine Fre.made_skip (by kernel_rfl) (by kernel_rfl) (by kernel_rfl) ?_
                  refine Fre.made_skip (by kernel_rfl) (by kernel_rfl) (by kernel_rfl) ?_
                  refine Fre.made_skip (by kernel_rfl) (by kernel_rfl) (by kernel_rfl) ?_
                  show ∀ w', _ → _
                  intro w10 hb
                  simp only [Fre.ended]
                  have hb : Below wk.heap.size wk w10 := hb
                  have H10 := hide (H9.out.trans (Below.mono hb H9.out.size))
                  clear hb
                  go_wp2_with fail
                  go_roundw
                  case rel =>
                    refine ⟨k + 1, by omega, by go_num, H10.out, fun a k' ha hk' => ?_⟩
                    by_cases hak : a < k
                    · exact HN9.out a k' hak hk'
                    · obtain rfl : a = k := by omega
                      rw [HKK.out] at hk'
                      injection hk' with hk'
                      subst hk'
                      exact fun h => h.2.1 HH3.out
                  case measure => simp [intOf]; omega
                · have hd3 : (!decide (kk.2 = m.2)) = true := by simp [h3]
                  have HH3 := hide h3
                  clear h3
                  refine Fre.wp_made (X := Blw) 32 [] (by kernel_rfl) (by kernel_rfl) (by simp) (by simp) (by simp) ?_
                  simp only [List.take_succ_cons, List.take_zero, List.drop_succ_cons, List.drop_zero]
                  refine Fre.made_val (.slice (some ⟨b6, o6, none⟩) OF.length cap6) (by kernel_rfl) (by kernel_rfl) (by kernel_rfl) (fun _ _ => by kernel_rfl) ?_
                  simp only [Act.put, List.setIfInBounds_toArray, List.set_cons_zero, List.set_cons_succ]
                  refine Fre.made_val (.int .i64 (k : Int)) (by kernel_rfl) (by kernel_rfl) (by kernel_rfl) (fun _ _ => by kernel_rfl) ?_
                  simp only [Act.put, List.setIfInBounds_toArray, List.set_cons_zero, List.set_cons_succ]
                  refine Fre.made_val (.pointer (some ⟨b6, o6 + (k : Int).toNat * 41, none⟩)) (by kernel_rfl) (by kernel_rfl) (by kernel_rfl) (fun W9 _ => exec_index_off (o := ⟨some 44, _, _, _, _, _⟩) 27 60 (.tmp 42) (.tmp 43) rfl b6 o6 OF.length cap6 (k : Int) .i64 rfl rfl ⟨k0, k1⟩ 41 Try.underlying27 sz_made W9) ?_
                  simp only [Act.put, List.setIfInBounds_toArray, List.set_cons_zero, List.set_cons_succ]
                  rw [show o6 + (k : Int).toNat * 41 = o6 + k * 41 by omega]
                  refine Fre.made_val (.pointer (some ⟨b6, o6 + k * 41, none⟩)) (by kernel_rfl) (by kernel_rfl) (by kernel_rfl) (fun _ _ => by kernel_rfl) ?_
                  simp only [Act.put, List.setIfInBounds_toArray, List.set_cons_zero, List.set_cons_succ]
                  refine Fre.made_val (.agg (bv kk.1).toArray) (by kernel_rfl) (by kernel_rfl) (by kernel_rfl) (fun W9 hW9 => exec_load_mid (o := ⟨some 46, _, _, _, _, _⟩) 23 (.tmp 45) rfl b6 (o6 + k * 41) rfl (bv kk.1) _ W9 (rangeAt_same (rangeAt_same HK.out.1 (H9.out.block b6 HE.out)) ((blw hW9).block b6 (Nat.lt_of_lt_of_le HE.out H9.out.size))) Try.underlying23 rfl (by have := hsz HK.out.2.2.1; simpa using this)) ?_
                  simp only [Act.put, List.setIfInBounds_toArray, List.set_cons_zero, List.set_cons_succ]
                  refine Fre.made_val (.slice (some ⟨b6, o6, none⟩) OF.length cap6) (by kernel_rfl) (by kernel_rfl) (by kernel_rfl) (fun _ _ => by kernel_rfl) ?_
                  simp only [Act.put, List.setIfInBounds_toArray, List.set_cons_zero, List.set_cons_succ]
                  refine Fre.made_val (.int .i64 (i : Int)) (by kernel_rfl) (by kernel_rfl) (by kernel_rfl) (fun _ _ => by kernel_rfl) ?_
                  simp only [Act.put, List.setIfInBounds_toArray, List.set_cons_zero, List.set_cons_succ]
                  refine Fre.made_val (.pointer (some ⟨b6, o6 + (i : Int).toNat * 41, none⟩)) (by kernel_rfl) (by kernel_rfl) (by kernel_rfl) (fun W9 _ => exec_index_off (o := ⟨some 49, _, _, _, _, _⟩) 27 60 (.tmp 47) (.tmp 48) rfl b6 o6 OF.length cap6 (i : Int) .i64 rfl rfl ⟨i0, i1⟩ 41 Try.underlying27 sz_made W9) ?_
                  simp only [Act.put, List.setIfInBounds_toArray, List.set_cons_zero, List.set_cons_succ]
                  rw [show o6 + (i : Int).toNat * 41 = o6 + i * 41 by omega]
                  refine Fre.made_val (.pointer (some ⟨b6, o6 + i * 41, none⟩)) (by kernel_rfl) (by kernel_rfl) (by kernel_rfl) (fun _ _ => by kernel_rfl) ?_
                  simp only [Act.put, List.setIfInBounds_toArray, List.set_cons_zero, List.set_cons_succ]
                  refine Fre.made_val (.agg (bv m.1).toArray) (by kernel_rfl) (by kernel_rfl) (by kernel_rfl) (fun W9 hW9 => exec_load_mid (o := ⟨some 51, _, _, _, _, _⟩) 23 (.tmp 50) rfl b6 (o6 + i * 41) rfl (bv m.1) _ W9 (rangeAt_same (rangeAt_same HM.out.1 (H9.out.block b6 HE.out)) ((blw hW9).block b6 (Nat.lt_of_lt_of_le HE.out H9.out.size))) Try.underlying23 rfl (by have := hsz HM.out.2.2.1; simpa using this)) ?_
                  simp only [Act.put, List.setIfInBounds_toArray, List.set_cons_zero, List.set_cons_succ]
                  refine Fre.made_val (.bool true) (by kernel_rfl) (by kernel_rfl) (by kernel_rfl) (fun W9 hW9 => exec_binop_agg (o := ⟨some 52, _, _, _, _, _⟩) .eql 23 (.tmp 46) (.tmp 51) _ rfl (bv kk.1).toArray (bv m.1).toArray rfl rfl (by kernel_rfl) _ (fun W => by have := bin_eq_hash kk.1 m.1 HK.out.2.2.1 HM.out.2.2.1 W; rw [hd2] at this; exact this) W9) ?_
                  simp only [Act.put, List.setIfInBounds_toArray, List.set_cons_zero, List.set_cons_succ]
                  refine Fre.made_val (.bool true) (by kernel_rfl) (by kernel_rfl) (by kernel_rfl) (fun _ _ => by kernel_rfl) ?_
                  simp only [Act.put, List.setIfInBounds_toArray, List.set_cons_zero, List.set_cons_succ]
                  refine Fre.made_val (.slice (some ⟨b6, o6, none⟩) OF.length cap6) (by kernel_rfl) (by kernel_rfl) (by kernel_rfl) (fun _ _ => by kernel_rfl) ?_
                  simp only [Act.put, List.setIfInBounds_toArray, List.set_cons_zero, List.set_cons_succ]
                  refine Fre.made_val (.int .i64 (k : Int)) (by kernel_rfl) (by kernel_rfl) (by kernel_rfl) (fun _ _ => by kernel_rfl) ?_
                  simp only [Act.put, List.setIfInBounds_toArray, List.set_cons_zero, List.set_cons_succ]
                  refine Fre.made_val (.pointer (some ⟨b6, o6 + (k : Int).toNat * 41, none⟩)) (by kernel_rfl) (by kernel_rfl) (by kernel_rfl) (fun W9 _ => exec_index_off (o := ⟨some 56, _, _, _, _, _⟩) 27 60 (.tmp 54) (.tmp 55) rfl b6 o6 OF.length cap6 (k : Int) .i64 rfl rfl ⟨k0, k1⟩ 41 Try.underlying27 sz_made W9) ?_
                  simp only [Act.put, List.setIfInBounds_toArray, List.set_cons_zero, List.set_cons_succ]
                  rw [show o6 + (k : Int).toNat * 41 = o6 + k * 41 by omega]
                  refine Fre.made_val (.pointer (some ⟨b6, o6 + k * 41 + 20, none⟩)) (by kernel_rfl) (by kernel_rfl) (by kernel_rfl) (fun _ _ => by kernel_rfl) ?_
                  simp only [Act.put, List.setIfInBounds_toArray, List.set_cons_zero, List.set_cons_succ]
                  refine Fre.made_val (.agg (pC kk.2).toArray) (by kernel_rfl) (by kernel_rfl) (by kernel_rfl) (fun W9 hW9 => exec_load_mid (o := ⟨some 58, _, _, _, _, _⟩) 53 (.tmp 57) rfl b6 (o6 + k * 41 + 20) rfl (pC kk.2) _ W9 (rangeAt_same (rangeAt_same HK.out.2.1 (H9.out.block b6 HE.out)) ((blw hW9).block b6 (Nat.lt_of_lt_of_le HE.out H9.out.size))) Try.underlying53 rfl (by have := psz HK.out.2.2.2; simpa using this)) ?_
                  simp only [Act.put, List.setIfInBounds_toArray, List.set_cons_zero, List.set_cons_succ]
                  refine Fre.made_val (.slice (some ⟨b6, o6, none⟩) OF.length cap6) (by kernel_rfl) (by kernel_rfl) (by kernel_rfl) (fun _ _ => by kernel_rfl) ?_
                  simp only [Act.put, List.setIfInBounds_toArray, List.set_cons_zero, List.set_cons_succ]
                  refine Fre.made_val (.int .i64 (i : Int)) (by kernel_rfl) (by kernel_rfl) (by kernel_rfl) (fun _ _ => by kernel_rfl) ?_
                  simp only [Act.put, List.setIfInBounds_toArray, List.set_cons_zero, List.set_cons_succ]
                  refine Fre.made_val (.pointer (some ⟨b6, o6 + (i : Int).toNat * 41, none⟩)) (by kernel_rfl) (by kernel_rfl) (by kernel_rfl) (fun W9 _ => exec_index_off (o := ⟨some 61, _, _, _, _, _⟩) 27 60 (.tmp 59) (.tmp 60) rfl b6 o6 OF.length cap6 (i : Int) .i64 rfl rfl ⟨i0, i1⟩ 41 Try.underlying27 sz_made W9) ?_
                  simp only [Act.put, List.setIfInBounds_toArray, List.set_cons_zero, List.set_cons_succ]
                  rw [show o6 + (i : Int).toNat * 41 = o6 + i * 41 by omega]
                  refine Fre.made_val (.pointer (some ⟨b6, o6 + i * 41 + 20, none⟩)) (by kernel_rfl) (by kernel_rfl) (by kernel_rfl) (fun _ _ => by kernel_rfl) ?_
                  simp only [Act.put, List.setIfInBounds_toArray, List.set_cons_zero, List.set_cons_succ]
                  refine Fre.made_val (.agg (pC m.2).toArray) (by kernel_rfl) (by kernel_rfl) (by kernel_rfl) (fun W9 hW9 => exec_load_mid (o := ⟨some 63, _, _, _, _, _⟩) 53 (.tmp 62) rfl b6 (o6 + i * 41 + 20) rfl (pC m.2) _ W9 (rangeAt_same (rangeAt_same HM.out.2.1 (H9.out.block b6 HE.out)) ((blw hW9).block b6 (Nat.lt_of_lt_of_le HE.out H9.out.size))) Try.underlying53 rfl (by have := psz HM.out.2.2.2; simpa using this)) ?_
                  simp only [Act.put, List.setIfInBounds_toArray, List.set_cons_zero, List.set_cons_succ]
                  refine Fre.made_val (.bool true) (by kernel_rfl) (by kernel_rfl) (by kernel_rfl) (fun W9 hW9 => exec_binop_agg (o := ⟨some 64, _, _, _, _, _⟩) .neq 53 (.tmp 58) (.tmp 63) _ rfl (pC kk.2).toArray (pC m.2).toArray rfl rfl (by kernel_rfl) _ (fun W => by have := bin_ne_path kk.2 m.2 HK.out.2.2.2 HM.out.2.2.2 W; rw [hd3] at this; exact this) W9) ?_
                  simp only [Act.put, List.setIfInBounds_toArray, List.set_cons_zero, List.set_cons_succ]
                  refine Fre.made_val (.bool true) (by kernel_rfl) (by kernel_rfl) (by kernel_rfl) (fun _ _ => by kernel_rfl) ?_
                  simp only [Act.put, List.setIfInBounds_toArray, List.set_cons_zero, List.set_cons_succ]
                  refine Fre.made_val (.bool true) (by kernel_rfl) (by kernel_rfl) (by kernel_rfl) (fun _ _ => by kernel_rfl) ?_
                  simp only [Act.put, List.setIfInBounds_toArray, List.set_cons_zero, List.set_cons_succ]
                  refine Fre.made_val (u5) (by kernel_rfl) (by kernel_rfl) (by kernel_rfl) (fun _ _ => by kernel_rfl) ?_
                  simp only [Act.put, List.setIfInBounds_toArray, List.set_cons_zero, List.set_cons_succ]
                  refine Fre.made_val (.slice (some ⟨b6, o6, none⟩) OF.length cap6) (by kernel_rfl) (by kernel_rfl) (by kernel_rfl) (fun _ _ => by kernel_rfl) ?_
                  simp only [Act.put, List.setIfInBounds_toArray, List.set_cons_zero, List.set_cons_succ]
                  refine Fre.made_val (.int .i64 (k : Int)) (by kernel_rfl) (by kernel_rfl) (by kernel_rfl) (fun _ _ => by kernel_rfl) ?_
                  simp only [Act.put, List.setIfInBounds_toArray, List.set_cons_zero, List.set_cons_succ]
                  refine Fre.made_val (.pointer (some ⟨b6, o6 + (k : Int).toNat * 41, none⟩)) (by kernel_rfl) (by kernel_rfl) (by kernel_rfl) (fun W9 _ => exec_index_off (o := ⟨some 70, _, _, _, _, _⟩) 27 60 (.tmp 68) (.tmp 69) rfl b6 o6 OF.length cap6 (k : Int) .i64 rfl rfl ⟨k0, k1⟩ 41 Try.underlying27 sz_made W9) ?_
                  simp only [Act.put, List.setIfInBounds_toArray, List.set_cons_zero, List.set_cons_succ]
                  rw [show o6 + (k : Int).toNat * 41 = o6 + k * 41 by omega]
                  refine Fre.made_val (.pointer (some ⟨b6, o6 + k * 41 + 20, none⟩)) (by kernel_rfl) (by kernel_rfl) (by kernel_rfl) (fun _ _ => by kernel_rfl) ?_
                  simp only [Act.put, List.setIfInBounds_toArray, List.set_cons_zero, List.set_cons_succ]
                  refine Fre.made_val (.agg (pC kk.2).toArray) (by kernel_rfl) (by kernel_rfl) (by kernel_rfl) (fun W9 hW9 => exec_load_mid (o := ⟨some 72, _, _, _, _, _⟩) 53 (.tmp 71) rfl b6 (o6 + k * 41 + 20) rfl (pC kk.2) _ W9 (rangeAt_same (rangeAt_same HK.out.2.1 (H9.out.block b6 HE.out)) ((blw hW9).block b6 (Nat.lt_of_lt_of_le HE.out H9.out.size))) Try.underlying53 rfl (by have := psz HK.out.2.2.2; simpa using this)) ?_
                  simp only [Act.put, List.setIfInBounds_toArray, List.set_cons_zero, List.set_cons_succ]
                  refine Fre.made_call (.bool (hasK PS kk.2)) 96 #[u5, .agg (pC kk.2).toArray] (by kernel_rfl) (by kernel_rfl) (by kernel_rfl) (fun W9 => by kernel_rfl) (fun W9 hW9 => (has_any PS (by omega) kk.2 HK.out.2.2.2 u5 W9 (pathsLay.widen (pathsLay.alike H5.out.1 fun g hg => ((blw hW9).block g (Nat.lt_of_lt_of_le hg H9.out.size)).trans (H9.out.block g hg)) (Nat.le_trans H9.out.size (blw hW9).size))).mono fun e w' ⟨h1, h2⟩ => ⟨h1, h2⟩) ?_
                  simp only [Act.put, List.setIfInBounds_toArray, List.set_cons_zero, List.set_cons_succ]
                  show ∀ w', _ → _
                  intro w10 hb
                  simp only [Fre.ended]
                  have hb : Below wk.heap.size wk w10 := hb
                  have H10 := hide (H9.out.trans (Below.mono hb H9.out.size))
                  clear hb
                  cases hkn : hasK PS kk.2 with
                  | false =>
                    have HKN := hide hkn
                    clear hkn
                    go_wp2_with fail
                    go_roundw
                    case rel =>
                      refine ⟨k + 1, by omega, by go_num, H10.out, fun a k' ha hk' => ?_⟩
                      by_cases hak : a < k
                      · exact HN9.out a k' hak hk'
                      · obtain rfl : a = k := by omega
                        rw [HKK.out] at hk'
                        injection hk' with hk'
                        subst hk'
                        intro h
                        have := hasK_mem.2 h.2.2
                        rw [HKN.out] at this
                        cases this
                    case measure => simp [intOf]; omega
                  | true =>
                    have HKN := hide hkn
                    clear hkn
                    go_wp2_with fail
                    go_ret
                    have e : clean1 c.own (c.cls.zip c.opts) c.fixed c.of l = false := by
                      rw [HCL.out]
                      refine cleanB_not.2 ⟨i, m, HMM.out, badI_iff.2 ⟨hasK_mem.1 HKM.out, ?_⟩⟩
                      exact .inr ⟨kk, mem_take' HKK.out hk2, HH2.out, HH3.out, hasK_mem.1 HKN.out⟩
                    rw [e]
                    exact ⟨rfl, HB.out.trans (Below.mono H10.out HB.out.size)⟩
              · have hd2 : decide (kk.1 = m.1) = false := by simp [h2]
                have HH2 := hide h2
                clear h2
                refine Fre.wp_made (X := Blw) 32 [] (by kernel_rfl) (by kernel_rfl) (by simp) (by simp) (by simp) ?_
                simp only [List.take_succ_cons, List.take_zero, List.drop_succ_cons, List.drop_zero]
                refine Fre.made_val (.slice (some ⟨b6, o6, none⟩) OF.length cap6) (by kernel_rfl) (by kernel_rfl) (by kernel_rfl) (fun _ _ => by kernel_rfl) ?_
                simp only [Act.put, List.setIfInBounds_toArray, List.set_cons_zero, List.set_cons_succ]
                refine Fre.made_val (.int .i64 (k : Int)) (by kernel_rfl) (by kernel_rfl) (by kernel_rfl) (fun _ _ => by kernel_rfl) ?_
                simp only [Act.put, List.setIfInBounds_toArray, List.set_cons_zero, List.set_cons_succ]
                refine Fre.made_val (.pointer (some ⟨b6, o6 + (k : Int).toNat * 41, none⟩)) (by kernel_rfl) (by kernel_rfl) (by kernel_rfl) (fun W9 _ => exec_index_off (o := ⟨some 44, _, _, _, _, _⟩) 27 60 (.tmp 42) (.tmp 43) rfl b6 o6 OF.length cap6 (k : Int) .i64 rfl rfl ⟨k0, k1⟩ 41 Try.underlying27 sz_made W9) ?_
                simp only [Act.put, List.setIfInBounds_toArray, List.set_cons_zero, List.set_cons_succ]
                rw [show o6 + (k : Int).toNat * 41 = o6 + k * 41 by omega]
                refine Fre.made_val (.pointer (some ⟨b6, o6 + k * 41, none⟩)) (by kernel_rfl) (by kernel_rfl) (by kernel_rfl) (fun _ _ => by kernel_rfl) ?_
                simp only [Act.put, List.setIfInBounds_toArray, List.set_cons_zero, List.set_cons_succ]
                refine Fre.made_val (.agg (bv kk.1).toArray) (by kernel_rfl) (by kernel_rfl) (by kernel_rfl) (fun W9 hW9 => exec_load_mid (o := ⟨some 46, _, _, _, _, _⟩) 23 (.tmp 45) rfl b6 (o6 + k * 41) rfl (bv kk.1) _ W9 (rangeAt_same (rangeAt_same HK.out.1 (H9.out.block b6 HE.out)) ((blw hW9).block b6 (Nat.lt_of_lt_of_le HE.out H9.out.size))) Try.underlying23 rfl (by have := hsz HK.out.2.2.1; simpa using this)) ?_
                simp only [Act.put, List.setIfInBounds_toArray, List.set_cons_zero, List.set_cons_succ]
                refine Fre.made_val (.slice (some ⟨b6, o6, none⟩) OF.length cap6) (by kernel_rfl) (by kernel_rfl) (by kernel_rfl) (fun _ _ => by kernel_rfl) ?_
                simp only [Act.put, List.setIfInBounds_toArray, List.set_cons_zero, List.set_cons_succ]
                refine Fre.made_val (.int .i64 (i : Int)) (by kernel_rfl) (by kernel_rfl) (by kernel_rfl) (fun _ _ => by kernel_rfl) ?_
                simp only [Act.put, List.setIfInBounds_toArray, List.set_cons_zero, List.set_cons_succ]
                refine Fre.made_val (.pointer (some ⟨b6, o6 + (i : Int).toNat * 41, none⟩)) (by kernel_rfl) (by kernel_rfl) (by kernel_rfl) (fun W9 _ => exec_index_off (o := ⟨some 49, _, _, _, _, _⟩) 27 60 (.tmp 47) (.tmp 48) rfl b6 o6 OF.length cap6 (i : Int) .i64 rfl rfl ⟨i0, i1⟩ 41 Try.underlying27 sz_made W9) ?_
                simp only [Act.put, List.setIfInBounds_toArray, List.set_cons_zero, List.set_cons_succ]
                rw [show o6 + (i : Int).toNat * 41 = o6 + i * 41 by omega]
                refine Fre.made_val (.pointer (some ⟨b6, o6 + i * 41, none⟩)) (by kernel_rfl) (by kernel_rfl) (by kernel_rfl) (fun _ _ => by kernel_rfl) ?_
                simp only [Act.put, List.setIfInBounds_toArray, List.set_cons_zero, List.set_cons_succ]
                refine Fre.made_val (.agg (bv m.1).toArray) (by kernel_rfl) (by kernel_rfl) (by kernel_rfl) (fun W9 hW9 => exec_load_mid (o := ⟨some 51, _, _, _, _, _⟩) 23 (.tmp 50) rfl b6 (o6 + i * 41) rfl (bv m.1) _ W9 (rangeAt_same (rangeAt_same HM.out.1 (H9.out.block b6 HE.out)) ((blw hW9).block b6 (Nat.lt_of_lt_of_le HE.out H9.out.size))) Try.underlying23 rfl (by have := hsz HM.out.2.2.1; simpa using this)) ?_
                simp only [Act.put, List.setIfInBounds_toArray, List.set_cons_zero, List.set_cons_succ]
                refine Fre.made_val (.bool false) (by kernel_rfl) (by kernel_rfl) (by kernel_rfl) (fun W9 hW9 => exec_binop_agg (o := ⟨some 52, _, _, _, _, _⟩) .eql 23 (.tmp 46) (.tmp 51) _ rfl (bv kk.1).toArray (bv m.1).toArray rfl rfl (by kernel_rfl) _ (fun W => by have := bin_eq_hash kk.1 m.1 HK.out.2.2.1 HM.out.2.2.1 W; rw [hd2] at this; exact this) W9) ?_
                simp only [Act.put, List.setIfInBounds_toArray, List.set_cons_zero, List.set_cons_succ]
                refine Fre.made_val (.bool false) (by kernel_rfl) (by kernel_rfl) (by kernel_rfl) (fun _ _ => by kernel_rfl) ?_
                simp only [Act.put, List.setIfInBounds_toArray, List.set_cons_zero, List.set_cons_succ]
                refine Fre.made_skip (by kernel_rfl) (by kernel_rfl) (by kernel_rfl) ?_
                refine Fre.made_skip (by kernel_rfl) (by kernel_rfl) (by kernel_rfl) ?_
                refine Fre.made_skip (by kernel_rfl) (by kernel_rfl) (by kernel_rfl) ?_
                refine Fre.made_skip (by kernel_rfl) (by kernel_rfl) (by kernel_rfl) ?_
                refine Fre.made_skip (by kernel_rfl) (by kernel_rfl) (by kernel_rfl) ?_
                refine Fre.made_skip (by kernel_rfl) (by kernel_rfl) (by kernel_rfl) ?_
                refine Fre.made_skip (by kernel_rfl) (by kernel_rfl) (by kernel_rfl) ?_
                refine Fre.made_skip (by kernel_rfl) (by kernel_rfl) (by kernel_rfl) ?_
                refine Fre.made_skip (by kernel_rfl) (by kernel_rfl) (by kernel_rfl) ?_
                refine Fre.made_skip (by kernel_rfl) (by kernel_rfl) (by kernel_rfl) ?_
                refine Fre.made_skip (by kernel_rfl) (by kernel_rfl) (by kernel_rfl) ?_
                refine Fre.made_val (.bool false) (by kernel_rfl) (by kernel_rfl) (by kernel_rfl) (fun _ _ => by kernel_rfl) ?_
                simp only [Act.put, List.setIfInBounds_toArray, List.set_cons_zero, List.set_cons_succ]
                refine Fre.made_val (.bool false) (by kernel_rfl) (by kernel_rfl) (by kernel_rfl) (fun _ _ => by kernel_rfl) ?_
                simp only [Act.put, List.setIfInBounds_toArray, List.set_cons_zero, List.set_cons_succ]
                refine Fre.made_skip (by kernel_rfl) (by kernel_rfl) (by kernel_rfl) ?_
                refine Fre.made_skip (by kernel_rfl) (by kernel_rfl) (by kernel_rfl) ?_
                refine Fre.made_skip (by kernel_rfl) (by kernel_rfl) (by kernel_rfl) ?_
                refine Fre.made_skip (by kernel_rfl) (by kernel_rfl) (by kernel_rfl) ?_
                refine Fre.made_skip (by kernel_rfl) (by kernel_rfl) (by kernel_rfl) ?_
                refine Fre.made_skip (by kernel_rfl) (by kernel_rfl) (by kernel_rfl) ?_
                refine Fre.made_skip (by kernel_rfl) (by kernel_rfl) (by kernel_rfl) ?_
                show ∀ w', _ → _
                intro w10 hb
                simp only [Fre.ended]
                have hb : Below wk.heap.size wk w10 := hb
                have H10 := hide (H9.out.trans (Below.mono hb H9.out.size))
                clear hb
                go_wp2_with fail
                go_roundw
                case rel =>
                  refine ⟨k + 1, by omega, by go_num, H10.out, fun a k' ha hk' => ?_⟩
                  by_cases hak : a < k
                  · exact HN9.out a k' hak hk'
                  · obtain rfl : a = k := by omega
                    rw [HKK.out] at hk'
                    injection hk' with hk'
                    subst hk'
                    exact fun h => HH2.out h.1
                case measure => simp [intOf]; omega
            · obtain rfl : k = i := by omega
              go_wp2_with fail
              go_roundw
              case rel =>
                refine ⟨k + 1, by omega, by go_num, H9.out, fun a m' ha hm' => ?_⟩
                by_cases hai : a < k
                · exact HNO.out a m' hai hm'
                · obtain rfl : a = k := by omega
                  rw [HMM.out] at hm'
                  injection hm' with hm'
                  subst hm'
                  cases hb : badI c.own PS (OF.take a) m with
                  | false => rfl
                  | true =>
                    obtain ⟨_, h | ⟨k', hk', e1, e2, e3⟩⟩ := badI_iff.1 hb
                    · exact absurd h (by rw [← HOW.out]; exact HH1.out)
                    · obtain ⟨b, hb'⟩ := List.getElem?_of_mem hk'
                      have hbl := (List.getElem?_eq_some_iff.1 hb').1
                      rw [List.length_take] at hbl
                      rw [List.getElem?_take_of_lt (by omega)] at hb'
                      exact absurd ⟨e1, e2, e3⟩ (HN9.out b k' (by omega) hb')
              case measure => simp [intOf]; omega
    · obtain rfl : i = OF.length := by omega
      have e : clean1 c.own (c.cls.zip c.opts) c.fixed c.of l = true := by rw [HCL.out]; exact (cleanTo_iff OF.length).2 fun a m ha hm => HNO.out a m ha hm
      have HF := hide e
      clear e
      go_wp2_with fail
      go_ret
      rw [HF.out]
      exact ⟨rfl, HB.out.trans (Below.mono H6.out HB.out.size)⟩
end Go.Proofs.Ytfppddnfdinipaa
end
section
namespace Go.Proofs.Ytfppddnfdinipaa
open Go Go.RowKit Go.Maps
set_option maxRecDepth 100000
/-- the first places are of the rows -/
def InL (c : CaseP) (l : List Nat) : Prop := ∀ (i : Nat) os k, c.opts[i]? = some os → l[i]? = some k → k < os.length
theorem InL.snoc {c : CaseP} {l : List Nat} {k : Nat} {os : List Opt} (h : InL c l) (ho : c.opts[l.length]? = some os) (hk : k < os.length) : InL c (l ++ [k]) := fun i os' k' h1 h2 => by
  by_cases hi : i < l.length
  · rw [List.getElem?_append_left hi] at h2
    exact h i os' k' h1 h2
  · have hil := (List.getElem?_eq_some_iff.1 h2).1
    rw [List.length_append, List.length_singleton] at hil
    obtain rfl : i = l.length := by omega
    rw [ho] at h1
    rw [List.getElem?_append_right (Nat.le_refl _), Nat.sub_self] at h2
    injection h1 with h1
    injection h2 with h2
    subst h1 h2
    exact hk
theorem fold_snoc {c : CaseP} {l : List Nat} {h : Hsh} {os : List Opt} {k : Nat} {x : Opt} (hin : InL c l) (hc : c.cls[l.length]? = some h) (ho : c.opts[l.length]? = some os) (hx : os[k]? = some x) :
    foldT (c.cls.zip c.opts) (l ++ [k]) c.fixed c.of = ((foldT (c.cls.zip c.opts) l c.fixed c.of).1 ++ x.1 :: x.2, (foldT (c.cls.zip c.opts) l c.fixed c.of).2 ++ [(h, x.1)]) := by
  refine foldT_snoc _ _ _ _ h os k x (by rw [List.getElem?_zip_eq_some]; exact ⟨hc, ho⟩) hx fun i r j h1 h2 => ?_
  obtain ⟨r1, r2⟩ := r
  rw [List.getElem?_zip_eq_some] at h1
  exact hin i r2 j h1.2 h2
/-- what search does, of the rows that are left -/
def SearchC (v : Cvs) (c : CaseP) (fuel : Int) (rows : List (Hsh × List Opt)) : Prop :=
  ∀ (w : World) (l : List Nat) (vk : Value) (n : Int), CaseAt w.heap.size w v c → rows = (c.cls.zip c.opts).drop l.length → l.length ≤ c.opts.length → InL c l → OwnI 0 w vk l → 0 ≤ n → n ≤ 9223372036854775807 →
    Calls Try.prog 51 #[.agg (caseC v).toArray, vk, .int .i64 n, .int .i64 fuel] w fun e w' => ∃ u, e = .returned (.tuple #[u, .int .i64 (fromB c.own fuel rows (foldT (c.cls.zip c.opts) l c.fixed c.of).1 (foldT (c.cls.zip c.opts) l c.fixed c.of).2 n).2, .int .i64 (fromB c.own fuel rows (foldT (c.cls.zip c.opts) l c.fixed c.of).1 (foldT (c.cls.zip c.opts) l c.fixed c.of).2 n).1.code]) ∧
      (n ≤ (fromB c.own fuel rows (foldT (c.cls.zip c.opts) l c.fixed c.of).1 (foldT (c.cls.zip c.opts) l c.fixed c.of).2 n).2 ∧ (fromB c.own fuel rows (foldT (c.cls.zip c.opts) l c.fixed c.of).1 (foldT (c.cls.zip c.opts) l c.fixed c.of).2 n).2 ≤ 9223372036854775807) ∧
      ((∀ l', (fromB c.own fuel rows (foldT (c.cls.zip c.opts) l c.fixed c.of).1 (foldT (c.cls.zip c.opts) l c.fixed c.of).2 n).1 = .ok l' → OwnI 0 w' u (l ++ l')) ∧ ((∀ l', (fromB c.own fuel rows (foldT (c.cls.zip c.opts) l c.fixed c.of).1 (foldT (c.cls.zip c.opts) l c.fixed c.of).2 n).1 ≠ .ok l') → u = .slice none 0 0)) ∧ Below w.heap.size w w'
theorem tryB_step {own : Hsh} {fuel : Int} {h : Hsh} {ps : List Pth} {of : List Mde} {go : List Pth → List Mde → Int → Res × Int} {os : List Opt} {k : Nat} {x : Opt} (hx : os[k]? = some x) (n : Int) :
    tryB own fuel h ps of go k (os.drop k) n = match (if fuel ≤ n then (Res.fuel, n) else if cleanB own (ps ++ x.1 :: x.2) (of ++ [(h, x.1)]) then go (ps ++ x.1 :: x.2) (of ++ [(h, x.1)]) (n + 1) else (.conflict, n + 1)) with
    | (.conflict, m) => tryB own fuel h ps of go (k + 1) (os.drop (k + 1)) m
    | (.fuel, m) => (.fuel, m)
    | (.ok l, m) => (.ok (k :: l), m) := by
  obtain ⟨hk, rfl⟩ := List.getElem?_eq_some_iff.1 hx
  rw [List.drop_eq_getElem_cons hk]
  conv => lhs; unfold tryB
  rfl
set_option maxHeartbeats 8000000 in
theorem rsearch_any {v : Cvs} {c : CaseP} (hc : c.size ≤ 120) (hne : c.opts.length = c.cls.length) (fuel : Int) (hfu : fuel ≤ 9223372036854775807) : ∀ rows, SearchC v c fuel rows := by
  have HNE := hide hne
  obtain ⟨b1, b2, b3, b4, b5, b6, b7⟩ := CaseP.bounds hc
  have o9 : (c.opts.length : Int) ≤ 120 := by omega
  clear hne
  intro rows
  induction rows with
  | nil =>
    intro w l vk n hC hrow hll hin hv hn hn9
    have ho : okH v.own := by rw [hC.own]; exact hC.okO
    have hlen : l.length = c.opts.length := by
      have h := congrArg List.length hrow
      rw [List.length_drop, List.length_zip, HNE.out, Nat.min_self] at h
      have := HNE.out
      simp at h
      omega
    obtain ⟨w1, hw1⟩ : ∃ w1, w1 = w.alloc (.cells (caseC v).toArray 40) := ⟨_, rfl⟩
    have hb1 : Below w.heap.size w w1 := by rw [hw1]; exact (Below.refl _ w).alloc (Nat.le_refl _) _
    have hk1 : Blk w1 w.heap.size 40 (caseC v).toArray := by rw [hw1]; exact Blk.new _ _ _
    have hC1 : CaseAt w.heap.size w1 v c := hC.alike fun k hk => hb1.block k hk
    obtain ⟨Ao, capo, hvo, _, _, _, _⟩ := slice_open hC1.atO
    have hcells := case_cellsT ho hk1
    rw [hvo, ← hlen] at hcells
    obtain ⟨Av, cv, rfl⟩ : ∃ A cap, vk = .slice A l.length cap := by
      rcases owned_formN hv with ⟨e, h0, _⟩ | ⟨g, cap, cur, e, _⟩
      · exact ⟨none, 0, by rw [e, h0]⟩
      · exact ⟨_, cap, e⟩
    have H1 := hide (And.intro hb1 (And.intro hcells.2.2.1 (show OwnI 0 w1 (.slice Av l.length cv) l from owned_keepN hv fun g _ hl => hb1.block g hl)))
    have HW := hide hw1
    have l9 : (l.length : Int) ≤ 120 := by omega
    clear hb1 hk1 hC1 hvo hcells hw1 hv hlen hrow
    go_enter Try.func51, Try.ntmps51
    go_wp2_with (refine wpList_value (o := ⟨some 19, _, _, _, _, _⟩) rfl (.slice Ao l.length capo) w1 (by rw [← HW.out]; exact exec_load_cell (o := ⟨some 19, _, _, _, _, _⟩) 38 (.tmp 18) rfl ⟨w.heap.size, 22, none⟩ rfl _ _ w1 Try.underlying38 rfl H1.out.2.1) ?_)
    go_ret3
    exact ⟨_, rfl, ⟨Int.le_refl _, hn9⟩, ⟨fun l' hl => by injection hl with hl; subst hl; rw [List.append_nil]; exact H1.out.2.2, fun h => absurd rfl (h [])⟩, H1.out.1⟩
  | cons r rest ih =>
    obtain ⟨h, os⟩ := r
    intro w l vk n hC hrow hll hin hv hn hn9
    have ho : okH v.own := by rw [hC.own]; exact hC.okO
    have hsz0 := cszR ho
    have hlen : l.length < c.opts.length := by
      have h := congrArg List.length hrow
      rw [List.length_drop, List.length_zip, HNE.out, Nat.min_self] at h
      have := HNE.out
      simp at h
      omega
    have hz : (c.cls.zip c.opts)[l.length]? = some (h, os) := by
      have := congrArg (fun l => l[0]?) hrow
      simp only [List.getElem?_cons_zero, List.getElem?_drop, Nat.add_zero] at this
      exact this.symm
    obtain ⟨hcls, hop⟩ : c.cls[l.length]? = some h ∧ c.opts[l.length]? = some os := by
      rw [List.getElem?_zip_eq_some] at hz
      exact hz
    have hrest : ∀ k : Nat, rest = (c.cls.zip c.opts).drop (l ++ [k]).length := fun k => by
      have := congrArg (List.drop 1) hrow
      rw [List.drop_drop] at this
      rw [List.length_append]
      exact this
    obtain ⟨w1, hw1⟩ : ∃ w1, w1 = w.alloc (.cells (caseC v).toArray 40) := ⟨_, rfl⟩
    have hb1 : Below w.heap.size w w1 := by rw [hw1]; exact (Below.refl _ w).alloc (Nat.le_refl _) _
    have hk1 : Blk w1 w.heap.size 40 (caseC v).toArray := by rw [hw1]; exact Blk.new _ _ _
    have hC1 : CaseAt w.heap.size w1 v c := hC.alike fun k hk => hb1.block k hk
    have hz1 : w1.heap.size = w.heap.size + 1 := by rw [hw1, size_alloc]
    obtain ⟨Ao, capo, hvo, _, _, _, hAo⟩ := slice_open hC1.atO
    obtain ⟨bo, offo, rfl, hlo, hEo⟩ := hAo (by omega)
    obtain ⟨cs1, hr1, hat1⟩ := hEo l.length os hop
    obtain ⟨vr, rfl, hat1⟩ := rowLay_at hat1
    obtain ⟨Ar, capr, rfl, _, _, _, _⟩ := slice_open hat1
    have hcells := case_cellsT ho hk1
    rw [hvo] at hcells
    obtain ⟨Av, cv, rfl⟩ : ∃ A cap, vk = .slice A l.length cap := by
      rcases owned_formN hv with ⟨e, h0, _⟩ | ⟨g, cap, cur, e, _⟩
      · exact ⟨none, 0, by rw [e, h0]⟩
      · exact ⟨_, cap, e⟩
    have hat : ∀ W, Below w1.heap.size w1 W → W.cell? ⟨w.heap.size, 22, none⟩ = some (.slice (some ⟨bo, offo, none⟩) c.opts.length capo) ∧ W.cell? ⟨bo, offo + l.length, none⟩ = some (.slice Ar os.length capr) ∧ Blk W w.heap.size 40 (caseC v).toArray ∧ CaseAt W.heap.size W v c ∧ OwnI 0 W (.slice Av l.length cv) l ∧ Below w.heap.size w W := fun W hW => by
      have h9 : w1.cell? ⟨bo, offo + l.length * 1 + 0, none⟩ = some (.slice Ar os.length capr) := hr1 0 _ rfl
      rw [Nat.mul_one, Nat.add_zero] at h9
      have hb' := hb1.trans (Below.mono hW hb1.size)
      exact ⟨(World.cell?_of_block (hW.block w.heap.size (by omega))).trans hcells.2.2.1, (World.cell?_of_block (hW.block bo (by omega))).trans h9, (hW.block _ (by omega)).trans hk1, (hC.alike hb'.block).widen hb'.size, owned_keepN hv fun g _ hl => hb'.block g hl, hb'⟩
    have H1 := hide hat
    have c22 := (hat w1 (Below.refl _ _)).1
    have HW := hide hw1
    have HI := hide (And.intro hin (And.intro hcls (And.intro hop (And.intro hrest ih))))
    have l9 : (l.length : Int) ≤ 120 := by omega
    have li : ¬ (l.length : Int) = (c.opts.length : Int) := by omega
    have li2 : ((l.length : Int) == (c.opts.length : Int)) = false := beq_false_of_ne li
    have l0 : (0 : Int) ≤ (l.length : Int) := by omega
    have l1 : (l.length : Int) < (c.opts.length : Int) := by omega
    have os9 : (os.length : Int) ≤ 120 := by have := (b7 os (List.mem_of_getElem? hop)).1; omega
    clear hb1 hk1 hC hC1 hvo hcells hw1 hv hrow hz hcls hop hrest ih hin hAo hEo hr1 hat1 hat
    obtain ⟨PS, hPS⟩ : ∃ PS, PS = (foldT (c.cls.zip c.opts) l c.fixed c.of).1 := ⟨_, rfl⟩
    obtain ⟨OF, hOF⟩ : ∃ OF, OF = (foldT (c.cls.zip c.opts) l c.fixed c.of).2 := ⟨_, rfl⟩
    rw [← hPS, ← hOF]
    have HS := hide (And.intro hPS hOF)
    clear hPS hOF
    obtain ⟨RR, hRR⟩ : ∃ RR, RR = fromB c.own fuel ((h, os) :: rest) PS OF n := ⟨_, rfl⟩
    rw [← hRR]
    have HRR := hide hRR
    clear hRR
    go_enter Try.func51, Try.ntmps51
    go_wp2_with (refine wpList_value (o := ⟨some 19, _, _, _, _, _⟩) rfl (.slice (some ⟨bo, offo, none⟩) c.opts.length capo) w1 (by rw [← HW.out]; exact exec_load_cell (o := ⟨some 19, _, _, _, _, _⟩) 38 (.tmp 18) rfl ⟨w.heap.size, 22, none⟩ rfl _ _ w1 Try.underlying38 rfl c22) ?_)
    go_loopw [2, 11] (fun st x wr => ∃ (k : Nat) (m : Int), k ≤ os.length ∧ x = .int .i64 ((k : Nat) : Int) ∧ st = .int .i64 m ∧ Below w1.heap.size w1 wr ∧ n ≤ m ∧ m ≤ 9223372036854775807 ∧ RR = tryB c.own fuel h PS OF (fromB c.own fuel rest) k (os.drop k) m) (fun _ x _ => os.length - (intOf x).toNat)
    case atStart => exact ⟨0, n, by omega, rfl, rfl, Below.refl _ _, Int.le_refl _, hn9, HRR.out⟩
    case round =>
      obtain ⟨wo, rfl⟩ : ∃ wo, wo = wr := ⟨_, rfl⟩
      obtain ⟨k, m, hk, rfl, rfl, hbw, hnm, hm9, heq⟩ := hrel
      have HB := hide hbw
      have HE := hide heq
      have d22 := (H1.out wo hbw).1
      have dr := (H1.out wo hbw).2.1
      clear hbw heq c22
      have k0 : (0 : Int) ≤ (k : Int) := by omega
      by_cases hk2 : k < os.length
      · have k1 : (k : Int) < (os.length : Int) := by omega
        obtain ⟨x, hx⟩ : ∃ x, os[k]? = some x := ⟨_, List.getElem?_eq_getElem hk2⟩
        have hstep := tryB_step hx m (own := c.own) (fuel := fuel) (h := h) (ps := PS) (of := OF) (go := fromB c.own fuel rest)
        rw [← HE.out] at hstep
        have HX := hide (And.intro hx hstep)
        clear hx hstep
        by_cases hfm : fuel ≤ m
        · have e : RR = (.fuel, m) := by rw [HX.out.2, if_pos hfm]
          have HF := hide e
          clear e
          go_wp2_with fail
          go_ret3
          rw [HF.out]
          exact ⟨_, rfl, ⟨hnm, hm9⟩, ⟨fun l' hl => (by cases hl), fun _ => rfl⟩, (H1.out wo HB.out).2.2.2.2.2⟩
        · obtain ⟨w5, hw5⟩ : ∃ w5, w5 = wo.alloc (.cells #[] 3) := ⟨_, rfl⟩
          have hb5 : Below wo.heap.size wo w5 := by rw [hw5]; exact (Below.refl _ wo).alloc (Nat.le_refl _) _
          have hown5 : w5.ownsRow wo.heap.size 3 1 (.slice (some ⟨wo.heap.size, 0, none⟩) 0 0) 0 [] := by rw [hw5]; exact owned_new wo _
          have hs5 : Src w5 Av l.length cv (iv l) := OwnI.src (owned_keepN (H1.out wo HB.out).2.2.2.2.1 fun g _ hl => hb5.block g hl)
          obtain ⟨ii, hi, hz0, hz1, hz2⟩ := info_parts info_intI
          have H6 := hide (And.intro hb5 (And.intro hown5 hs5))
          have HJ := hide (And.intro hi (And.intro hz0 (And.intro hz1 hz2)))
          have HW5 := hide hw5
          clear hb5 hown5 hs5 hw5 hi hz0 hz1 hz2
          have hfm' : ¬ m ≥ fuel := by omega
          have hwr : IntKind.i64.wrap (m + 1) = m + 1 := wrapI9 _ (by omega)
          go_wp2_with (at_builtin; (refine wpList_app (o := ⟨some 43, _, _, _, _, _⟩) rfl _ _ 33 rfl wo.heap.size 3 ii (.int .i64 0) 8 Try.underlying33 HJ.out.1 HJ.out.2.1 HJ.out.2.2.1 HJ.out.2.2.2 rfl _ 0 [] ?h0 Av l.length cv (iv l) ?h4 ?h1 ?h2 ?h3 rfl rfl ?_))
          case h0 => rw [← HW5.out]; exact H6.out.2.1
          case h4 => rw [← HW5.out]; exact H6.out.2.2
          case h1 => simp only [maxLen]; omega
          case h2 => omega
          rw [← HW5.out]
          intro v6 w6 own6 gr6 _ _
          have hb6 : Below wo.heap.size wo w6 := Below.grownOwn H6.out.1 H6.out.2.1 (Nat.le_refl _) gr6
          obtain ⟨w7, hw7⟩ : ∃ w7, w7 = w6.alloc (.cells #[.int .i64 (k : Int)] 3) := ⟨_, rfl⟩
          have hb7 : Below w6.heap.size w6 w7 := by rw [hw7]; exact (Below.refl _ w6).alloc (Nat.le_refl _) _
          have hs7 : Src w7 (some ⟨w6.heap.size, 0, none⟩) 1 1 [.int .i64 (k : Int)] := by rw [hw7]; exact src_one w6 _ _ rfl
          have own7 : w7.ownsRow wo.heap.size 3 1 v6 l.length (iv l) := owned_keepN (by simpa using own6) fun g _ hl => hb7.block g hl
          have H7 := hide (And.intro (hb6.trans (Below.mono hb7 hb6.size)) (And.intro hs7 own7))
          have HW7 := hide hw7
          clear hb6 hb7 hs7 own7 own6 gr6 hw7
          go_wp2_with (at_builtin; (refine wpList_app (o := ⟨some 46, _, _, _, _, _⟩) rfl _ _ 33 rfl wo.heap.size 3 ii (.int .i64 0) 8 Try.underlying33 HJ.out.1 HJ.out.2.1 HJ.out.2.2.1 HJ.out.2.2.2 rfl v6 l.length (iv l) ?g0 (some ⟨w6.heap.size, 0, none⟩) 1 1 [.int .i64 (k : Int)] ?g4 ?g1 ?g2 ?g3 rfl rfl ?_))
          case g0 => rw [← HW7.out]; exact H7.out.2.2
          case g4 => rw [← HW7.out]; exact H7.out.2.1
          case g1 => simp only [maxLen]; omega
          case g2 => omega
          case g3 => rw [← HW7.out]; exact H7.out.1.size
          rw [← HW7.out]
          intro v8 w8 own8 gr8 _ _
          have hb8 : Below wo.heap.size wo w8 := Below.grownOwn H7.out.1 H7.out.2.2 (Nat.le_refl _) gr8
          have hB8 := HB.out.trans (Below.mono hb8 HB.out.size)
          have hu8 : OwnI 0 w8 v8 (l ++ [k]) := by
            unfold OwnI
            rw [List.length_append, iv_app]
            exact owned_baseN own8 fun _ _ => Nat.zero_le _
          have HB8 := hide hB8
          have H8 := hide hu8
          clear hb8 hB8 hu8 own8 gr8
          go_wp2_with (refine wpList_value (o := ⟨some 47, _, _, _, _, _⟩) rfl (.agg (caseC v).toArray) w8 (exec_load_blk (o := ⟨some 47, _, _, _, _, _⟩) 40 (.tmp 4) rfl w.heap.size rfl 40 _ _ w8 (H1.out w8 HB8.out).2.2.1 Try.underlying40 rfl hsz0) ?_)
          refine (rclean_any w8 v c hc (H1.out w8 HB8.out).2.2.2.1 HNE.out (l ++ [k]) (by rw [List.length_append]; simp; omega) (HI.out.1.snoc HI.out.2.2.1 hk2) v8 (OwnI.ints H8.out)).mono ?_
          rintro e w9 ⟨rfl, hb9⟩
          have hB9 := HB8.out.trans (Below.mono hb9 HB8.out.size)
          have hu9 : OwnI 0 w9 v8 (l ++ [k]) := owned_keepN H8.out fun g _ hl => hb9.block g hl
          have HB9 := hide hB9
          have H9 := hide hu9
          clear hb9 hB9 hu9
          have hfs := fold_snoc HI.out.1 HI.out.2.1 HI.out.2.2.1 HX.out.1
          rw [← HS.out.1, ← HS.out.2] at hfs
          have hc1 : clean1 c.own (c.cls.zip c.opts) c.fixed c.of (l ++ [k]) = cleanB c.own (PS ++ x.1 :: x.2) (OF ++ [(h, x.1)]) := by unfold clean1; rw [hfs]
          rw [hc1]
          have HFS := hide hfs
          clear hc1 hfs
          dsimp only
          cases hcl : cleanB c.own (PS ++ x.1 :: x.2) (OF ++ [(h, x.1)]) with
          | false =>
            have e : RR = tryB c.own fuel h PS OF (fromB c.own fuel rest) (k + 1) (os.drop (k + 1)) (m + 1) := by rw [HX.out.2, if_neg (by omega), hcl]; rfl
            have HN := hide e
            clear e hcl
            go_wp2_with fail
            go_roundw
            case rel => exact ⟨k + 1, m + 1, by omega, by go_num, rfl, HB9.out, by omega, by omega, HN.out⟩
            case measure => simp [intOf]; omega
          | true =>
            have hex := HX.out.2
            rw [if_neg (by omega), hcl, if_pos rfl] at hex
            have HEX := hide hex
            clear hex hcl
            go_wp2_with (refine wpList_value (o := ⟨some 52, _, _, _, _, _⟩) rfl (.agg (caseC v).toArray) w9 (exec_load_blk (o := ⟨some 52, _, _, _, _, _⟩) 40 (.tmp 4) rfl w.heap.size rfl 40 _ _ w9 (H1.out w9 HB9.out).2.2.1 Try.underlying40 rfl hsz0) ?_)
            refine (HI.out.2.2.2.2 w9 (l ++ [k]) v8 (m + 1) (H1.out w9 HB9.out).2.2.2.1 (HI.out.2.2.2.1 k) (by rw [List.length_append]; simp; omega) (HI.out.1.snoc HI.out.2.2.1 hk2) H9.out (by omega) (by omega)).mono ?_
            rw [HFS.out]
            dsimp only
            generalize fromB c.own fuel rest (PS ++ x.1 :: x.2) (OF ++ [(h, x.1)]) (m + 1) = R at HEX
            rintro e w10 ⟨u, rfl, ⟨hr1, hr2⟩, ⟨hok, hno⟩, hb10⟩
            obtain ⟨R, m2⟩ := R
            dsimp only at hr1 hr2 hok hno ⊢
            have hB10 := HB9.out.trans (Below.mono hb10 HB9.out.size)
            have H10 := hide (And.intro hB10 (And.intro hok hno))
            clear hb10 hB10 hok hno
            cases R with
            | conflict =>
              dsimp only [Res.code]
              go_wp2_with fail
              go_roundw
              case rel => exact ⟨k + 1, m2, by omega, by go_num, rfl, H10.out.1, by omega, hr2, HEX.out⟩
              case measure => simp [intOf]; omega
            | fuel =>
              dsimp only [Res.code]
              go_wp2_with fail
              go_ret3
              rw [HEX.out]
              exact ⟨u, rfl, ⟨by dsimp only; omega, hr2⟩, ⟨fun l' hl => (by cases hl), fun _ => H10.out.2.2 (fun l' hl => (by cases hl))⟩, (H1.out w10 H10.out.1).2.2.2.2.2⟩
            | ok l2 =>
              dsimp only [Res.code]
              go_wp2_with fail
              go_ret3
              rw [HEX.out]
              refine ⟨u, rfl, ⟨by dsimp only; omega, hr2⟩, ⟨fun l' hl => ?_, fun hn => absurd rfl (hn (k :: l2))⟩, (H1.out w10 H10.out.1).2.2.2.2.2⟩
              injection hl with hl
              subst hl
              have := H10.out.2.1 l2 rfl
              rwa [List.append_assoc] at this
      · obtain rfl : k = os.length := by omega
        have e : RR = (.conflict, m) := by rw [HE.out, List.drop_length]; rfl
        have HF := hide e
        clear e
        go_wp2_with fail
        go_ret3
        rw [HF.out]
        exact ⟨_, rfl, ⟨hnm, hm9⟩, ⟨fun l' hl => (by cases hl), fun _ => rfl⟩, (H1.out wo HB.out).2.2.2.2.2⟩
end Go.Proofs.Ytfppddnfdinipaa
end
section
namespace Go.Proofs.Ytfppddnfdinipaa
open Go Go.RowKit Go.Maps
set_option maxRecDepth 100000
set_option maxHeartbeats 8000000 in
theorem rleast_any (w : World) (v : Cvs) (c : CaseP) (hc : c.size ≤ 120) (hC : CaseAt w.heap.size w v c) (f : Int) (hf : -9223372036854775808 ≤ f ∧ f ≤ 9223372036854775807) :
    Calls Try.prog 14 #[.agg (caseC v).toArray, .int .i64 f] w fun e w' => ∃ u, e = .returned (.tuple #[u, .int .i64 (leastB c f).2.1, .int .i64 (leastB c f).2.2]) ∧ OwnI 0 w' u (leastB c f).1 ∧ Below w.heap.size w w' := by
  obtain ⟨b1, b2, b3, b4, b5, b6, b7⟩ := CaseP.bounds hc
  obtain ⟨w1, hw1⟩ : ∃ w1, w1 = w.alloc (.cells (caseC v).toArray 40) := ⟨_, rfl⟩
  have hb1 : Below w.heap.size w w1 := by rw [hw1]; exact (Below.refl _ w).alloc (Nat.le_refl _) _
  have hk1 : Blk w1 w.heap.size 40 (caseC v).toArray := by rw [hw1]; exact Blk.new _ _ _
  have hz1 : w1.heap.size = w.heap.size + 1 := by rw [hw1, size_alloc]
  have hC1 : CaseAt w.heap.size w1 v c := hC.alike fun k hk => hb1.block k hk
  have ho : okH v.own := by rw [hC.own]; exact hC.okO
  have hsz0 := cszR ho
  obtain ⟨Ao, capo, hvo, _, _, _, hAo⟩ := slice_open hC1.atO
  obtain ⟨Ac, capc, hvc, _, _, _, _⟩ := slice_open hC1.atC
  have hcells := case_cellsT ho hk1
  rw [hvo, hvc] at hcells
  have H1 := hide (And.intro hb1 (And.intro hk1 (And.intro (show CaseAt w1.heap.size w1 v c from hC1.widen (by omega)) (And.intro hcells hAo))))
  have HW := hide hw1
  clear hb1 hk1 hC1 hC hvo hvc hcells hw1 hAo
  have o9 : (c.opts.length : Int) ≤ 120 := by omega
  have c9 : (c.cls.length : Int) ≤ 120 := by omega
  have c22 : w1.cell? ⟨w.heap.size, 22, none⟩ = some (.slice Ao c.opts.length capo) := H1.out.2.2.2.1.2.2.1
  by_cases hne : c.opts.length = c.cls.length
  · have c21 : w1.cell? ⟨w.heap.size, 21, none⟩ = some (.slice Ac c.opts.length capc) := by rw [hne]; exact H1.out.2.2.2.1.2.1
    have HNE := hide hne
    clear hne
    rcases (show (0 ≤ f ∧ max f 0 = f) ∨ (¬ 0 ≤ f ∧ max f 0 = 0) by omega) with ⟨hf0, hg⟩ | ⟨hf0, hg⟩
    all_goals
      have HG := hide hg
      clear hg
      go_enter Try.func14, Try.ntmps14
      go_wp2_with (refine wpList_value (o := ⟨some 9, _, _, _, _, _⟩) rfl (.slice Ao c.opts.length capo) w1 (by rw [← HW.out]; exact exec_load_cell (o := ⟨some 9, _, _, _, _, _⟩) 38 (.tmp 8) rfl ⟨w.heap.size, 22, none⟩ rfl _ _ w1 Try.underlying38 rfl c22) ?_)
      go_loopw [7] (fun x wr => ∃ k : Nat, k ≤ c.opts.length ∧ x = .int .i64 ((k : Nat) : Int) ∧ wr = w1 ∧ (c.opts.take k).any (·.isEmpty) = false) (fun x _ => c.opts.length - (intOf x).toNat)
      case atStart => exact ⟨0, by omega, rfl, rfl, rfl⟩
      case round =>
        obtain ⟨k, hk, rfl, rfl, he⟩ := hrel
        have HE := hide he
        clear he
        have k0 : (0 : Int) ≤ (k : Int) := by omega
        by_cases hk2 : k < c.opts.length
        · have k1 : (k : Int) < (c.opts.length : Int) := by omega
          obtain ⟨os, hos⟩ : ∃ os, c.opts[k]? = some os := ⟨_, List.getElem?_eq_getElem hk2⟩
          obtain ⟨bo, offo, rfl, hlo, hEo⟩ := H1.out.2.2.2.2 (by omega)
          obtain ⟨cs1, hr1, hat1⟩ := hEo k os hos
          obtain ⟨vr, rfl, hat1⟩ := rowLay_at hat1
          obtain ⟨Ar, capr, rfl, _, _, _, _⟩ := slice_open hat1
          have hr : wr.cell? ⟨bo, offo + k, none⟩ = some (.slice Ar os.length capr) := by
            have h9 : wr.cell? ⟨bo, offo + k * 1 + 0, none⟩ = some (.slice Ar os.length capr) := hr1 0 _ rfl
            rwa [Nat.mul_one, Nat.add_zero] at h9
          have hnx := any_next hos
          rw [HE.out, Bool.false_or] at hnx
          have HN := hide (And.intro hnx hos)
          have os9 : (os.length : Int) ≤ 120 := by have := (b7 os (List.mem_of_getElem? hos)).1; omega
          clear hnx hos hEo hr1 hat1
          by_cases hz : os.length = 0
          · obtain rfl := List.eq_nil_of_length_eq_zero hz
            have hz2 : (([] : List Opt).length : Int) = 0 := rfl
            have hany : c.opts.any (·.isEmpty) = true := List.any_eq_true.2 ⟨[], List.mem_of_getElem? HN.out.2, rfl⟩
            have HA := hide hany
            clear hany
            go_wp2_with fail
            go_ret3
            have e : leastB c f = ([], 0, 5) := by unfold leastB; rw [if_neg (fun h => h HNE.out), if_pos HA.out]
            rw [e]
            exact ⟨_, rfl, OwnI.nil _ _, H1.out.1⟩
          · have hzi : ¬ (os.length : Int) = 0 := by omega
            go_wp2_with fail
            go_roundw
            case rel =>
              refine ⟨k + 1, by omega, by go_num, trivial, ?_⟩
              rw [HN.out.1]
              cases os with
              | nil => exact absurd rfl hz
              | cons x os => rfl
            case measure => simp [intOf]; omega
        · obtain rfl : k = c.opts.length := by omega
          have he := HE.out
          rw [List.take_length] at he
          have HA := hide he
          clear he
          go_wp2_with (refine wpList_value (o := ⟨some 29, _, _, _, _, _⟩) rfl (.agg (caseC v).toArray) wr (exec_load_blk (o := ⟨some 29, _, _, _, _, _⟩) 40 (.tmp 2) rfl w.heap.size rfl 40 _ _ wr H1.out.2.1 Try.underlying40 rfl hsz0) ?_)
          refine (rclean_any wr v c hc H1.out.2.2.1 HNE.out [] (by simp) (fun i os k _ h => by simp at h) (.slice none 0 0) ⟨none, 0, rfl, fun i k h => by simp at h⟩).mono ?_
          rintro e w5 ⟨rfl, hb5⟩
          have H5 := hide (And.intro hb5 (And.intro (show CaseAt w5.heap.size w5 v c from (H1.out.2.2.1.alike hb5.block).widen hb5.size) (And.intro (H1.out.2.1.below hb5 H1.out.2.1.lt) (H1.out.1.trans (Below.mono hb5 H1.out.1.size)))))
          have hcle : clean1 c.own (c.cls.zip c.opts) c.fixed c.of [] = cleanB c.own c.fixed c.of := by unfold clean1; rw [foldT_nil]
          rw [hcle]
          clear hb5 hcle
          dsimp only
          cases hcl : cleanB c.own c.fixed c.of with
          | false =>
            have HC := hide hcl
            clear hcl
            go_wp2_with fail
            go_ret3
            have e : leastB c f = ([], 0, 13) := by unfold leastB; rw [if_neg (fun h => h HNE.out), if_neg (by rw [HA.out]; simp), if_neg (by rw [HC.out]; simp)]
            rw [e]
            exact ⟨_, rfl, OwnI.nil _ _, H5.out.2.2.2⟩
          | true =>
            have HC := hide hcl
            clear hcl
            go_wp2_with (refine wpList_value (o := ⟨some 32, _, _, _, _, _⟩) rfl (.agg (caseC v).toArray) w5 (exec_load_blk (o := ⟨some 32, _, _, _, _, _⟩) 40 (.tmp 2) rfl w.heap.size rfl 40 _ _ w5 H5.out.2.2.1 Try.underlying40 rfl hsz0) ?_)
            have hs := rsearch_any hc HNE.out (max f 0) (by omega) (c.cls.zip c.opts) w5 [] (.slice none 0 0) 0 H5.out.2.1 (by simp) (by simp) (fun i os k _ h => by simp at h) (OwnI.nil _ _) (by omega) (by omega)
            rw [HG.out] at hs
            refine hs.mono ?_
            clear hs
            have e : leastB c f = ((fromB c.own (max f 0) (c.cls.zip c.opts) c.fixed c.of 0).1.row, (fromB c.own (max f 0) (c.cls.zip c.opts) c.fixed c.of 0).2, (fromB c.own (max f 0) (c.cls.zip c.opts) c.fixed c.of 0).1.code) := by
              unfold leastB
              rw [if_neg (fun h => h HNE.out), if_neg (by rw [HA.out]; simp), if_pos HC.out]
            rw [HG.out] at e
            rw [foldT_nil]
            dsimp only
            generalize fromB c.own _ (c.cls.zip c.opts) c.fixed c.of 0 = R at e
            obtain ⟨R, m⟩ := R
            have HE2 := hide e
            clear e
            rintro e w6 ⟨u, rfl, _, ⟨hok, hno⟩, hb6⟩
            dsimp only at hok hno ⊢
            have hown : OwnI 0 w6 u R.row := by
              cases R with
              | ok l => exact hok l rfl
              | fuel => rw [hno (fun l h => by cases h)]; exact OwnI.nil _ _
              | conflict => rw [hno (fun l h => by cases h)]; exact OwnI.nil _ _
            have H6 := hide (And.intro hown (H5.out.2.2.2.trans (Below.mono hb6 H5.out.2.2.2.size)))
            clear hok hno hb6 hown
            go_wp2_with fail
            go_ret3
            rw [HE2.out]
            exact ⟨u, rfl, H6.out.1, H6.out.2⟩
  · have c21 : w1.cell? ⟨w.heap.size, 21, none⟩ = some (.slice Ac c.cls.length capc) := H1.out.2.2.2.1.2.1
    have hni : ¬ (c.opts.length : Int) = (c.cls.length : Int) := by omega
    go_enter Try.func14, Try.ntmps14
    go_wp2_with (refine wpList_value (o := ⟨some 9, _, _, _, _, _⟩) rfl (.slice Ao c.opts.length capo) w1 (by rw [← HW.out]; exact exec_load_cell (o := ⟨some 9, _, _, _, _, _⟩) 38 (.tmp 8) rfl ⟨w.heap.size, 22, none⟩ rfl _ _ w1 Try.underlying38 rfl c22) ?_)
    go_ret3
    have e : leastB c f = ([], 0, 2) := by unfold leastB; rw [if_pos hne]
    rw [e]
    exact ⟨_, rfl, OwnI.nil _ _, H1.out.1⟩
end Go.Proofs.Ytfppddnfdinipaa
end
section
namespace Go.Proofs.Ytfppddnfdinipaa
open Go Go.RowKit Go.Maps
set_option maxRecDepth 100000
def hN (n : Nat) : Hsh := UInt8.ofNat n :: List.replicate 19 0
def pN (n : Nat) : Pth := (hN n, ⟨#[112]⟩)
theorem hN_ok (n : Nat) : okH (hN n) := rfl
theorem pN_ok (n : Nat) : okP (pN n) := ⟨rfl, of_decide_eq_true (by kernel_rfl)⟩
def hCells (x : Int) : Array Value := (Value.int .u8 x :: bv (List.replicate 19 0)).toArray
theorem hCells_eq {n : Nat} (hn : n < 256) : hCells (n : Int) = (bv (hN n)).toArray := by
  unfold hCells hN
  have : ((UInt8.ofNat n).toNat : Int) = (n : Int) := by
    rw [UInt8.toNat_ofNat']
    omega
  show _ = (Value.int .u8 ((UInt8.ofNat n).toNat : Int) :: bv (List.replicate 19 0)).toArray
  rw [this]
theorem wrap8 {n : Nat} (hn : n < 256) : IntKind.u8.wrap (n : Int) = (n : Int) := by
  simp [IntKind.wrap, IntKind.signed, IntKind.bits]
  omega
theorem hCells_size (x : Int) : (hCells x).size = 20 := rfl
theorem hCells_one (x : Int) : (hCells x).all (·.oneCell') = true := by kernel_rfl
set_option maxHeartbeats 1000000 in
theorem class_any (n : Nat) (hn : n < 256) (w : World) : Calls Try.prog 23 #[.int .i64 (n : Int)] w fun e w' => e = .returned (.agg (bv (hN n)).toArray) ∧ Below w.heap.size w w' := by
  have hw8 := wrap8 hn
  have HC := hide (hCells_eq hn)
  obtain ⟨w2, hw2⟩ : ∃ w2, w2 = w.alloc (.cells zcH 23) := ⟨_, rfl⟩
  have hb2 : Below w.heap.size w w2 := by rw [hw2]; exact (Below.refl _ w).alloc (Nat.le_refl _) _
  have hk2 : Blk w2 w.heap.size 23 zcH := by rw [hw2]; exact Blk.new _ _ _
  have HB := hide (And.intro hk2 hb2)
  have HW := hide hw2
  clear hk2 hb2 hw2
  go_enter Try.func23, Try.ntmps23
  go_wp2_with (first | (refine wpList_value (o := ⟨some 2, _, _, _, _, _⟩) rfl (.pointer (some ⟨w.heap.size, 0, none⟩)) w2 (by rw [HW.out]; kernel_rfl) ?_) | (refine wpList_value (o := ⟨some 5, _, _, _, _, _⟩) rfl (.agg (hCells (n : Int))) w2 (by kernel_rfl) ?_) | (with_reducible refine wpList_store_blkA (o := ⟨none, _, _, _, _, _⟩) rfl 23 (.tmp 2) (.tmp 5) rfl w.heap.size zcH (hCells (n : Int)) 23 HB.out.1 ?s1 ?s2 ?s3 ?s4 ?s5 ?s6))
  case s1 => rw [hCells_size]; kernel_rfl
  case s2 => rfl
  case s3 => exact hCells_one _
  intro w3 hk3 hg3
  have hb3 : Below w.heap.size w w3 := HB.out.2.grown hg3 HB.out.2.size fun k hk => by injection hk with hk; omega
  have H3 := hide (And.intro hk3 hb3)
  clear hk3 hg3 hb3
  go_wp2_with fail
  refine bodyPost_ret (results_cell_blk rfl _ _ w.heap.size 23 (hCells (n : Int)) _ _ rfl H3.out.1 Try.underlying23 (by rw [hCells_size]; kernel_rfl)) rfl ⟨by rw [HC.out], H3.out.2⟩
def pCells (x : Int) : Array Value := (Value.int .u8 x :: (bv (List.replicate 19 0) ++ [Value.string ⟨#[112]⟩])).toArray
theorem pCells_eq {n : Nat} (hn : n < 256) : pCells (n : Int) = (pC (pN n)).toArray := by
  have h := congrArg Array.toList (hCells_eq hn)
  unfold hCells at h
  simp only at h
  unfold pCells pC pN
  dsimp only
  rw [← h]
  rfl
theorem pCells_size (x : Int) : (pCells x).size = 21 := rfl
theorem pCells_one (x : Int) : (pCells x).all (·.oneCell') = true := by kernel_rfl
set_option maxHeartbeats 1000000 in
theorem path_any (n : Nat) (hn : n < 256) (w : World) : Calls Try.prog 25 #[.int .i64 (n : Int)] w fun e w' => e = .returned (.agg (pC (pN n)).toArray) ∧ Below w.heap.size w w' := by
  have hw8 := wrap8 hn
  have HC := hide (pCells_eq hn)
  obtain ⟨w2, hw2⟩ : ∃ w2, w2 = w.alloc (.cells zcP 53) := ⟨_, rfl⟩
  have hb2 : Below w.heap.size w w2 := by rw [hw2]; exact (Below.refl _ w).alloc (Nat.le_refl _) _
  have hk2 : Blk w2 w.heap.size 53 zcP := by rw [hw2]; exact Blk.new _ _ _
  have HB := hide (And.intro hk2 hb2)
  have HW := hide hw2
  clear hk2 hb2 hw2
  go_enter Try.func25, Try.ntmps25
  go_wp2_with (first | (refine wpList_value (o := ⟨some 2, _, _, _, _, _⟩) rfl (.pointer (some ⟨w.heap.size, 0, none⟩)) w2 (by rw [HW.out]; kernel_rfl) ?_) | (refine wpList_value (o := ⟨some 5, _, _, _, _, _⟩) rfl (.agg (hCells (n : Int))) w2 (by kernel_rfl) ?_) | (refine wpList_value (o := ⟨some 6, _, _, _, _, _⟩) rfl (.agg (pCells (n : Int))) w2 (by kernel_rfl) ?_) | (with_reducible refine wpList_store_blkA (o := ⟨none, _, _, _, _, _⟩) rfl 53 (.tmp 2) (.tmp 6) rfl w.heap.size zcP (pCells (n : Int)) 53 HB.out.1 ?s1 ?s2 ?s3 ?s4 ?s5 ?s6))
  case s1 => rw [pCells_size]; kernel_rfl
  case s2 => rfl
  case s3 => exact pCells_one _
  intro w3 hk3 hg3
  have hb3 : Below w.heap.size w w3 := HB.out.2.grown hg3 HB.out.2.size fun k hk => by injection hk with hk; omega
  have H3 := hide (And.intro hk3 hb3)
  clear hk3 hg3 hb3
  go_wp2_with fail
  refine bodyPost_ret (results_cell_row rfl _ _ w.heap.size 53 (pCells (n : Int)) (0, 0) _ rfl H3.out.1 Try.underlying53 rfl (by rw [pCells_size]; kernel_rfl)) rfl ⟨by rw [HC.out], H3.out.2⟩
end Go.Proofs.Ytfppddnfdinipaa
end
