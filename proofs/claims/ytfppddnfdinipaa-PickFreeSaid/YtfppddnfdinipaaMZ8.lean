/- spencelaw24: option. A slice built of two parts of many cells; a slice that is read out of a block. spencelaw24: awake. spencelaw24: PickFree: the walk. spencelaw24.PickFree is true of every input, and leaves all as it was. No condition. -/
import Derived.Test.YtfppddnfdinipaaMZ5
import Derived.Test.YtfppddnfdinipaaBuild
import Derived.Test.YtfppddnfdinipaaMZ1
import Derived.Test.YtfppddnfdinipaaMZ7
import Derived.Test.YtfppddnfdinipaaMZ6
section
namespace Go.Proofs.Ytfppddnfdinipaa
open Go Go.RowKit Go.Maps
set_option maxRecDepth 100000
theorem exec_opt {ρ : Operand → Value} {o : Oper} (p : Pth) (w : World) (hp : okP p) (ho : o.op = .build 55 #[(0, .tmp 8)]) (h1 : ρ (.tmp 8) = .agg (pC p).toArray) : (execOp ρ o).run Try.prog w = .ok (.value (.agg (oC p (.slice none 0 0)).toArray)) w := by
  refine exec_buildN 55 _ ho (z := .agg zcO) (places := #[(0, 21), (21, 1)]) Try.underlying55 (fun w => by kernel_rfl) (fun w => by kernel_rfl) [(0, .agg (pC p).toArray)] (by simp [h1]) ?_ w
  rw [fill_part _ _ 0 _ _ 0 (by simp [Value.cells, pC_len hp]) (by simp [Value.cells, pC_len hp]; decide)]
  unfold Instr.fill
  congr 1
  apply Array.ext'
  simp only [Value.cells, List.size_toArray, pC_len hp]
  simp
  rfl
set_option maxHeartbeats 4000000 in
theorem option_any (n : Nat) (hn : n < 256) (ks : List Nat) (hks : ∀ k ∈ ks, k < 256) (hkl : ks.length ≤ 1000) (v : Value) (w : World) (hv : IntsAt w w.heap.size v (ks.map fun k => ((k : Nat) : Int))) :
    Calls Try.prog 24 #[.int .i64 (n : Int), v] w fun e w' => ∃ u, e = .returned (.agg (oC (pN n) u).toArray) ∧ OwnP w.heap.size w' u (ks.map pN) ∧ Below w.heap.size w w' := by
  obtain ⟨Ak, capk, rfl, hKs⟩ := hv
  rw [List.length_map]
  obtain ⟨w2, hw2⟩ : ∃ w2, w2 = w.alloc (.cells zcO 55) := ⟨_, rfl⟩
  have hb2 : Below w.heap.size w w2 := by rw [hw2]; exact (Below.refl _ w).alloc (Nat.le_refl _) _
  have hk2 : Blk w2 w.heap.size 55 zcO := by rw [hw2]; exact Blk.new _ _ _
  have hz2 : w2.heap.size = w.heap.size + 1 := by rw [hw2, size_alloc]
  have H2 := hide (And.intro hb2 (And.intro hk2 hz2))
  have HW := hide hw2
  have HK := hide hKs
  clear hb2 hk2 hw2 hKs
  go_enter Try.func24, Try.ntmps24
  go_wp2_with (first | (refine wpList_value (o := ⟨some 4, _, _, _, _, _⟩) rfl (.pointer (some ⟨w.heap.size, 0, none⟩)) w2 (by rw [HW.out]; kernel_rfl) ?_))
  refine (path_any n hn w2).mono ?_
  rintro e w3 ⟨rfl, hb3⟩
  have H3 := hide hb3
  clear hb3
  dsimp only
  go_wp2_with (first | (refine wpList_value (o := ⟨some 9, _, _, _, _, _⟩) rfl (.agg (oC (pN n) (.slice none 0 0)).toArray) w3 (exec_opt (pN n) w3 (pN_ok n) rfl rfl) ?_) | ((with_reducible refine wpList_box (o1 := ⟨some 5, _, _, _, _, _⟩) (o2 := ⟨none, _, _, _, _, _⟩) rfl rfl 55 (.tmp 5) (.tmp 9) ?_ zcO (oC (pN n) (.slice none 0 0)).toArray ?_ ?_ ?_ ?_ ?_ ?_ ?_); rfl; kernel_rfl; kernel_rfl; kernel_rfl; kernel_rfl; rfl; rfl; intro w4 hm4 hb4; have H4 := hide (And.intro hm4 hb4); clear hm4 hb4; dsimp only [Act.put]))
  obtain ⟨bx, hbx⟩ : ∃ bx, bx = w3.heap.size := ⟨_, rfl⟩
  rw [← hbx]
  have hb4 : Below w.heap.size w w4 := H2.out.1.trans (Below.mono (H3.out.trans (Below.mono H4.out.2 H3.out.size)) (by omega))
  have hk4 : Blk w4 bx 55 (oC (pN n) (.slice none 0 0)).toArray := by rw [hbx]; exact H4.out.1
  have hr4 : Blk w4 w.heap.size 55 zcO := ((H4.out.2.block _ (by have := H3.out.size; omega)).trans (H3.out.block _ (by omega))).trans H2.out.2.1
  have hne : w.heap.size < bx := by rw [hbx]; have := H3.out.size; omega
  have H5 := hide (And.intro hb4 (And.intro hk4 (And.intro hr4 hne)))
  clear hb4 hk4 hr4 H4 hbx hne hz2
  have k9 : (ks.length : Int) ≤ 1000 := by omega
  go_wp2_with fail
  go_loopw [6] (fun x wr => ∃ k vk, k ≤ ks.length ∧ x = .int .i64 ((k : Nat) : Int) ∧ Blk wr bx 55 (oC (pN n) vk).toArray ∧ OwnP w4.heap.size wr vk ((ks.take k).map pN) ∧ w4.heap.size ≤ wr.heap.size ∧ (∀ b, b < w4.heap.size → b ≠ bx → wr.heap[b]? = w4.heap[b]?) ∧ wr.os = w4.os ∧ wr.tape = w4.tape ∧ wr.output = w4.output) (fun x _ => ks.length - (intOf x).toNat)
  case atStart => exact ⟨0, .slice none 0 0, by omega, rfl, H5.out.2.1, ⟨World.ownsRow_nil _ _ _ _, fun p hp => by cases hp⟩, Nat.le_refl _, fun _ _ _ => rfl, rfl, rfl, rfl⟩
  case round =>
    obtain ⟨wo, rfl⟩ : ∃ wo, wo = wr := ⟨_, rfl⟩
    obtain ⟨k, vk, hk, rfl, hkx, hop, hsz, hoth, hos, htp, hout⟩ := hrel
    have H6 := hide (And.intro hkx (And.intro hop (And.intro hsz (And.intro hoth (And.intro hos (And.intro htp hout))))))
    clear hkx hop hsz hoth hos htp hout
    have k0 : (0 : Int) ≤ (k : Int) := by omega
    by_cases hk2 : k < ks.length
    · have k1 : (k : Int) < (ks.length : Int) := by omega
      obtain ⟨j, hj⟩ : ∃ j, ks[k]? = some j := ⟨_, List.getElem?_eq_getElem hk2⟩
      have hj9 := hks j (List.mem_of_getElem? hj)
      obtain ⟨bk, offk, rfl, hbk, hjc⟩ := HK.out k (j : Int) (by rw [List.getElem?_map, hj]; rfl)
      have hbk4 : bk < w4.heap.size ∧ bk ≠ bx := ⟨by have := H5.out.1.size; omega, by have := H5.out.2.2.2; omega⟩
      have hjw : wo.cell? ⟨bk, offk + k, none⟩ = some (.int .i64 (j : Int)) := (World.cell?_of_block ((H6.out.2.2.2.1 bk hbk4.1 hbk4.2).trans (H5.out.1.block bk hbk))).trans hjc
      have HX := hide (show bx < w4.heap.size ∧ True ∧ ks[k]? = some j from ⟨H5.out.2.1.lt, trivial, hj⟩)
      have HJ := hide (show bk < w4.heap.size ∧ wo.cell? ⟨bk, offk + k, none⟩ = some (.int .i64 (j : Int)) from ⟨hbk4.1, hjw⟩)
      clear hj hjc hjw hbk4
      go_wp2_with fail
      have hL : ∀ p ∈ ([(23, OnePth w4.heap.size (pN j)), (24, fun u W => OwnP w4.heap.size W u (((ks.take k).map pN) ++ [pN j]))] : Fre.MadeL), Fre.MadeOk (GrowF w4.heap.size (NPM ((ks.take k).map pN) []) (FPM (((ks.take k).map pN) ++ [pN j]) [])) p.2 := by
        intro p hp
        simp only [List.mem_cons, List.not_mem_nil, or_false] at hp
        rcases hp with rfl | rfl
        · exact ⟨fun u W W' h hx => onePth_stays (r := []) (pN_ok j) H6.out.2.1.2 h hx⟩
        · exact ⟨fun u W W' h hx => OwnP.grow (ps' := []) h (by have hx : GrowF _ _ _ W W' := hx; rwa [List.append_nil])⟩
      refine Fre.wp_made (X := (GrowF w4.heap.size (NPM ((ks.take k).map pN) []) (FPM (((ks.take k).map pN) ++ [pN j]) []))) 10 [(23, OnePth w4.heap.size (pN j)), (24, fun u W => OwnP w4.heap.size W u (((ks.take k).map pN) ++ [pN j]))] (by kernel_rfl) (by kernel_rfl) hL (by simp) (by simp only [List.map_cons, List.map_nil, List.forall_mem_cons]; exact ⟨Nat.le_of_ble_eq_true (by kernel_rfl), Nat.le_of_ble_eq_true (by kernel_rfl), fun _ h => by cases h⟩) ?_
      simp only [List.take_succ_cons, List.take_zero, List.drop_succ_cons, List.drop_zero]
      refine Fre.made_val (.pointer (some ⟨bx, 21, none⟩)) (by kernel_rfl) (by kernel_rfl) (by kernel_rfl) (fun _ _ => by kernel_rfl) ?_
      simp only [Act.put, List.setIfInBounds_toArray, List.set_cons_zero, List.set_cons_succ]
      refine Fre.made_val (vk) (by kernel_rfl) (by kernel_rfl) (by kernel_rfl) (fun W9 hW9 => exec_load_cell (o := ⟨some 17, _, _, _, _, _⟩) 24 (.tmp 16) rfl ⟨bx, 21, none⟩ rfl _ _ W9 Try.underlying24 rfl (by have h9 := GrowF.blk hW9 H6.out.1 (by rfl); rw [h9.cell]; rfl)) ?_
      simp only [Act.put, List.setIfInBounds_toArray, List.set_cons_zero, List.set_cons_succ]
      refine Fre.made_val (.slice (some ⟨bk, offk, none⟩) ks.length capk) (by kernel_rfl) (by kernel_rfl) (by kernel_rfl) (fun _ _ => by kernel_rfl) ?_
      simp only [Act.put, List.setIfInBounds_toArray, List.set_cons_zero, List.set_cons_succ]
      refine Fre.made_val (.int .i64 (k : Int)) (by kernel_rfl) (by kernel_rfl) (by kernel_rfl) (fun _ _ => by kernel_rfl) ?_
      simp only [Act.put, List.setIfInBounds_toArray, List.set_cons_zero, List.set_cons_succ]
      refine Fre.made_val (.pointer (some ⟨bk, offk + (k : Int).toNat * 1, none⟩)) (by kernel_rfl) (by kernel_rfl) (by kernel_rfl) (fun W9 _ => exec_index_off (o := ⟨some 20, _, _, _, _, _⟩) 33 3 (.tmp 18) (.tmp 19) rfl bk offk ks.length capk (k : Int) .i64 rfl rfl ⟨k0, k1⟩ 1 Try.underlying33 (by kernel_rfl) W9) ?_
      simp only [Act.put, List.setIfInBounds_toArray, List.set_cons_zero, List.set_cons_succ]
      rw [show offk + (k : Int).toNat * 1 = offk + k by omega]
      refine Fre.made_val (.int .i64 (j : Int)) (by kernel_rfl) (by kernel_rfl) (by kernel_rfl) (fun W9 hW9 => exec_load_cell (o := ⟨some 21, _, _, _, _, _⟩) 3 (.tmp 20) rfl ⟨bk, offk + k, none⟩ rfl _ _ W9 Try.underlying3 rfl (by have h9 : GrowF _ _ _ wo W9 := hW9; rw [World.cell?_of_block ((h9.below H6.out.2.2.1).block bk HJ.out.1)]; exact HJ.out.2)) ?_
      simp only [Act.put, List.setIfInBounds_toArray, List.set_cons_zero, List.set_cons_succ]
      refine Fre.made_call (.agg (pC (pN j)).toArray) 25 #[.int .i64 (j : Int)] (by kernel_rfl) (by kernel_rfl) (by kernel_rfl) (fun W9 => by kernel_rfl) (fun W9 hW9 => (path_any j hj9 W9).mono fun e w' ⟨h1, h2⟩ => ⟨h1, GrowF.of_below h2⟩) ?_
      simp only [Act.put, List.setIfInBounds_toArray, List.set_cons_zero, List.set_cons_succ]
      refine Fre.made_new 23 _ (by kernel_rfl) (by kernel_rfl) rfl rfl (fun W9 hW9 => ⟨.slice (some ⟨W9.heap.size, 0, none⟩) 1 1, W9.alloc (.cells (pC (pN j)).toArray 53), exec_buildSliceP (o := ⟨some 23, _, _, _, _, _⟩) (v := .agg (pC (pN j)).toArray) 24 (.tmp 22) rfl rfl Try.underlying24 sz_path (by omega) (by omega) (z := .agg zcP) (fun w => by kernel_rfl) (by simp [Value.cells, pC_len (pN_ok j)]) W9, GrowF.of_below ((Below.refl _ W9).alloc (Nat.le_refl _) _), W9.heap.size, rfl, by have h9 : GrowF _ _ _ wo W9 := hW9; have := h9.size; have := H6.out.2.2.1; omega, Blk.new _ _ _⟩) ?_
      simp only [Act.put, List.setIfInBounds_toArray, List.set_cons_zero, List.set_cons_succ]
      refine Fre.made_new1 23 _ 24 _ (by kernel_rfl) rfl (by kernel_rfl) rfl rfl (fun u W9 hW9 hu => ?hone) ?_
      case hone =>
        obtain ⟨r, rfl, hrB, hrb⟩ := hu
        have h9 : GrowF _ _ _ wo W9 := hW9
        have hsz : w4.heap.size ≤ W9.heap.size := by have := h9.size; have := H6.out.2.2.1; omega
        have hsrc : SrcN W9 21 (some ⟨r, 0, none⟩) ([pN j] : List Pth).length 1 (flP [pN j]) := by have h := box_src hrb (pC_one (pN j)); rw [pC_len (pN_ok j)] at h; simpa [flP] using h
        obtain ⟨v', w', h1, h2, h3⟩ := app_paths (r := []) (M := []) (N := []) (H6.out.2.1.grow h9) (qs := [pN j]) (fun q hq => by rw [List.mem_singleton.1 hq]; exact pN_ok j) hsz (some ⟨r, 0, none⟩) 1 hsrc (by simp; omega) (p0 := (ks.take k).map pN) (Nat.le_refl _)
        rw [List.append_nil] at h2
        exact ⟨v', w', exec_append (o := ⟨some 24, _, _, _, _, _⟩) (.tmp 17) (.tmp 23) 24 rfl vk (.slice (some ⟨r, 0, none⟩) 1 1) _ _ _ (by kernel_rfl) (by kernel_rfl) h1, h2, h3⟩
      simp only [Act.put, List.setIfInBounds_toArray, List.set_cons_zero, List.set_cons_succ]
      refine Fre.made_val (.pointer (some ⟨bx, 21, none⟩)) (by kernel_rfl) (by kernel_rfl) (by kernel_rfl) (fun _ _ => by kernel_rfl) ?_
      simp only [Act.put, List.setIfInBounds_toArray, List.set_cons_zero, List.set_cons_succ]
      show ∀ w', _ → _
      intro w5 hx5
      simp only [Fre.ended]
      have hx5 : GrowF _ _ _ wo w5 := hx5
      intro u23 _ y5 hy5
      simp only [Act.put, List.setIfInBounds_toArray, List.set_cons_zero, List.set_cons_succ]
      have hbx5 : Blk w5 bx 55 (oC (pN n) vk).toArray := hx5.blk H6.out.1 (by rfl)
      have hxb := hx5.below H6.out.2.2.1
      have hlb : bx < w4.heap.size := HX.out.1
      obtain ⟨A5, m5, c5, rfl⟩ : ∃ A m c, y5 = .slice A m c := by
        rcases owned_formN hy5.1 with ⟨e, _⟩ | ⟨g, cap, cur, e, _⟩
        · exact ⟨_, _, _, e⟩
        · exact ⟨_, _, _, e⟩
      have hcl : w5.cell? ⟨bx, 21, none⟩ = some vk := by rw [hbx5.cell]; rfl
      have hfr := hbx5.frozen 21
      have hlt := hbx5.lt
      obtain ⟨w6, hw6⟩ : ∃ w6, w6 = w5.setCell ⟨bx, 21, none⟩ (.slice A5 m5 c5) := ⟨_, rfl⟩
      have hbx6 : Blk w6 bx 55 (oC (pN n) (.slice A5 m5 c5)).toArray := by rw [hw6]; have h := hbx5.set_ 21 (.slice A5 m5 c5); rwa [show (oC (pN n) vk).toArray.setIfInBounds 21 (.slice A5 m5 c5) = (oC (pN n) (.slice A5 m5 c5)).toArray from rfl] at h
      have hoth : ∀ b, b ≠ bx → w6.heap[b]? = w5.heap[b]? := fun b hb => by rw [hw6]; exact Below.heap_setCell w5 _ _ b (fun e => hb e)
      have hy6 : OwnP w4.heap.size w6 (.slice A5 m5 c5) (((ks.take k).map pN) ++ [pN j]) := ⟨owned_keepN hy5.1 fun g hg _ => hoth g fun e => by have := (owned_ltN hy5.1 hg).1; omega, hy5.2⟩
      have hsz6 : w6.heap.size = w5.heap.size := by rw [hw6]; simp [World.setCell]
      have hbel6 : ∀ b, b < w4.heap.size → b ≠ bx → w6.heap[b]? = w4.heap[b]? := fun b hb hne => (hoth b hne).trans ((hxb.block b hb).trans (H6.out.2.2.2.1 b hb hne))
      have H7 := hide (And.intro hbx6 (And.intro hy6 (And.intro hsz6 (And.intro hbel6 (And.intro hxb.size (show w6.os = w4.os ∧ w6.tape = w4.tape ∧ w6.output = w4.output by rw [hw6]; exact ⟨hxb.os.trans H6.out.2.2.2.2.1, hxb.tape.trans H6.out.2.2.2.2.2.1, hxb.output.trans H6.out.2.2.2.2.2.2⟩))))))
      have HW6 := hide hw6
      clear hbx5 hbx6 hoth hy6 hsz6 hbel6 hxb hx5 hy5 hw6 hL
      go_wp2_with fail
      rw [← HW6.out]
      go_roundw
      case rel => exact ⟨k + 1, .slice A5 m5 c5, by omega, by go_num, H7.out.1, by rw [List.take_add_one, HX.out.2.2, List.map_append]; exact H7.out.2.1, by have := H7.out.2.2.1; have := H7.out.2.2.2.2.1; have := H6.out.2.2.1; omega, H7.out.2.2.2.1, H7.out.2.2.2.2.2⟩
      case measure => simp [intOf]; omega
    · obtain rfl : k = ks.length := by omega
      have hop := H6.out.2.1
      rw [List.take_length] at hop
      have HOP := hide hop
      clear hop
      have hxs : (Try.prog.info? 55).map (·.size) = some (oC (pN n) vk).toArray.size := by rw [sz_opt]; rfl
      have hone : (oC (pN n) vk).toArray.all (·.oneCell') = true := by
        rcases owned_formN HOP.out.1 with ⟨e, _⟩ | ⟨g, cap, cur, e, _⟩
        · rw [e]; exact all_oneCell_toArray (oC_one _ _ _ _)
        · rw [e]; exact all_oneCell_toArray (oC_one _ _ _ _)
      have hrb : Blk wo w.heap.size 55 zcO := (H6.out.2.2.2.1 w.heap.size H5.out.2.2.1.lt (by have := H5.out.2.2.2; omega)).trans H5.out.2.2.1
      have HRB := hide hrb
      clear hrb
      go_wp2_with (first | (refine wpList_value (o := ⟨some 26, _, _, _, _, _⟩) rfl (.agg (oC (pN n) vk).toArray) wo (exec_load_blk (o := ⟨some 26, _, _, _, _, _⟩) 55 (.tmp 5) rfl bx rfl 55 _ _ wo H6.out.1 Try.underlying55 rfl hxs) ?_) | (with_reducible refine wpList_store_blkA (o := ⟨none, _, _, _, _, _⟩) rfl 55 (.tmp 4) (.tmp 26) rfl w.heap.size zcO (oC (pN n) vk).toArray 55 HRB.out ?s1 ?s2 ?s3 ?s4 ?s5 ?s6))
      case s1 => exact hxs
      case s2 => rfl
      case s3 => exact hone
      intro w7 hk7 hg7
      have hb7 : Below w.heap.size w w7 := by
        refine ⟨hg7.os.trans (H6.out.2.2.2.2.1.trans H5.out.1.os), hg7.tape.trans (H6.out.2.2.2.2.2.1.trans H5.out.1.tape), hg7.output.trans (H6.out.2.2.2.2.2.2.trans H5.out.1.output), by have := hg7.size; have := H6.out.2.2.1; have := H5.out.1.size; omega, fun b hb => ?_⟩
        have h1 : b < w4.heap.size := by have := H5.out.1.size; omega
        exact (hg7.block b (by have := H6.out.2.2.1; omega) (fun e => by injection e with e; omega)).trans ((H6.out.2.2.2.1 b h1 (by have := H5.out.2.2.2; omega)).trans (H5.out.1.block b hb))
      have ho7 : OwnP w.heap.size w7 vk (ks.map pN) := ⟨owned_baseN (owned_keepN HOP.out.1 fun g hg hl => hg7.block g hl fun e => by injection e with e; have := (owned_ltN HOP.out.1 hg).1; have := H5.out.2.2.1.lt; omega) fun g hg => by have := (owned_ltN HOP.out.1 hg).1; have := H5.out.1.size; omega, HOP.out.2⟩
      have H7 := hide (And.intro hk7 (And.intro hb7 ho7))
      clear hk7 hg7 hb7 ho7
      go_wp2_with fail
      refine bodyPost_ret (results_cell_row rfl _ _ w.heap.size 55 (oC (pN n) vk).toArray (0, 0) _ rfl H7.out.1 Try.underlying55 rfl hxs) rfl ⟨vk, rfl, H7.out.2.2, H7.out.2.1⟩
end Go.Proofs.Ytfppddnfdinipaa
end
section
namespace Go.Proofs.Ytfppddnfdinipaa
open Go Go.RowKit
theorem run_buildSlice2 {P : Program} {t e n : Nat} {z v u : Value} (ht : P.underlying t = some (.slice e)) (hs : (P.info? e).map (·.size) = some n) (h24 : 2 * n ≤ 16777216) (hz : ∀ w, (zeroValue e).run P w = .ok z w) (hv : v.cells.size = n) (hu : u.cells.size = n) (w : World) :
    (Instr.buildSlice t 2 #[(0, v), (1, u)]).run P w = .ok (.slice (some ⟨w.heap.size, 0, none⟩) 2 2) (w.alloc (.cells (v.cells ++ u.cells) e)) := by
  have hsz : ∀ w, (sizeOf e).run P w = .ok n w := by
    intro w
    cases hq : P.info? e with
    | none => simp [hq] at hs
    | some i =>
      have h1 : i.size = n := by simpa [hq] using hs
      simp [sizeOf, typeInfo, hq, h1]
  have hfill : ∀ cells : Array Value, cells.size = 2 * n → Instr.fill (fun i => some (i * n, n)) cells [(0, v), (1, u)] = some (v.cells ++ u.cells) := by
    intro cells hc
    have hcl : cells.toList.length = 2 * n := by simpa using hc
    rw [fill_part _ _ 0 v _ 0 (by simp [hv]) (by omega)]
    rw [fill_part _ _ 1 u _ n (by simp [hu]) (by simp only [List.size_toArray, List.length_append, List.length_take, List.length_drop]; simp [hv, hu]; omega)]
    unfold Instr.fill
    congr 1
    apply Array.ext'
    have hvl : v.cells.toList.length = n := by simpa using hv
    simp only [List.take_zero, List.nil_append, Nat.zero_add]
    obtain ⟨d, hd⟩ : ∃ d, d = cells.toList.drop v.cells.size := ⟨_, rfl⟩
    have hdl : d.length = n := by rw [hd, List.length_drop]; omega
    rw [← hd, List.take_left' hvl, List.drop_eq_nil_of_le (by rw [List.length_append]; omega)]
    simp
  have h25 : ¬ 16777216 < 2 * n := by omega
  simp [Instr.buildSlice, run_underlying ht, hsz, h25, hz, hfill, Result.andThen]
  have hr : (newRow e (v.cells ++ u.cells)).run P w = .ok ⟨w.heap.size, 0, none⟩ (w.alloc (.cells (v.cells ++ u.cells) e)) := rfl
  rw [hr]
theorem exec_buildSlice2 {P : Program} {ρ : Operand → Value} {o : Oper} (t : TypeId) (x y : Operand) (ho : o.op = .buildSlice t 2 #[(0, x), (1, y)]) {e n : Nat} {z v u : Value} (hx : ρ x = v) (hy : ρ y = u) (ht : P.underlying t = some (.slice e)) (hs : (P.info? e).map (·.size) = some n) (h24 : 2 * n ≤ 16777216) (hz : ∀ w, (zeroValue e).run P w = .ok z w) (hv : v.cells.size = n) (hu : u.cells.size = n) (w : World) :
    (execOp ρ o).run P w = .ok (.value (.slice (some ⟨w.heap.size, 0, none⟩) 2 2)) (w.alloc (.cells (v.cells ++ u.cells) e)) := by
  have h := run_buildSlice2 (P := P) ht hs h24 hz hv hu w
  unfold execOp
  simp only [ho, List.map_toArray, List.map_cons, List.map_nil, hx, hy, Sem.run_bind, h, Result.andThen_ok, Sem.run_pure]
/-- a slice whose elements' cells lie in a block -/
theorem slice_cells {α : Type} {t e : TypeId} {L : Lay α} (h0 : 0 < L.n) {w : World} {B g : Nat} {cells : List (List Value)} {l : List α} (hb : Blk w g e cells.flatten.toArray) (hg : g < B) (hlen : cells.length = l.length) (hn : l.length ≤ maxLen) (hat : ∀ (j : Nat) x cs, l[j]? = some x → cells[j]? = some cs → L.At w B cs x) :
    (Lay.slice t L).At w B [.slice (some ⟨g, 0, none⟩) l.length l.length] l := by
  have hl : ∀ cs ∈ cells, (id cs).length = L.n := fun cs hcs => by
    obtain ⟨j, hj⟩ := List.getElem?_of_mem hcs
    obtain ⟨x, hx⟩ : ∃ x, l[j]? = some x := ⟨_, List.getElem?_eq_getElem (by have := (List.getElem?_eq_some_iff.1 hj).1; omega)⟩
    exact L.len (hat j x cs hx hj)
  refine ⟨_, l.length, rfl, Nat.le_refl _, hn, (fun h => by cases h), fun _ => ⟨g, 0, rfl, hg, fun j x hj => ?_⟩⟩
  obtain ⟨cs, hcs⟩ : ∃ cs, cells[j]? = some cs := ⟨_, List.getElem?_eq_getElem (by have := (List.getElem?_eq_some_iff.1 hj).1; omega)⟩
  refine ⟨cs, fun i u hu => ?_, hat j x cs hj hcs⟩
  have h2 := flatC_at (f := id) h0 cells hl j cs hcs i u hu
  rw [hb.cell, Nat.zero_add]
  have e : cells.flatMap id = cells.flatten := by simp [List.flatMap]
  rw [e] at h2
  simpa using h2
end Go.Proofs.Ytfppddnfdinipaa
end
section
namespace Go.Proofs.Ytfppddnfdinipaa
open Go Go.RowKit Go.Maps
set_option maxRecDepth 100000
theorem ints_one {w : World} {g : Nat} {k : Nat} (h : Blk w g 3 #[.int .i64 (k : Int)]) : IntsAt w w.heap.size (.slice (some ⟨g, 0, none⟩) 1 1) ([k].map fun k => ((k : Nat) : Int)) :=
  ⟨_, 1, rfl, fun i z hz => ⟨g, 0, rfl, h.lt, by
    match i, hz with
    | 0, hz =>
      injection hz with hz
      subst hz
      exact h.cell 0⟩⟩
theorem ints_two {w : World} {g : Nat} (a b : Int) (h : Blk w g 3 #[.int .i64 a, .int .i64 b]) : IntsAt w w.heap.size (.slice (some ⟨g, 0, none⟩) 2 2) [a, b] :=
  ⟨_, 2, rfl, fun i z hz => ⟨g, 0, rfl, h.lt, by
    match i, hz with
    | 0, hz =>
      injection hz with hz
      subst hz
      exact h.cell 0
    | 1, hz =>
      injection hz with hz
      subst hz
      exact h.cell 1⟩⟩
theorem slice_two {α : Type} {t e : TypeId} {L : Lay α} (h0 : 0 < L.n) {w : World} {B g : Nat} {c1 c2 : List Value} {x1 x2 : α} (hb : Blk w g e ((Value.agg c1.toArray).cells ++ (Value.agg c2.toArray).cells)) (hg : g < B) (h1 : L.At w B c1 x1) (h2 : L.At w B c2 x2) : (Lay.slice t L).At w B [.slice (some ⟨g, 0, none⟩) 2 2] [x1, x2] := by
  have e : (Value.agg c1.toArray).cells ++ (Value.agg c2.toArray).cells = [c1, c2].flatten.toArray := by simp [Value.cells]
  rw [e] at hb
  refine slice_cells (l := [x1, x2]) h0 hb hg rfl (of_decide_eq_true (by kernel_rfl)) fun j x cs hx hcs => ?_
  match j, hx, hcs with
  | 0, hx, hcs => injection hx with hx; injection hcs with hcs; subst hx hcs; exact h1
  | 1, hx, hcs => injection hx with hx; injection hcs with hcs; subst hx hcs; exact h2
theorem slice_one {α : Type} {t e : TypeId} {L : Lay α} (h0 : 0 < L.n) {w : World} {B g : Nat} {c1 : List Value} {x1 : α} (hb : Blk w g e (Value.agg c1.toArray).cells) (hg : g < B) (h1 : L.At w B c1 x1) : (Lay.slice t L).At w B [.slice (some ⟨g, 0, none⟩) 1 1] [x1] := by
  have e : (Value.agg c1.toArray).cells = [c1].flatten.toArray := by simp [Value.cells]
  rw [e] at hb
  refine slice_cells (l := [x1]) h0 hb hg rfl (of_decide_eq_true (by kernel_rfl)) fun j x cs hx hcs => ?_
  match j, hx, hcs with
  | 0, hx, hcs => injection hx with hx; injection hcs with hcs; subst hx hcs; exact h1
theorem optLay_mk {w : World} {B : Nat} {p : Pth} {v : Value} {cl : List Pth} (hp : okP p) (h : pathsLay.At w B [v] cl) : optLay.At w B (oC p v) (p, cl) :=
  ⟨pC p, [v], rfl, pathLay_at.2 ⟨rfl, hp⟩, [v], [], rfl, h, rfl⟩
theorem exec_made2 {ρ : Operand → Value} {o : Oper} (h : Hsh) (p : Pth) (hh : okH h) (hp : okP p) (x y : Operand) (ho : o.op = .build 60 #[(0, x), (1, y)]) (h1 : ρ x = .agg (bv h).toArray) (h2 : ρ y = .agg (pC p).toArray) (w : World) : (execOp ρ o).run Try.prog w = .ok (.value (.agg (mC h p).toArray)) w := by
  have e9 : (Value.agg (bv h).toArray).cells ++ (Value.agg (pC p).toArray).cells = (mC h p).toArray := by simp [Value.cells]
  refine Eq.trans (exec_build2 60 x y ho (n1 := 20) (n2 := 21) (z := .agg zcM) (v1 := .agg (bv h).toArray) (v2 := .agg (pC p).toArray) h1 h2 Try.underlying60 (fun w => by kernel_rfl) (by kernel_rfl) (fun w => by kernel_rfl) (by simp [Value.cells, bvL]; exact hh) (by simp [Value.cells, pC_len hp]) w) ?_
  rw [e9]
def zcC : Array Value := (bv (List.replicate 20 0) ++ [Value.slice none 0 0, Value.slice none 0 0, Value.slice none 0 0, Value.slice none 0 0]).toArray
def c0 : CaseP := ⟨hN 9, [], [hN 1, hN 2], [[(pN 1, [pN 4]), (pN 2, [pN 5])], [(pN 3, [pN 5])]], [(hN 4, pN 4), (hN 4, pN 5)]⟩
theorem c0_least : leastB c0 100 = ([1, 0], 4, 0) ∧ leastB c0 3 = ([], 3, 11) ∧ freeB c0 [1, 0] = true ∧ freeB c0 [0, 0] = false := by
  refine ⟨?_, ?_, ?_, ?_⟩ <;> kernel_rfl
theorem c0_size : c0.size ≤ 120 := by decide
set_option maxHeartbeats 8000000 in
theorem awake24_any (w0 : World) : Calls Try.prog 11 #[] w0 fun e w' => e = .returned (.bool true) ∧ Below w0.heap.size w0 w' := by
  go_enter Try.func11, Try.ntmps11
  go_wp2_with fail
  refine (class_any 9 (by omega) w0).mono ?_
  rintro e w1 ⟨rfl, hbw1⟩
  have HBw1 := hide (show Below w0.heap.size w0 w1 from hbw1)
  clear hbw1
  dsimp only
  go_wp2_with fail
  refine (class_any 1 (by omega) w1).mono ?_
  rintro e w2 ⟨rfl, hbw2⟩
  have HBw2 := hide (show Below w1.heap.size w1 w2 from hbw2)
  clear hbw2
  dsimp only
  go_wp2_with fail
  refine (class_any 2 (by omega) w2).mono ?_
  rintro e w3 ⟨rfl, hbw3⟩
  have HBw3 := hide (show Below w2.heap.size w2 w3 from hbw3)
  clear hbw3
  dsimp only
  obtain ⟨w4, hww4⟩ : ∃ w4, w4 = w3.alloc (.cells ((Value.agg (bv (hN 1)).toArray).cells ++ (Value.agg (bv (hN 2)).toArray).cells) 23) := ⟨_, rfl⟩
  have HBw4 := hide (show Below w3.heap.size w3 w4 from by rw [hww4]; exact (Below.refl _ w3).alloc (Nat.le_refl _) _)
  have HKw4 := hide (show Blk w4 w3.heap.size 23 ((Value.agg (bv (hN 1)).toArray).cells ++ (Value.agg (bv (hN 2)).toArray).cells) from by rw [hww4]; exact Blk.new _ _ _)
  have HWw4 := hide hww4
  clear hww4
  obtain ⟨w5, hww5⟩ : ∃ w5, w5 = w4.alloc (.cells (#[.int .i64 4]) 3) := ⟨_, rfl⟩
  have HBw5 := hide (show Below w4.heap.size w4 w5 from by rw [hww5]; exact (Below.refl _ w4).alloc (Nat.le_refl _) _)
  have HKw5 := hide (show Blk w5 w4.heap.size 3 (#[.int .i64 4]) from by rw [hww5]; exact Blk.new _ _ _)
  have HWw5 := hide hww5
  clear hww5
  go_wp2_with (first | (refine wpList_value (o := ⟨some 11, _, _, _, _, _⟩) rfl (.slice (some ⟨w3.heap.size, 0, none⟩) 2 2) w4 (by rw [HWw4.out]; exact exec_buildSlice2 (o := ⟨some 11, _, _, _, _, _⟩) (v := .agg (bv (hN 1)).toArray) (u := .agg (bv (hN 2)).toArray) 25 (.tmp 9) (.tmp 10) rfl rfl rfl Try.underlying25 sz_hash (by omega) (z := .agg zcH) (fun w => by kernel_rfl) rfl rfl w3) ?_) | (refine wpList_value (o := ⟨some 12, _, _, _, _, _⟩) rfl (.slice (some ⟨w4.heap.size, 0, none⟩) 1 1) w5 (by rw [HWw5.out]; kernel_rfl) ?_))
  refine (option_any 1 (by omega) [4] (by simp) (by simp) (.slice (some ⟨w4.heap.size, 0, none⟩) 1 1) w5 (ints_one HKw5.out)).mono ?_
  rintro e w6 ⟨u13, rfl, hu13, hbw6⟩
  have HBw6 := hide (show Below w5.heap.size w5 w6 from hbw6)
  have Hu13 := hide hu13
  clear hbw6 hu13
  dsimp only
  obtain ⟨w7, hww7⟩ : ∃ w7, w7 = w6.alloc (.cells (#[.int .i64 5]) 3) := ⟨_, rfl⟩
  have HBw7 := hide (show Below w6.heap.size w6 w7 from by rw [hww7]; exact (Below.refl _ w6).alloc (Nat.le_refl _) _)
  have HKw7 := hide (show Blk w7 w6.heap.size 3 (#[.int .i64 5]) from by rw [hww7]; exact Blk.new _ _ _)
  have HWw7 := hide hww7
  clear hww7
  go_wp2_with (refine wpList_value (o := ⟨some 14, _, _, _, _, _⟩) rfl (.slice (some ⟨w6.heap.size, 0, none⟩) 1 1) w7 (by rw [HWw7.out]; kernel_rfl) ?_)
  refine (option_any 2 (by omega) [5] (by simp) (by simp) (.slice (some ⟨w6.heap.size, 0, none⟩) 1 1) w7 (ints_one HKw7.out)).mono ?_
  rintro e w8 ⟨u15, rfl, hu15, hbw8⟩
  have HBw8 := hide (show Below w7.heap.size w7 w8 from hbw8)
  have Hu15 := hide hu15
  clear hbw8 hu15
  dsimp only
  obtain ⟨w9, hww9⟩ : ∃ w9, w9 = w8.alloc (.cells ((Value.agg (oC (pN 1) u13).toArray).cells ++ (Value.agg (oC (pN 2) u15).toArray).cells) 55) := ⟨_, rfl⟩
  have HBw9 := hide (show Below w8.heap.size w8 w9 from by rw [hww9]; exact (Below.refl _ w8).alloc (Nat.le_refl _) _)
  have HKw9 := hide (show Blk w9 w8.heap.size 55 ((Value.agg (oC (pN 1) u13).toArray).cells ++ (Value.agg (oC (pN 2) u15).toArray).cells) from by rw [hww9]; exact Blk.new _ _ _)
  have HWw9 := hide hww9
  clear hww9
  obtain ⟨w10, hww10⟩ : ∃ w10, w10 = w9.alloc (.cells (#[.int .i64 5]) 3) := ⟨_, rfl⟩
  have HBw10 := hide (show Below w9.heap.size w9 w10 from by rw [hww10]; exact (Below.refl _ w9).alloc (Nat.le_refl _) _)
  have HKw10 := hide (show Blk w10 w9.heap.size 3 (#[.int .i64 5]) from by rw [hww10]; exact Blk.new _ _ _)
  have HWw10 := hide hww10
  clear hww10
  go_wp2_with (first | (refine wpList_value (o := ⟨some 16, _, _, _, _, _⟩) rfl (.slice (some ⟨w8.heap.size, 0, none⟩) 2 2) w9 (by rw [HWw9.out]; exact exec_buildSlice2 (o := ⟨some 16, _, _, _, _, _⟩) (v := .agg (oC (pN 1) u13).toArray) (u := .agg (oC (pN 2) u15).toArray) 57 (.tmp 13) (.tmp 15) rfl rfl rfl Try.underlying57 sz_opt (by omega) (z := .agg zcO) (fun w => by kernel_rfl) rfl rfl w8) ?_) | (refine wpList_value (o := ⟨some 17, _, _, _, _, _⟩) rfl (.slice (some ⟨w9.heap.size, 0, none⟩) 1 1) w10 (by rw [HWw10.out]; kernel_rfl) ?_))
  refine (option_any 3 (by omega) [5] (by simp) (by simp) (.slice (some ⟨w9.heap.size, 0, none⟩) 1 1) w10 (ints_one HKw10.out)).mono ?_
  rintro e w11 ⟨u18, rfl, hu18, hbw11⟩
  have HBw11 := hide (show Below w10.heap.size w10 w11 from hbw11)
  have Hu18 := hide hu18
  clear hbw11 hu18
  dsimp only
  obtain ⟨w12, hww12⟩ : ∃ w12, w12 = w11.alloc (.cells ((Value.agg (oC (pN 3) u18).toArray).cells) 55) := ⟨_, rfl⟩
  have HBw12 := hide (show Below w11.heap.size w11 w12 from by rw [hww12]; exact (Below.refl _ w11).alloc (Nat.le_refl _) _)
  have HKw12 := hide (show Blk w12 w11.heap.size 55 ((Value.agg (oC (pN 3) u18).toArray).cells) from by rw [hww12]; exact Blk.new _ _ _)
  have HWw12 := hide hww12
  clear hww12
  obtain ⟨w13, hww13⟩ : ∃ w13, w13 = w12.alloc (.cells (#[.slice (some ⟨w8.heap.size, 0, none⟩) 2 2, .slice (some ⟨w11.heap.size, 0, none⟩) 1 1]) 57) := ⟨_, rfl⟩
  have HBw13 := hide (show Below w12.heap.size w12 w13 from by rw [hww13]; exact (Below.refl _ w12).alloc (Nat.le_refl _) _)
  have HKw13 := hide (show Blk w13 w12.heap.size 57 (#[.slice (some ⟨w8.heap.size, 0, none⟩) 2 2, .slice (some ⟨w11.heap.size, 0, none⟩) 1 1]) from by rw [hww13]; exact Blk.new _ _ _)
  have HWw13 := hide hww13
  clear hww13
  go_wp2_with (first | (refine wpList_value (o := ⟨some 19, _, _, _, _, _⟩) rfl (.slice (some ⟨w11.heap.size, 0, none⟩) 1 1) w12 (by rw [HWw12.out]; exact exec_buildSliceP (o := ⟨some 19, _, _, _, _, _⟩) (v := .agg (oC (pN 3) u18).toArray) 57 (.tmp 18) rfl rfl Try.underlying57 sz_opt (by omega) (by omega) (z := .agg zcO) (fun w => by kernel_rfl) rfl w11) ?_) | (refine wpList_value (o := ⟨some 20, _, _, _, _, _⟩) rfl (.slice (some ⟨w12.heap.size, 0, none⟩) 2 2) w13 (by rw [HWw13.out]; kernel_rfl) ?_))
  refine (class_any 4 (by omega) w13).mono ?_
  rintro e w14 ⟨rfl, hbw14⟩
  have HBw14 := hide (show Below w13.heap.size w13 w14 from hbw14)
  clear hbw14
  dsimp only
  go_wp2_with fail
  refine (path_any 4 (by omega) w14).mono ?_
  rintro e w15 ⟨rfl, hbw15⟩
  have HBw15 := hide (show Below w14.heap.size w14 w15 from hbw15)
  clear hbw15
  dsimp only
  go_wp2_with ((refine wpList_value (o := ⟨some 23, _, _, _, _, _⟩) rfl (.agg (mC (hN 4) (pN 4)).toArray) w15 (exec_made2 (o := ⟨some 23, _, _, _, _, _⟩) (hN 4) (pN 4) (hN_ok _) (pN_ok _) (.tmp 21) (.tmp 22) rfl rfl rfl w15) ?_))
  refine (class_any 4 (by omega) w15).mono ?_
  rintro e w16 ⟨rfl, hbw16⟩
  have HBw16 := hide (show Below w15.heap.size w15 w16 from hbw16)
  clear hbw16
  dsimp only
  go_wp2_with fail
  refine (path_any 5 (by omega) w16).mono ?_
  rintro e w17 ⟨rfl, hbw17⟩
  have HBw17 := hide (show Below w16.heap.size w16 w17 from hbw17)
  clear hbw17
  dsimp only
  obtain ⟨w18, hww18⟩ : ∃ w18, w18 = w17.alloc (.cells ((Value.agg (mC (hN 4) (pN 4)).toArray).cells ++ (Value.agg (mC (hN 4) (pN 5)).toArray).cells) 60) := ⟨_, rfl⟩
  have HBw18 := hide (show Below w17.heap.size w17 w18 from by rw [hww18]; exact (Below.refl _ w17).alloc (Nat.le_refl _) _)
  have HKw18 := hide (show Blk w18 w17.heap.size 60 ((Value.agg (mC (hN 4) (pN 4)).toArray).cells ++ (Value.agg (mC (hN 4) (pN 5)).toArray).cells) from by rw [hww18]; exact Blk.new _ _ _)
  have HWw18 := hide hww18
  clear hww18
  obtain ⟨v0, hv0⟩ : ∃ v0, v0 = (⟨hN 9, .slice none 0 0, .slice (some ⟨w3.heap.size, 0, none⟩) 2 2, .slice (some ⟨w12.heap.size, 0, none⟩) 2 2, .slice (some ⟨w17.heap.size, 0, none⟩) 2 2⟩ : Cvs) := ⟨_, rfl⟩
  have ho : okH v0.own := by rw [hv0]; exact hN_ok 9
  have hsz0 : (Try.prog.info? 29).map (·.size) = some (caseC v0).toArray.size := csz ho
  have hone0 : (caseC v0).toArray.all (·.oneCell') = true := by rw [hv0]; kernel_rfl
  have HV := hide hv0
  clear hv0
  go_wp2_with (first | (refine wpList_value (o := ⟨some 26, _, _, _, _, _⟩) rfl (.agg (mC (hN 4) (pN 5)).toArray) w17 (exec_made2 (o := ⟨some 26, _, _, _, _, _⟩) (hN 4) (pN 5) (hN_ok _) (pN_ok _) (.tmp 24) (.tmp 25) rfl rfl rfl w17) ?_) | (refine wpList_value (o := ⟨some 27, _, _, _, _, _⟩) rfl (.slice (some ⟨w17.heap.size, 0, none⟩) 2 2) w18 (by rw [HWw18.out]; exact exec_buildSlice2 (o := ⟨some 27, _, _, _, _, _⟩) (v := .agg (mC (hN 4) (pN 4)).toArray) (u := .agg (mC (hN 4) (pN 5)).toArray) 27 (.tmp 23) (.tmp 26) rfl rfl rfl Try.underlying27 sz_made (by omega) (z := .agg zcM) (fun w => by kernel_rfl) rfl rfl w17) ?_) | (refine wpList_value (o := ⟨some 28, _, _, _, _, _⟩) rfl (.agg (caseC v0).toArray) w18 ?hh ?_) | ((with_reducible refine wpList_box (o1 := ⟨some 1, _, _, _, _, _⟩) (o2 := ⟨none, _, _, _, _, _⟩) rfl rfl 29 (.tmp 1) (.tmp 28) ?_ zcC (caseC v0).toArray ?_ hsz0 ?_ hone0 ?_ ?_ ?_); rfl; kernel_rfl; (simp only [List.size_toArray, caseC_len ho]; kernel_rfl); rfl; rfl; intro w19 hmw19 hbw19; have HBw19 := hide hbw19; have HKw19 := hide hmw19; clear hmw19 hbw19; simp only [Act.put, List.setIfInBounds_toArray, List.set_cons_zero, List.set_cons_succ]) | (refine wpList_value (o := ⟨some 30, _, _, _, _, _⟩) rfl (.agg (caseC v0).toArray) w19 (exec_load_blk (o := ⟨some 30, _, _, _, _, _⟩) 29 (.tmp 1) rfl w18.heap.size rfl 29 _ _ w19 HKw19.out Try.underlying29 rfl hsz0) ?_))
  case hh =>
    rw [HV.out]
    kernel_rfl
  have hB19 : Below w19.heap.size w19 w19 := Below.refl _ _
  have hB18 : Below w18.heap.size w18 w19 := HBw19.out.trans (Below.mono hB19 HBw19.out.size)
  have hB17 : Below w17.heap.size w17 w19 := HBw18.out.trans (Below.mono hB18 HBw18.out.size)
  have hB16 : Below w16.heap.size w16 w19 := HBw17.out.trans (Below.mono hB17 HBw17.out.size)
  have hB15 : Below w15.heap.size w15 w19 := HBw16.out.trans (Below.mono hB16 HBw16.out.size)
  have hB14 : Below w14.heap.size w14 w19 := HBw15.out.trans (Below.mono hB15 HBw15.out.size)
  have hB13 : Below w13.heap.size w13 w19 := HBw14.out.trans (Below.mono hB14 HBw14.out.size)
  have hB12 : Below w12.heap.size w12 w19 := HBw13.out.trans (Below.mono hB13 HBw13.out.size)
  have hB11 : Below w11.heap.size w11 w19 := HBw12.out.trans (Below.mono hB12 HBw12.out.size)
  have hB10 : Below w10.heap.size w10 w19 := HBw11.out.trans (Below.mono hB11 HBw11.out.size)
  have hB9 : Below w9.heap.size w9 w19 := HBw10.out.trans (Below.mono hB10 HBw10.out.size)
  have hB8 : Below w8.heap.size w8 w19 := HBw9.out.trans (Below.mono hB9 HBw9.out.size)
  have hB7 : Below w7.heap.size w7 w19 := HBw8.out.trans (Below.mono hB8 HBw8.out.size)
  have hB6 : Below w6.heap.size w6 w19 := HBw7.out.trans (Below.mono hB7 HBw7.out.size)
  have hB5 : Below w5.heap.size w5 w19 := HBw6.out.trans (Below.mono hB6 HBw6.out.size)
  have hB4 : Below w4.heap.size w4 w19 := HBw5.out.trans (Below.mono hB5 HBw5.out.size)
  have hB3 : Below w3.heap.size w3 w19 := HBw4.out.trans (Below.mono hB4 HBw4.out.size)
  have hB2 : Below w2.heap.size w2 w19 := HBw3.out.trans (Below.mono hB3 HBw3.out.size)
  have hB1 : Below w1.heap.size w1 w19 := HBw2.out.trans (Below.mono hB2 HBw2.out.size)
  have hB0 : Below w0.heap.size w0 w19 := HBw1.out.trans (Below.mono hB1 HBw1.out.size)
  have hs0 := HBw1.out.size
  have hs1 := HBw2.out.size
  have hs2 := HBw3.out.size
  have hs3 := HBw4.out.size
  have hs4 := HBw5.out.size
  have hs5 := HBw6.out.size
  have hs6 := HBw7.out.size
  have hs7 := HBw8.out.size
  have hs8 := HBw9.out.size
  have hs9 := HBw10.out.size
  have hs10 := HBw11.out.size
  have hs11 := HBw12.out.size
  have hs12 := HBw13.out.size
  have hs13 := HBw14.out.size
  have hs14 := HBw15.out.size
  have hs15 := HBw16.out.size
  have hs16 := HBw17.out.size
  have hs17 := HBw18.out.size
  have hs18 := HBw19.out.size
  have hat : CaseAt w19.heap.size w19 v0 c0 := by
    rw [HV.out]
    refine ⟨rfl, hN_ok 9, ⟨none, 0, rfl, Nat.le_refl _, Nat.zero_le _, fun _ => rfl, fun h => absurd h (by simp [c0])⟩, ?_, ?_, ?_⟩
    · exact slice_two (L := hashLay) (by decide) (HKw4.out.below hB4 HKw4.out.lt) (show w3.heap.size < w19.heap.size by have := HKw4.out.lt; omega) ⟨rfl, hN_ok 1⟩ ⟨rfl, hN_ok 2⟩
    · exact slice_two (L := rowLay) (by decide) (HKw13.out.below hB13 HKw13.out.lt) (show w12.heap.size < w19.heap.size by have := HKw13.out.lt; omega) (slice_two (L := optLay) (by decide) (HKw9.out.below hB9 HKw9.out.lt) (show w8.heap.size < w19.heap.size by have := HKw9.out.lt; omega) (optLay_mk (pN_ok 1) (OwnP.at_ (OwnP.below Hu13.out hB6))) (optLay_mk (pN_ok 2) (OwnP.at_ (OwnP.below Hu15.out hB8)))) (slice_one (L := optLay) (by decide) (HKw12.out.below hB12 HKw12.out.lt) (show w11.heap.size < w19.heap.size by have := HKw12.out.lt; omega) (optLay_mk (pN_ok 3) (OwnP.at_ (OwnP.below Hu18.out hB11))))
    · exact slice_two (L := madeLay) (by decide) (HKw18.out.below hB18 HKw18.out.lt) (show w17.heap.size < w19.heap.size by have := HKw18.out.lt; omega) (madeLay_at.2 ⟨rfl, hN_ok 4, pN_ok 4⟩) (madeLay_at.2 ⟨rfl, hN_ok 4, pN_ok 5⟩)
  have HA := hide (And.intro hat (And.intro hB0 HKw19.out))
  clear hat hB0 hB1 hB2 hB3 hB4 hB5 hB6 hB7 hB8 hB9 hB10 hB11 hB12 hB13 hB14 hB15 hB16 hB17 hB18 hB19 hs0 hs1 hs2 hs3 hs4 hs5 hs6 hs7 hs8 hs9 hs10 hs11 hs12 hs13 hs14 hs15 hs16 hs17 hs18 HBw1 HBw2 HBw3 HBw4 HBw5 HBw6 HBw7 HBw8 HBw9 HBw10 HBw11 HBw12 HBw13 HBw14 HBw15 HBw16 HBw17 HBw18 HBw19 Hu13 Hu15 Hu18 HKw4 HKw9 HKw12 HKw13 HKw18
  refine (least_any w19 v0 c0 c0_size HA.out.1 100 (by omega)).mono ?_
  rintro e w20 ⟨u31, rfl, ho31, hb20⟩
  rw [c0_least.1] at ho31 ⊢
  have H20 := hide (And.intro ho31 (And.intro hb20 (show CaseAt w20.heap.size w20 v0 c0 from (HA.out.1.alike hb20.block).widen hb20.size)))
  have HB20 := hide (show Blk w20 w18.heap.size 29 (caseC v0).toArray from HA.out.2.2.below hb20 HA.out.2.2.lt)
  clear ho31 hb20
  dsimp only
  go_wp2_with (refine wpList_value (o := ⟨some 36, _, _, _, _, _⟩) rfl (.agg (caseC v0).toArray) w20 (exec_load_blk (o := ⟨some 36, _, _, _, _, _⟩) 29 (.tmp 1) rfl w18.heap.size rfl 29 _ _ w20 HB20.out Try.underlying29 rfl hsz0) ?_)
  refine (least_any w20 v0 c0 c0_size H20.out.2.2 3 (by omega)).mono ?_
  rintro e w21 ⟨u37, rfl, ho37, hb21⟩
  rw [c0_least.2.1] at ho37 ⊢
  have H21 := hide (And.intro (show CaseAt w21.heap.size w21 v0 c0 from (H20.out.2.2.alike hb21.block).widen hb21.size) (And.intro hb21 (show OwnI _ w21 u31 [1, 0] from owned_keepN H20.out.1 fun g _ hl => hb21.block g hl)))
  have HB21 := hide (show Blk w21 w18.heap.size 29 (caseC v0).toArray from HB20.out.below hb21 HB20.out.lt)
  clear ho37 hb21
  dsimp only
  obtain ⟨w22, hw22⟩ : ∃ w22, w22 = w21.alloc (.cells #[.int .i64 1, .int .i64 0] 3) := ⟨_, rfl⟩
  have hb22 : Below w21.heap.size w21 w22 := by rw [hw22]; exact (Below.refl _ w21).alloc (Nat.le_refl _) _
  have hk22 : Blk w22 w21.heap.size 3 #[.int .i64 1, .int .i64 0] := by rw [hw22]; exact Blk.new _ _ _
  have HW22 := hide hw22
  clear hw22
  go_wp2_with (refine wpList_value_w (o := ⟨some 45, _, _, _, _, _⟩) (by kernel_rfl) (.slice (some ⟨w21.heap.size, 0, none⟩) 2 2) w22 (by rw [HW22.out]; kernel_rfl) ?_)
  refine (sameInts_any [1, 0] [1, 0] (by simp) (by simp) u31 _ w22 (OwnI.ints (owned_keepN H21.out.2.2 fun g _ hl => hb22.block g hl)) (ints_two 1 0 hk22)).mono ?_
  rintro e w23 ⟨rfl, hb23⟩
  have hb2123 := hb22.trans (Below.mono hb23 hb22.size)
  have H23 := hide (And.intro (show CaseAt w23.heap.size w23 v0 c0 from (H21.out.1.alike hb2123.block).widen hb2123.size) hb2123)
  have HB23 := hide (show Blk w23 w18.heap.size 29 (caseC v0).toArray from HB21.out.below hb2123 HB21.out.lt)
  clear hb22 hb23 hk22 hb2123
  dsimp only
  obtain ⟨w24, hw24⟩ : ∃ w24, w24 = w23.alloc (.cells #[.int .i64 1, .int .i64 0] 3) := ⟨_, rfl⟩
  have hb24 : Below w23.heap.size w23 w24 := by rw [hw24]; exact (Below.refl _ w23).alloc (Nat.le_refl _) _
  have hk24 : Blk w24 w23.heap.size 3 #[.int .i64 1, .int .i64 0] := by rw [hw24]; exact Blk.new _ _ _
  have HW24 := hide hw24
  clear hw24
  have hd1 : decide (([1, 0] : List Int) = [1, 0]) = true := rfl
  rw [hd1]
  clear hd1
  go_wp2_with (first | (refine wpList_value_w (o := ⟨some 61, _, _, _, _, _⟩) (by kernel_rfl) (.agg (caseC v0).toArray) w23 (exec_load_blk (o := ⟨some 61, _, _, _, _, _⟩) 29 (.tmp 1) rfl w18.heap.size rfl 29 _ _ w23 HB23.out Try.underlying29 rfl hsz0) ?_) | (refine wpList_value_w (o := ⟨some 62, _, _, _, _, _⟩) (by kernel_rfl) (.slice (some ⟨w23.heap.size, 0, none⟩) 2 2) w24 (by rw [HW24.out]; kernel_rfl) ?_))
  have hC24 : CaseAt w24.heap.size w24 v0 c0 := (H23.out.1.alike hb24.block).widen hb24.size
  refine (free_any w24 v0 c0 c0_size hC24 [1, 0] (by simp) _ (ints_two 1 0 hk24)).mono ?_
  rintro e w25 ⟨rfl, hb25⟩
  rw [c0_least.2.2.1]
  have hb2325 := hb24.trans (Below.mono hb25 hb24.size)
  have H25 := hide (And.intro (show CaseAt w25.heap.size w25 v0 c0 from (H23.out.1.alike hb2325.block).widen hb2325.size) hb2325)
  have HB25 := hide (show Blk w25 w18.heap.size 29 (caseC v0).toArray from HB23.out.below hb2325 HB23.out.lt)
  clear hb24 hk24 hb25 hC24 hb2325
  dsimp only
  obtain ⟨w26, hw26⟩ : ∃ w26, w26 = w25.alloc (.cells #[.int .i64 0, .int .i64 0] 3) := ⟨_, rfl⟩
  have hb26 : Below w25.heap.size w25 w26 := by rw [hw26]; exact (Below.refl _ w25).alloc (Nat.le_refl _) _
  have hk26 : Blk w26 w25.heap.size 3 #[.int .i64 0, .int .i64 0] := by rw [hw26]; exact Blk.new _ _ _
  have HW26 := hide hw26
  clear hw26
  go_wp2_with (first | (refine wpList_value_w (o := ⟨some 66, _, _, _, _, _⟩) (by kernel_rfl) (.agg (caseC v0).toArray) w25 (exec_load_blk (o := ⟨some 66, _, _, _, _, _⟩) 29 (.tmp 1) rfl w18.heap.size rfl 29 _ _ w25 HB25.out Try.underlying29 rfl hsz0) ?_) | (refine wpList_value_w (o := ⟨some 67, _, _, _, _, _⟩) (by kernel_rfl) (.slice (some ⟨w25.heap.size, 0, none⟩) 2 2) w26 (by rw [HW26.out]; kernel_rfl) ?_))
  have hC26 : CaseAt w26.heap.size w26 v0 c0 := (H25.out.1.alike hb26.block).widen hb26.size
  refine (free_any w26 v0 c0 c0_size hC26 [0, 0] (by simp) _ (ints_two 0 0 hk26)).mono ?_
  rintro e w27 ⟨rfl, hb27⟩
  rw [c0_least.2.2.2]
  have hbf : Below w0.heap.size w0 w27 := HA.out.2.1.trans (Below.mono (H20.out.2.1.trans (Below.mono (H21.out.2.1.trans (Below.mono (H23.out.2.trans (Below.mono (H25.out.2.trans (Below.mono (hb26.trans (Below.mono hb27 hb26.size)) H25.out.2.size)) H23.out.2.size)) H21.out.2.1.size)) H20.out.2.1.size)) HA.out.2.1.size)
  have HF := hide hbf
  clear hbf hb26 hk26 hb27 hC26
  dsimp only
  go_wp2_with fail
  go_ret
  exact ⟨rfl, HF.out⟩
end Go.Proofs.Ytfppddnfdinipaa
end
section
namespace Go.Proofs.Ytfppddnfdinipaa
open Go Go.RowKit Go.Maps
set_option maxRecDepth 100000
theorem case_all {B : Nat} {w : World} {v : Cvs} {c : CaseP} (h : CaseAt B w v c) : (caseC v).toArray.all (·.oneCell') = true :=
  all_oneCell_toArray (caseC_one (pathsLay.one h.atF _ (by simp)) (hashesLay.one h.atC _ (by simp)) (rowsLay.one h.atO _ (by simp)) (madesLay.one h.atM _ (by simp)))
theorem lent_ints {w : World} {g cap : Nat} {ks : List Int} (h : Blk w g 3 (ivz (ks ++ marksInt)).toArray) : IntsAt w w.heap.size (.slice (some ⟨g, 0, none⟩) ks.length cap) ks := by
  refine ⟨_, _, rfl, fun i k hk => ⟨g, 0, rfl, h.lt, ?_⟩⟩
  rw [h.cell, Nat.zero_add]
  exact keptLI ks i k hk
set_option maxHeartbeats 8000000 in
theorem pickFree_any (w : World) (v : Cvs) (c : CaseP) (hl : LightC c) (hC : CaseAt w.heap.size w v c) (ks : List Int) (vk : Value) (hK : intLay.At w w.heap.size [vk] ks) :
    Calls Try.prog 4 #[.agg (caseC v).toArray, vk] w fun e w' => e = .returned (.bool true) ∧ Below w.heap.size w w' := by
  have ho : okH v.own := by rw [hC.own]; exact hC.okO
  have hsz0 := csz ho
  obtain ⟨A, capk, rfl, _, _, _, _⟩ := slice_open hK
  obtain ⟨w1, hw1⟩ : ∃ w1, w1 = w.alloc (.cells (caseC v).toArray 29) := ⟨_, rfl⟩
  have hb1 : Below w.heap.size w w1 := by rw [hw1]; exact (Below.refl _ w).alloc (Nat.le_refl _) _
  have hk1 : Blk w1 w.heap.size 29 (caseC v).toArray := by rw [hw1]; exact Blk.new _ _ _
  have HC1 := hide (And.intro (show CaseAt w1.heap.size w1 v c from (hC.alike hb1.block).widen hb1.size) (And.intro hk1 hb1))
  have HW1 := hide hw1
  have HK := hide hK
  clear hb1 hk1 hC hw1 hK
  go_enter Try.func4, Try.ntmps4
  go_wp2_with (first | (refine wpList_value (o := ⟨some 2, _, _, _, _, _⟩) rfl (.pointer (some ⟨w.heap.size, 0, none⟩)) w1 (by rw [HW1.out]; kernel_rfl) ?_) | (refine wpList_value (o := ⟨some 7, _, _, _, _, _⟩) rfl (.agg (caseC v).toArray) w1 (exec_load_blk (o := ⟨some 7, _, _, _, _, _⟩) 29 (.tmp 2) rfl w.heap.size rfl 29 _ _ w1 HC1.out.2.1 Try.underlying29 rfl hsz0) ?_))
  refine (great_any w1 v c hl HC1.out.1).mono ?_
  rintro e w2 ⟨rfl, hb⟩
  have HC2 := hide (And.intro (show CaseAt w2.heap.size w2 v c from (HC1.out.1.alike hb.block).widen hb.size) (And.intro (show Blk w2 w.heap.size 29 (caseC v).toArray from HC1.out.2.1.below hb HC1.out.2.1.lt) (show Below w.heap.size w w2 from HC1.out.2.2.trans (Below.mono hb HC1.out.2.2.size))))
  clear hb
  dsimp only
  by_cases hg : 120 < c.size
  · have hd : decide (120 < c.size) = true := decide_eq_true hg
    rw [hd]
    go_wp2_with fail
    refine (awake24_any w2).mono ?_
    rintro e w9 ⟨rfl, hb⟩
    dsimp only
    have HE := hide (show Below w.heap.size w w9 from HC2.out.2.2.trans (Below.mono hb HC2.out.2.2.size))
    clear hb
    go_wp2_with fail
    go_ret
    exact ⟨rfl, HE.out⟩
  · have hd : decide (120 < c.size) = false := decide_eq_false hg
    rw [hd]
    have hc : c.size ≤ 120 := by omega
    clear hd hg
    by_cases hk : 120 < ks.length
    · have hk' : (ks.length : Int) > 120 := by omega
      go_wp2_with fail
      refine (awake24_any w2).mono ?_
      rintro e w9 ⟨rfl, hb⟩
      dsimp only
      have HE := hide (show Below w.heap.size w w9 from HC2.out.2.2.trans (Below.mono hb HC2.out.2.2.size))
      clear hb
      go_wp2_with fail
      go_ret
      exact ⟨rfl, HE.out⟩
    · have hk' : ¬ (ks.length : Int) > 120 := by omega
      have hk9 : ks.length ≤ 1000000 := by omega
      go_wp2_with (refine wpList_value (o := ⟨some 15, _, _, _, _, _⟩) rfl (.agg (caseC v).toArray) w2 (exec_load_blk (o := ⟨some 15, _, _, _, _, _⟩) 29 (.tmp 2) rfl w.heap.size rfl 29 _ _ w2 HC2.out.2.1 Try.underlying29 rfl hsz0) ?_)
      refine (lent_any w2 v c hc HC2.out.1).mono ?_
      rintro e w3 ⟨v', rfl, hc', hl', hb⟩
      have HC3 := hide (And.intro (show CaseAt w3.heap.size w3 v c from (HC2.out.1.alike hb.block).widen hb.size) (And.intro (show Blk w3 w.heap.size 29 (caseC v).toArray from HC2.out.2.1.below hb HC2.out.2.1.lt) (show Below w.heap.size w w3 from HC2.out.2.2.trans (Below.mono hb HC2.out.2.2.size))))
      have HV3 := hide (And.intro hc' hl')
      clear hb hc' hl'
      dsimp only
      go_wp2_with fail
      refine (lentInts_any ks hk9 A _ capk w.heap.size w3 HC3.out.2.2.size (intLay.alike HK.out fun b hb => HC3.out.2.2.block b hb)).mono ?_
      rintro e w4 ⟨g, rfl, _, hg4, hb⟩
      have HC4 := hide (And.intro (show CaseAt w4.heap.size w4 v c from (HC3.out.1.alike hb.block).widen hb.size) (And.intro (show Blk w4 w.heap.size 29 (caseC v).toArray from HC3.out.2.1.below hb HC3.out.2.1.lt) (show Below w.heap.size w w4 from HC3.out.2.2.trans (Below.mono hb HC3.out.2.2.size))))
      have HV4 := hide (And.intro (show CaseAt w4.heap.size w4 v' c from (HV3.out.1.alike hb.block).widen hb.size) (And.intro (HV3.out.2.below hb) hg4))
      clear hb hg4 HV3
      dsimp only
      have hov : okH v'.own := by rw [HV4.out.1.own]; exact HV4.out.1.okO
      have hszv := csz hov
      have hallv := case_all HV4.out.1
      go_wp2_with ((with_reducible refine wpList_box (o1 := ⟨some 5, _, _, _, _, _⟩) (o2 := ⟨none, _, _, _, _, _⟩) rfl rfl 29 (.tmp 5) (.tmp 16) ?_ zcL.toArray (caseC v').toArray ?_ hszv ?_ ?_ ?_ ?_ ?_); rfl; kernel_rfl; (simp only [List.size_toArray, caseC_len hov]; kernel_rfl); exact hallv; rfl; rfl; intro w5 hm5 hb5; have H5 := hide (And.intro hm5 hb5); clear hm5 hb5; simp only [Act.put, List.setIfInBounds_toArray, List.set_cons_zero, List.set_cons_succ])
      have HC5 := hide (And.intro (show CaseAt w5.heap.size w5 v c from (HC4.out.1.alike H5.out.2.block).widen H5.out.2.size) (And.intro (show Blk w5 w.heap.size 29 (caseC v).toArray from HC4.out.2.1.below H5.out.2 HC4.out.2.1.lt) (show Below w.heap.size w w5 from HC4.out.2.2.trans (Below.mono H5.out.2 HC4.out.2.2.size))))
      have HV5 := hide (And.intro (show CaseAt w5.heap.size w5 v' c from (HV4.out.1.alike H5.out.2.block).widen H5.out.2.size) (And.intro (HV4.out.2.1.below H5.out.2) (And.intro (show Blk w5 g 3 (ivz (ks ++ marksInt)).toArray from HV4.out.2.2.below H5.out.2 HV4.out.2.2.lt) H5.out.1)))
      have HK5 := hide (show intLay.At w5 w.heap.size [.slice A ks.length capk] ks from intLay.alike HK.out fun b hb => HC5.out.2.2.block b hb)
      clear H5 HV4 hallv
      have hL : ∀ p ∈ ([(23, fun u W => ∃ v2, u = .agg (caseC v2).toArray ∧ CaseAt W.heap.size W v2 c)] : Fre.MadeL), Fre.MadeOk Blw p.2 := by
        intro p hp
        simp only [List.mem_cons, List.not_mem_nil, or_false] at hp
        subst hp
        exact ⟨fun u W W' h hx => by obtain ⟨v2, e, h1⟩ := h; have hx : Below W.heap.size W W' := hx; exact ⟨v2, e, (h1.alike hx.block).widen hx.size⟩⟩
      refine Fre.wp_made (X := Blw) 20 [(23, fun u W => ∃ v2, u = .agg (caseC v2).toArray ∧ CaseAt W.heap.size W v2 c)] (by kernel_rfl) (by kernel_rfl) hL (by simp) (by simp only [List.map_cons, List.map_nil, List.forall_mem_cons]; exact ⟨Nat.le_of_ble_eq_true (by kernel_rfl), fun _ h => by cases h⟩) ?_
      simp only [List.take_succ_cons, List.take_zero, List.drop_succ_cons, List.drop_zero]
      refine Fre.made_val (.agg (caseC v').toArray) (by kernel_rfl) (by kernel_rfl) (by kernel_rfl) (fun W9 hW9 => exec_load_blk (o := ⟨some 19, _, _, _, _, _⟩) 29 (.tmp 5) rfl w4.heap.size rfl 29 _ _ W9 (by have h9 : Below _ w5 W9 := hW9; exact HV5.out.2.2.2.below h9 HV5.out.2.2.2.lt) Try.underlying29 rfl hszv) ?_
      simp only [Act.put, List.setIfInBounds_toArray, List.set_cons_zero, List.set_cons_succ]
      refine Fre.made_val (.slice (some ⟨g, 0, none⟩) ks.length (ks.length + 12)) (by kernel_rfl) (by kernel_rfl) (by kernel_rfl) (fun _ _ => by kernel_rfl) ?_
      simp only [Act.put, List.setIfInBounds_toArray, List.set_cons_zero, List.set_cons_succ]
      refine Fre.made_call (.bool (freeB c ks)) 20 #[.agg (caseC v').toArray, .slice (some ⟨g, 0, none⟩) ks.length (ks.length + 12)] (by kernel_rfl) (by kernel_rfl) (by kernel_rfl) (fun W9 => by kernel_rfl) (fun W9 hW9 => ?k21) ?_
      case k21 =>
        have h9 : Below _ w5 W9 := hW9
        exact (free_any W9 v' c hc ((HV5.out.1.alike h9.block).widen h9.size) ks hk9 _ (lent_ints (HV5.out.2.2.1.below h9 HV5.out.2.2.1.lt))).mono fun e w' ⟨h1, h2⟩ => ⟨h1, h2⟩
      simp only [Act.put, List.setIfInBounds_toArray, List.set_cons_zero, List.set_cons_succ]
      refine Fre.made_val (.agg (caseC v).toArray) (by kernel_rfl) (by kernel_rfl) (by kernel_rfl) (fun W9 hW9 => exec_load_blk (o := ⟨some 22, _, _, _, _, _⟩) 29 (.tmp 2) rfl w.heap.size rfl 29 _ _ W9 (by have h9 : Below _ w5 W9 := hW9; exact HC5.out.2.1.below h9 HC5.out.2.1.lt) Try.underlying29 rfl hsz0) ?_
      simp only [Act.put, List.setIfInBounds_toArray, List.set_cons_zero, List.set_cons_succ]
      refine Fre.made_newcall 23 _ 15 #[.agg (caseC v).toArray] (by kernel_rfl) (by kernel_rfl) rfl rfl (fun _ => by kernel_rfl) (fun W9 hW9 => ?k23) ?_
      case k23 =>
        have h9 : Below _ w5 W9 := hW9
        refine (rcase_any W9 v c hc ((HC5.out.1.alike h9.block).widen h9.size)).mono ?_
        rintro e w' ⟨v2, rfl, h1, h2⟩
        exact ⟨_, rfl, h2, v2, rfl, h1⟩
      simp only [Act.put, List.setIfInBounds_toArray, List.set_cons_zero, List.set_cons_succ]
      refine Fre.made_val (.slice A ks.length capk) (by kernel_rfl) (by kernel_rfl) (by kernel_rfl) (fun _ _ => by kernel_rfl) ?_
      simp only [Act.put, List.setIfInBounds_toArray, List.set_cons_zero, List.set_cons_succ]
      refine Fre.made_call1 23 _ (.bool (freeB c ks)) 21 (fun u => #[u, .slice A ks.length capk]) (by kernel_rfl) rfl (by kernel_rfl) (by kernel_rfl) (fun u W9 => by kernel_rfl) (fun u W9 hW9 hu => ?k25) ?_
      case k25 =>
        have h9 : Below _ w5 W9 := hW9
        obtain ⟨v2, rfl, h1⟩ := hu
        refine (rfree_any W9 v2 c hc h1 ks hk9 _ (intLay_ints (intLay.widen (intLay.alike HK5.out fun b hb => h9.block b (by have := HC5.out.2.2.size; omega)) (by have := HC5.out.2.2.size; have := h9.size; omega)))).mono ?_
        rintro e w' ⟨rfl, h2⟩
        exact ⟨rfl, h2⟩
      simp only [Act.put, List.setIfInBounds_toArray, List.set_cons_zero, List.set_cons_succ]
      refine Fre.made_val (.bool true) (by kernel_rfl) (by kernel_rfl) (by kernel_rfl) (fun W9 hW9 => ?c26) ?_
      case c26 =>
        go_simp
      simp only [Act.put, List.setIfInBounds_toArray, List.set_cons_zero, List.set_cons_succ]
      refine Fre.made_val (.bool true) (by kernel_rfl) (by kernel_rfl) (by kernel_rfl) (fun _ _ => by kernel_rfl) ?_
      simp only [Act.put, List.setIfInBounds_toArray, List.set_cons_zero, List.set_cons_succ]
      refine Fre.made_val (.agg (caseC v').toArray) (by kernel_rfl) (by kernel_rfl) (by kernel_rfl) (fun W9 hW9 => exec_load_blk (o := ⟨some 28, _, _, _, _, _⟩) 29 (.tmp 5) rfl w4.heap.size rfl 29 _ _ W9 (by have h9 : Below _ w5 W9 := hW9; exact HV5.out.2.2.2.below h9 HV5.out.2.2.2.lt) Try.underlying29 rfl hszv) ?_
      simp only [Act.put, List.setIfInBounds_toArray, List.set_cons_zero, List.set_cons_succ]
      refine Fre.made_val (.agg (caseC v).toArray) (by kernel_rfl) (by kernel_rfl) (by kernel_rfl) (fun W9 hW9 => exec_load_blk (o := ⟨some 29, _, _, _, _, _⟩) 29 (.tmp 2) rfl w.heap.size rfl 29 _ _ W9 (by have h9 : Below _ w5 W9 := hW9; exact HC5.out.2.1.below h9 HC5.out.2.1.lt) Try.underlying29 rfl hsz0) ?_
      simp only [Act.put, List.setIfInBounds_toArray, List.set_cons_zero, List.set_cons_succ]
      refine Fre.made_call (.bool true) 18 #[.agg (caseC v').toArray, .agg (caseC v).toArray] (by kernel_rfl) (by kernel_rfl) (by kernel_rfl) (fun W9 => by kernel_rfl) (fun W9 hW9 => ?k30) ?_
      case k30 =>
        have h9 : Below _ w5 W9 := hW9
        exact (kept_any W9 v' v c hc ((HV5.out.1.alike h9.block).widen h9.size) (HV5.out.2.1.below h9) ((HC5.out.1.alike h9.block).widen h9.size)).mono fun e w' ⟨h1, h2⟩ => ⟨h1, h2⟩
      simp only [Act.put, List.setIfInBounds_toArray, List.set_cons_zero, List.set_cons_succ]
      refine Fre.made_val (.bool true) (by kernel_rfl) (by kernel_rfl) (by kernel_rfl) (fun _ _ => by kernel_rfl) ?_
      simp only [Act.put, List.setIfInBounds_toArray, List.set_cons_zero, List.set_cons_succ]
      refine Fre.made_val (.bool true) (by kernel_rfl) (by kernel_rfl) (by kernel_rfl) (fun _ _ => by kernel_rfl) ?_
      simp only [Act.put, List.setIfInBounds_toArray, List.set_cons_zero, List.set_cons_succ]
      refine Fre.made_val (.slice (some ⟨g, 0, none⟩) ks.length (ks.length + 12)) (by kernel_rfl) (by kernel_rfl) (by kernel_rfl) (fun _ _ => by kernel_rfl) ?_
      simp only [Act.put, List.setIfInBounds_toArray, List.set_cons_zero, List.set_cons_succ]
      refine Fre.made_val (.slice A ks.length capk) (by kernel_rfl) (by kernel_rfl) (by kernel_rfl) (fun _ _ => by kernel_rfl) ?_
      simp only [Act.put, List.setIfInBounds_toArray, List.set_cons_zero, List.set_cons_succ]
      refine Fre.made_call (.bool true) 22 #[.slice (some ⟨g, 0, none⟩) ks.length (ks.length + 12), .slice A ks.length capk] (by kernel_rfl) (by kernel_rfl) (by kernel_rfl) (fun W9 => by kernel_rfl) (fun W9 hW9 => ?k35) ?_
      case k35 =>
        have h9 : Below _ w5 W9 := hW9
        refine (keptInts_any ks hk9 _ g W9.heap.size W9 (intLay_ints (intLay.widen (intLay.alike HK5.out fun b hb => h9.block b (by have := HC5.out.2.2.size; omega)) (by have := HC5.out.2.2.size; have := h9.size; omega))) (HV5.out.2.2.1.below h9 HV5.out.2.2.1.lt)).mono ?_
        rintro e w' ⟨rfl, k, rfl⟩
        exact ⟨rfl, below_drewN (Below.refl _ W9) k⟩
      simp only [Act.put, List.setIfInBounds_toArray, List.set_cons_zero, List.set_cons_succ]
      refine Fre.made_val (.bool true) (by kernel_rfl) (by kernel_rfl) (by kernel_rfl) (fun _ _ => by kernel_rfl) ?_
      simp only [Act.put, List.setIfInBounds_toArray, List.set_cons_zero, List.set_cons_succ]
      refine Fre.made_val (.bool true) (by kernel_rfl) (by kernel_rfl) (by kernel_rfl) (fun _ _ => by kernel_rfl) ?_
      simp only [Act.put, List.setIfInBounds_toArray, List.set_cons_zero, List.set_cons_succ]
      refine Fre.made_call (.bool true) 11 #[] (by kernel_rfl) (by kernel_rfl) (by kernel_rfl) (fun W9 => by kernel_rfl) (fun W9 hW9 => ?k38) ?_
      case k38 =>
        have h9 : Below _ w5 W9 := hW9
        exact (awake24_any W9).mono fun e w' ⟨h1, h2⟩ => ⟨h1, h2⟩
      simp only [Act.put, List.setIfInBounds_toArray, List.set_cons_zero, List.set_cons_succ]
      show ∀ w', _ → _
      intro w6 hx6
      simp only [Fre.ended]
      intro u23 _
      simp only [Act.put, List.setIfInBounds_toArray, List.set_cons_zero, List.set_cons_succ]
      have HE := hide (show Below w.heap.size w w6 from HC5.out.2.2.trans (Below.mono (show Below w5.heap.size w5 w6 from hx6) HC5.out.2.2.size))
      clear hx6 hL
      go_wp2_with fail
      go_ret
      exact ⟨rfl, HE.out⟩
end Go.Proofs.Ytfppddnfdinipaa
end
section
namespace Go.Proofs.Ytfppddnfdinipaa
open Go Go.ChangeShapes Go.WideShapes Go.ChangeAt Go.RowKit
set_option maxRecDepth 100000
theorem pickFree_lifted (os : Os) (started : os.Started) (H : Type) (enc : TypeId × Value → H) :
    ReturnsInHanded {} Try.checked os 4 .any (Rows.pickFreeSpec.pre6 enc Try.prog Try.f4 Rows.pickFreeRow.domain false) (Rows.pickFreeSpec.post enc Try.prog Try.f4 false true false false) := by
  refine returnsInHanded_of_change_sized (C := Try.checked) Try.ownPF started (by kernel_rfl) Try.func4
    (ChangeSpec.witness6 (enc := enc) (C := Try.checked) false ⟨#[], #[.agg zcC, .slice none 0 0], []⟩ 8 (by kernel_rfl) (by kernel_rfl) (by kernel_rfl) (by kernel_rfl)) ?_
  intro W base args ds gs before hval0 hW _ hsz0 _
  have hval : ∀ (j : Nat) t v, Try.f4.params[j]? = some t → args[j]? = some v → Value.okWide Try.prog W .any base t v := hval0
  have hsz : (DataW.weightsEach Try.prog (Try.f4.params.toList ++ []) (ds ++ gs)).all (· ≤ reachBytes) = true := hsz0
  have hW' := hW
  obtain ⟨p, q, hA0, hV, rfl, hfz, hnd⟩ := hW
  have hA : DataW.TrodAll enc Try.prog W 0 (fun _ => true) true Try.f4.params.toList args.toList ds p := hA0
  rw [Try.params4] at hA hval hsz
  obtain ⟨v0, v1, d0, d1, p0, p1, rfl, rfl, rfl, h0, h1⟩ := trodAll_two hA
  obtain ⟨rfl, rfl⟩ := trodVars_none hV
  have hs0 : ∀ n ∈ d0.weights Try.prog 29, n ≤ reachBytes := fun n hn => by
    have h := List.all_eq_true.1 hsz n (DataW.weights_mem_each (j := 0) (t := 29) (d := d0) rfl rfl n hn)
    simpa using h
  obtain ⟨v, c, rfl, hat, hl⟩ := open_case (hval 0 29 v0 rfl rfl) h0 hs0
  obtain ⟨ks, hks⟩ := open_ints (hval 1 33 v1 rfl rfl) h1
  have fin : ∀ e W', e = Ending.returned (.bool true) ∧ Below W.heap.size W W' → ∃ x, e = .returned x ∧ Rows.pickFreeSpec.post enc Try.prog Try.f4 false true false false W #[.agg (caseC v).toArray, v1] x W' := by
    rintro e W' ⟨rfl, hb⟩
    exact ⟨_, rfl, law_end laidOut hW' rfl rfl (by kernel_rfl) Try.underlying4 (by kernel_rfl) hb⟩
  exact (pickFree_any W v c hl hat ks v1 hks).mono fin
theorem pickFree_holds : Rows.PickFreeSaid :=
  OpenClaim.holds_of_wide 4 Try.f4 rfl rfl rfl rfl rfl rfl rfl ⟨rfl, rfl, rfl, rfl, rfl⟩ rfl rfl rfl rfl rfl (by kernel_rfl) Try.func4 (by kernel_rfl)
    (of_decide_eq_true (by kernel_rfl)) (by unfold Func.isWrapper; first | (rw [if_pos (by decide +kernel)]; kernel_rfl) | (rw [if_neg (by decide +kernel)]; exact ⟨rfl, rfl⟩))
    (fun os started H enc _ => pickFree_lifted os started H enc)
#print axioms pickFree_holds
end Go.Proofs.Ytfppddnfdinipaa
end
