/- The walk of spencelaw02.HashFold. -/
import Derived.Test.YtcckmnabjjamfaaFoldLaw
import Derived.Test.YtcckmnabjjamfaaFreshBlk
import Derived.Test.YtcckmnabjjamfaaPick
import Derived.Test.YtcckmnabjjamfaaAwakeHash
namespace Go.Proofs.Ytcckmnabjjamfaa
open Go.RowKit

set_option maxRecDepth 100000 in
set_option maxHeartbeats 1000000 in
theorem hashFold_any (la lb : List UInt8) (hla : la.length = 32) (hlb : lb.length = 32) (at_ : Int) (hat : -9223372036854775808 ≤ at_ ∧ at_ ≤ 9223372036854775807) (x : UInt8) (w : World) :
    Calls Try.prog 4 #[.agg (bv la).toArray, .agg (bv lb).toArray, .int .i64 at_, .int .u8 (x.toNat : Int)] w fun e w' => e = .returned (.bool true) ∧ Below w.heap.size w w' := by
  obtain ⟨LA, hLA⟩ : ∃ L, L = (bv la).toArray := ⟨_, rfl⟩
  obtain ⟨LB, hLB⟩ : ∃ L, L = (bv lb).toArray := ⟨_, rfl⟩
  have hsa : (Try.prog.info? 26).map (·.size) = some LA.size := by rw [hLA, List.size_toArray, bv, List.length_map, hla]; kernel_rfl
  have hsb : (Try.prog.info? 26).map (·.size) = some LB.size := by rw [hLB, List.size_toArray, bv, List.length_map, hlb]; kernel_rfl
  rw [← hLA, ← hLB]
  have HLA := hide hLA
  have HLB := hide hLB
  clear hLA hLB
  go_enter Try.func4, Try.ntmps4
  go_wp2_with fail
  refine (awake_any _).mono ?_
  rintro e w1 ⟨rfl, hb1⟩
  have hb1' : Below w.heap.size _ w1 := hb1.mono (by simp only [size_alloc]; omega)
  have BA : Blk w1 w.heap.size 26 LA := ((Blk.new _ _ _).alloc _).below hb1 (by simp only [size_alloc]; omega)
  have BB : Blk w1 (w.heap.size + 1) 26 LB := (Blk.new1 _ _ _ _).below hb1 (by simp only [size_alloc]; omega)
  have HW1 : Below w.heap.size w w1 := (((Below.refl _ _).alloc (Nat.le_refl _) _).alloc (by simp only [size_alloc]; omega) _).trans hb1'
  obtain ⟨A, hA⟩ : ∃ A, A = w.heap.size := ⟨_, rfl⟩
  rw [← hA] at BA BB HW1
  obtain ⟨B, hB⟩ : ∃ B, B = A + 1 := ⟨_, rfl⟩
  rw [← hB] at BB
  simp only [← hA, ← hB]
  have HA := hide hA
  have HB := hide hB
  have HBA := hide BA
  have HBB := hide BB
  have HW1' := hide HW1
  clear hA hB BA BB HW1 hb1 hb1'
  iterate 12 go_step
  apply wp_region_lit
  have hz : ∀ W : World, W.alloc (.cells z32 26) = W.alloc (.cells z32 26) := fun _ => rfl
  obtain ⟨C, hC⟩ : ∃ C, C = w1.heap.size := ⟨_, rfl⟩
  refine wpList_value (o := ⟨some 9, _, _, _, _, _⟩) rfl (.pointer (some ⟨C, 0, none⟩)) (w1.alloc (.cells z32 26)) (by rw [hC]; kernel_rfl) ?_
  simp only [Act.put, List.setIfInBounds_toArray, List.set_cons_zero, List.set_cons_succ]
  obtain ⟨D, hD⟩ : ∃ D, D = (w1.alloc (.cells z32 26)).heap.size := ⟨_, rfl⟩
  obtain ⟨w2, hw2⟩ : ∃ w2, w2 = w1.alloc (.cells z32 26) := ⟨_, rfl⟩
  rw [← hw2] at hD ⊢
  refine wpList_value (o := ⟨some 10, _, _, _, _, _⟩) rfl (.pointer (some ⟨D, 0, none⟩)) (w2.alloc (.cells z32 26)) (by rw [hD]; kernel_rfl) ?_
  simp only [Act.put, List.setIfInBounds_toArray, List.set_cons_zero, List.set_cons_succ]
  obtain ⟨w3, hw3⟩ : ∃ w3, w3 = w2.alloc (.cells z32 26) := ⟨_, rfl⟩
  rw [← hw3]
  have hBl := HBB.out.lt
  have hAl := HBA.out.lt
  have hAw : w.heap.size = A := HA.out.symm
  have hBA := HB.out
  have hDC : D = C + 1 := by rw [hD, hw2, size_alloc, hC]
  have hE : Blk w3 A 26 LA ∧ Blk w3 B 26 LB ∧ Blk w3 C 26 z32 ∧ Blk w3 D 26 z32 ∧ Below w.heap.size w w3 ∧ w.heap.size = A ∧ B = A + 1 ∧ B < C ∧ D = C + 1 := by
    refine ⟨?_, ?_, ?_, ?_, ?_, hAw, hBA, by omega, hDC⟩
    · rw [hw3, hw2]; exact (HBA.out.alloc _).alloc _
    · rw [hw3, hw2]; exact (HBB.out.alloc _).alloc _
    · rw [hw3, hw2, hC]; exact (Blk.new _ _ _).alloc _
    · rw [hw3, hD]; exact Blk.new _ _ _
    · rw [hw3, hw2, hAw]
      exact (HW1'.out.alloc (by omega) _).alloc (by rw [size_alloc]; omega) _
  have HE := hide hE
  clear hE hz hBl hAl hAw hBA hDC hw3 hw2 hD hC HA HB HBA HBB HW1'
  go_step
  go_step
  go_step
  go_step
  have hsz : (Try.prog.info? 26).map (·.size) = some 32 := by kernel_rfl
  go_wp2_with fail
  go_loopw [11] (fun v wr => ∃ i : Nat, i ≤ 32 ∧ v = .int .i64 (i : Int) ∧ Blk wr C 26 (bv (xorTo la lb i)).toArray ∧ Blk wr A 26 LA ∧ Blk wr B 26 LB ∧ Blk wr D 26 z32 ∧ Below w.heap.size w wr) (fun v _ => (32 - intOf v).toNat)
  case atStart =>
    obtain ⟨e1, e2, e3, e4, e5, _⟩ := HE.out
    exact ⟨0, by omega, rfl, e3, e1, e2, e4, e5⟩
  case round =>
    obtain ⟨i, hi, rfl, hC, hA, hB, hD, hbl⟩ := hrel
    by_cases h32 : i < 32
    · obtain ⟨y, hy⟩ : ∃ y, y = la.getD i 0 := ⟨_, rfl⟩
      obtain ⟨z, hz⟩ : ∃ z, z = lb.getD i 0 := ⟨_, rfl⟩
      obtain ⟨q, hq⟩ : ∃ q, q = (xorTo la lb i).getD i 0 := ⟨_, rfl⟩
      have cA : wr.cell? ⟨A, i, none⟩ = some (.int .u8 (y.toNat : Int)) := by rw [hA.cell, HLA.out, bv_get _ _ (by omega), hy]
      have cB : wr.cell? ⟨B, i, none⟩ = some (.int .u8 (z.toNat : Int)) := by rw [hB.cell, HLB.out, bv_get _ _ (by omega), hz]
      have cC : wr.cell? ⟨C, i, none⟩ = some (.int .u8 (q.toNat : Int)) := by rw [hC.cell, bv_get _ _ (by rw [length_xorTo]; omega), hq]
      have fC := hC.frozen i
      have hxy : bits .xor .u8 (y.toNat : Int) (z.toNat : Int) = ((y ^^^ z).toNat : Int) := by
        rw [u8_xor_nat _ _ y.toNat_lt z.toNat_lt, UInt8.toNat_xor]
      obtain ⟨p, hp⟩ : ∃ p, p = y ^^^ z := ⟨_, rfl⟩
      rw [← hp] at hxy
      have HP := hide hp
      have HYZ := hide (And.intro hy hz)
      have HK := hide (And.intro hC (And.intro hA (And.intro hB (And.intro hD hbl))))
      clear hy hz hq hp hC hA hB hD hbl
      go_wp2_with fail
      refine wp_quiet_tail_drewN 9 (by kernel_rfl) (by kernel_rfl) ?_
      simp only [List.take_succ_cons, List.take_zero, List.drop_succ_cons, List.drop_zero]
      repeat (go_big_quiet_step (fail))
      refine wpQuiet_nil ?_
      intro nq
      go_wp2
      go_roundw
      case rel =>
        obtain ⟨hC, hA, hB, hD, hbl⟩ := HK.out
        obtain ⟨_, _, _, _, _, e1, e2, e3, e4⟩ := HE.out
        refine ⟨i + 1, by omega, by go_num, ?_, (hA.drewN nq).far (by show A ≠ C; omega) _, (hB.drewN nq).far (by show B ≠ C; omega) _, (hD.drewN nq).far (by show D ≠ C; omega) _, (below_drewN hbl nq).setCell (by show w.heap.size ≤ C; omega) _⟩
        have h3 := (hC.drewN nq).set_ i (.int .u8 (p.toNat : Int))
        rw [bv_set] at h3
        have e : xorTo la lb (i + 1) = (xorTo la lb i).set i p := by rw [xorTo, HP.out, HYZ.out.1, HYZ.out.2]
        rw [e]
        exact h3
      case measure => simp [intOf]; omega
    · obtain rfl : i = 32 := by omega
      go_wp2_with fail
      obtain ⟨k, hk, hk32⟩ : ∃ k : Nat, at_ % 32 = (k : Int) ∧ k < 32 := ⟨(at_ % 32).toNat, by omega, by omega⟩
      refine (pick_any at_ 32 _ (by omega) (by omega) hat).mono ?_
      rw [hk]
      rintro e w4 ⟨rfl, rfl⟩
      dsimp only
      have cD : wr.cell? ⟨D, k, none⟩ = some (.int .u8 0) := by rw [hD.cell, z32, bv_get _ _ (by simpa using hk32), getD_noughts]; rfl
      have fD := hD.frozen k
      have HK := hide (And.intro hC (And.intro hA (And.intro hB (And.intro hD hbl))))
      clear hC hA hB hD hbl hk
      go_wp2_with fail
      obtain ⟨lo, hlo⟩ : ∃ lo, lo = (List.replicate 32 (0 : UInt8)).set k x := ⟨_, rfl⟩
      obtain ⟨lc, hlc⟩ : ∃ lc, lc = xorTo la lb 32 := ⟨_, rfl⟩
      obtain ⟨LO, hLO⟩ : ∃ LO, LO = (bv lo).toArray := ⟨_, rfl⟩
      obtain ⟨LC, hLC⟩ : ∃ LC, LC = (bv lc).toArray := ⟨_, rfl⟩
      have hlo32 : lo.length = 32 := by rw [hlo]; simp
      have hlc32 : lc.length = 32 := by rw [hlc, length_xorTo]
      obtain ⟨w5, hw5⟩ : ∃ W, W = wr.setCell ⟨D, k, none⟩ (.int .u8 (x.toNat : Int)) := ⟨_, rfl⟩
      rw [← hw5]
      have h5 : Blk w5 A 26 LA ∧ Blk w5 B 26 LB ∧ Blk w5 C 26 LC ∧ Blk w5 D 26 LO ∧ Below w.heap.size w w5 := by
        obtain ⟨hC, hA, hB, hD, hbl⟩ := HK.out
        obtain ⟨_, _, _, _, _, e1, e2, e3, e4⟩ := HE.out
        rw [hw5]
        refine ⟨hA.far (by show A ≠ D; omega) _, hB.far (by show B ≠ D; omega) _, ?_, ?_, hbl.setCell (by show w.heap.size ≤ D; omega) _⟩
        · rw [hLC, hlc]; exact hC.far (by show C ≠ D; omega) _
        · have h3 := hD.set_ k (.int .u8 (x.toNat : Int))
          rw [z32, bv_set, ← hlo, ← hLO] at h3
          exact h3
      have hsc : (Try.prog.info? 26).map (·.size) = some LC.size := by rw [hLC, List.size_toArray, bv, List.length_map, hlc32]; kernel_rfl
      have hso : (Try.prog.info? 26).map (·.size) = some LO.size := by rw [hLO, List.size_toArray, bv, List.length_map, hlo32]; kernel_rfl
      refine wp_blks_tail 12 [13, 14, 15, 16] w.heap.size 34 (bv (fold la 0)).toArray (by kernel_rfl) (by kernel_rfl) (by simp) ?_
      simp only [List.take_succ_cons, List.take_zero, List.drop_succ_cons, List.drop_zero]
      refine ⟨_, does_load 26 (.tmp 4) rfl rfl rfl (by intro t h; cases h; rfl) A 26 LA 32 5 h5.1 Try.underlying26 hsa rfl, ?_⟩
      simp only [Act.put, List.setIfInBounds_toArray, List.set_cons_zero, List.set_cons_succ]
      refine ⟨_, does_call (.agg (bv (fold la 32)).toArray) 19 #[.agg LA] _ rfl rfl rfl (by intro y hy t e; simp [Op.operands, Call.operands] at hy; rcases hy with rfl | rfl <;> cases e; rfl) (fun W => by kernel_rfl) (fun W _ => by rw [HLA.out]; exact fold_any la hla W), ?_⟩
      simp only [Act.put, List.setIfInBounds_toArray, List.set_cons_zero, List.set_cons_succ]
      refine ⟨_, does_load 26 (.tmp 5) rfl rfl rfl (by intro t h; cases h; rfl) B 26 LB 32 5 h5.2.1 Try.underlying26 hsb rfl, ?_⟩
      simp only [Act.put, List.setIfInBounds_toArray, List.set_cons_zero, List.set_cons_succ]
      refine ⟨_, does_call (.agg (bv (fold lb 32)).toArray) 19 #[.agg LB] _ rfl rfl rfl (by intro y hy t e; simp [Op.operands, Call.operands] at hy; rcases hy with rfl | rfl <;> cases e; rfl) (fun W => by kernel_rfl) (fun W _ => by rw [HLB.out]; exact fold_any lb hlb W), ?_⟩
      simp only [Act.put, List.setIfInBounds_toArray, List.set_cons_zero, List.set_cons_succ]
      refine ⟨_, does_load 26 (.tmp 9) rfl rfl rfl (by intro t h; cases h; rfl) C 26 LC 32 5 h5.2.2.1 Try.underlying26 hsc rfl, ?_⟩
      simp only [Act.put, List.setIfInBounds_toArray, List.set_cons_zero, List.set_cons_succ]
      refine ⟨_, does_call (.agg (bv (fold lc 32)).toArray) 19 #[.agg LC] _ rfl rfl rfl (by intro y hy t e; simp [Op.operands, Call.operands] at hy; rcases hy with rfl | rfl <;> cases e; rfl) (fun W => by kernel_rfl) (fun W _ => by rw [hLC]; exact fold_any lc hlc32 W), ?_⟩
      simp only [Act.put, List.setIfInBounds_toArray, List.set_cons_zero, List.set_cons_succ]
      refine ⟨_, does_load 26 (.tmp 10) rfl rfl rfl (by intro t h; cases h; rfl) D 26 LO 32 5 h5.2.2.2.1 Try.underlying26 hso rfl, ?_⟩
      simp only [Act.put, List.setIfInBounds_toArray, List.set_cons_zero, List.set_cons_succ]
      refine ⟨_, does_call (.agg (bv (fold lo 32)).toArray) 19 #[.agg LO] _ rfl rfl rfl (by intro y hy t e; simp [Op.operands, Call.operands] at hy; rcases hy with rfl | rfl <;> cases e; rfl) (fun W => by kernel_rfl) (fun W _ => by rw [hLO]; exact fold_any lo hlo32 W), ?_⟩
      simp only [Act.put, List.setIfInBounds_toArray, List.set_cons_zero, List.set_cons_succ]
      refine ⟨_, does_alloc 13 34 rfl rfl rfl (by simp) h5.2.2.2.2.size (fun W => by kernel_rfl), ?_⟩
      simp only [Act.put, List.setIfInBounds_toArray, List.set_cons_zero, List.set_cons_succ]
      refine ⟨_, does_alloc 14 34 rfl rfl rfl (by simp) h5.2.2.2.2.size (fun W => by kernel_rfl), ?_⟩
      simp only [Act.put, List.setIfInBounds_toArray, List.set_cons_zero, List.set_cons_succ]
      refine ⟨_, does_alloc 15 34 rfl rfl rfl (by simp) h5.2.2.2.2.size (fun W => by kernel_rfl), ?_⟩
      simp only [Act.put, List.setIfInBounds_toArray, List.set_cons_zero, List.set_cons_succ]
      refine ⟨_, does_alloc 16 34 rfl rfl rfl (by simp) h5.2.2.2.2.size (fun W => by kernel_rfl), ?_⟩
      simp only [Act.put, List.setIfInBounds_toArray, List.set_cons_zero, List.set_cons_succ]
      show ∀ b w', _ → _ → _ → _ → _
      intro b w6 hx6 hsame hmade hdist
      obtain ⟨r1, g1, n1, b1⟩ := hmade 13 (by simp)
      obtain ⟨r2, g2, n2, b2⟩ := hmade 14 (by simp)
      obtain ⟨r3, g3, n3, b3⟩ := hmade 15 (by simp)
      obtain ⟨r4, g4, n4, b4⟩ := hmade 16 (by simp)
      have d12 : r1 ≠ r2 := fun e => hdist 13 (by simp) 14 (by simp) (by decide) (by rw [g1, g2, e])
      have d13 : r1 ≠ r3 := fun e => hdist 13 (by simp) 15 (by simp) (by decide) (by rw [g1, g3, e])
      have d14 : r1 ≠ r4 := fun e => hdist 13 (by simp) 16 (by simp) (by decide) (by rw [g1, g4, e])
      have d23 : r2 ≠ r3 := fun e => hdist 14 (by simp) 15 (by simp) (by decide) (by rw [g2, g3, e])
      have d24 : r2 ≠ r4 := fun e => hdist 14 (by simp) 16 (by simp) (by decide) (by rw [g2, g4, e])
      have d34 : r3 ≠ r4 := fun e => hdist 15 (by simp) 16 (by simp) (by decide) (by rw [g3, g4, e])
      have hbe := ((((hsame.fix g1).fix g2).fix g3).fix g4).eq (fun s => by
        by_cases e16 : s = 16
        · simp [e16]
        · by_cases e15 : s = 15
          · simp [e15]
          · by_cases e14 : s = 14
            · simp [e14]
            · by_cases e13 : s = 13
              · simp [e13]
              · simp only [e16, e15, e14, e13, if_false]
                unfold madeAs
                rw [show List.contains [13, 14, 15, 16] s = false by simp [e16, e15, e14, e13]]
                rfl)
      simp only [Act.put, List.setIfInBounds_toArray, List.set_cons_zero, List.set_cons_succ] at hbe
      subst hbe
      have hs34 : ∀ l, (Try.prog.info? 34).map (·.size) = some (bv (fold l 32)).toArray.size := by
        intro l
        rw [List.size_toArray, bv, List.length_map, length_fold]; exact size34
      have hsz34 : ∀ l, (bv (fold la 0)).toArray.size = (bv (fold l 32)).toArray.size := by
        intro l
        rw [List.size_toArray, List.size_toArray, bv, bv, List.length_map, List.length_map, length_fold, length_fold]
      refine wpList_store_blkA (o := ⟨none, _, _, _, _, _⟩) rfl 34 (.tmp 13) (.tmp 40) rfl r1 (bv (fold la 0)).toArray (bv (fold la 32)).toArray 34 b1 (hs34 la) (hsz34 la) (bv_one _) rfl rfl ?_
      intro x7 c7 g7
      simp only [Act.put]
      have b2' := b2.grown g7 (fun e => d12 (Option.some.inj e).symm)
      have b3' := b3.grown g7 (fun e => d13 (Option.some.inj e).symm)
      have b4' := b4.grown g7 (fun e => d14 (Option.some.inj e).symm)
      refine wpList_store_blkA (o := ⟨none, _, _, _, _, _⟩) rfl 34 (.tmp 14) (.tmp 42) rfl r2 (bv (fold la 0)).toArray (bv (fold lb 32)).toArray 34 b2' (hs34 lb) (hsz34 lb) (bv_one _) rfl rfl ?_
      intro x8 c8 g8
      simp only [Act.put]
      have c7' := c7.grown g8 (fun e => d12 (Option.some.inj e))
      have b3'' := b3'.grown g8 (fun e => d23 (Option.some.inj e).symm)
      have b4'' := b4'.grown g8 (fun e => d24 (Option.some.inj e).symm)
      refine wpList_store_blkA (o := ⟨none, _, _, _, _, _⟩) rfl 34 (.tmp 15) (.tmp 44) rfl r3 (bv (fold la 0)).toArray (bv (fold lc 32)).toArray 34 b3'' (hs34 lc) (hsz34 lc) (bv_one _) rfl rfl ?_
      intro x9 c9 g9
      simp only [Act.put]
      have c7'' := c7'.grown g9 (fun e => d13 (Option.some.inj e))
      have c8' := c8.grown g9 (fun e => d23 (Option.some.inj e))
      have b4''' := b4''.grown g9 (fun e => d34 (Option.some.inj e).symm)
      refine wpList_store_blkA (o := ⟨none, _, _, _, _, _⟩) rfl 34 (.tmp 16) (.tmp 46) rfl r4 (bv (fold la 0)).toArray (bv (fold lo 32)).toArray 34 b4''' (hs34 lo) (hsz34 lo) (bv_one _) rfl rfl ?_
      intro x10 c10 g10
      simp only [Act.put]
      have c7''' := c7''.grown g10 (fun e => d14 (Option.some.inj e))
      have c8'' := c8'.grown g10 (fun e => d24 (Option.some.inj e))
      have c9' := c9.grown g10 (fun e => d34 (Option.some.inj e))
      have hbw : Below w.heap.size w x10 := by
        have h6 := h5.2.2.2.2.trans (hx6.mono h5.2.2.2.2.size)
        have h7 := h6.grown g7 h6.size (by intro k hk; injection hk with hk; omega)
        have h8 := h7.grown g8 h7.size (by intro k hk; injection hk with hk; omega)
        have h9 := h8.grown g9 h8.size (by intro k hk; injection hk with hk; omega)
        exact h9.grown g10 h9.size (by intro k hk; injection hk with hk; omega)
      have HF := hide (And.intro c7''' (And.intro c8'' (And.intro c9' (And.intro c10 hbw))))
      have HL := hide (And.intro hlo hlc)
      clear c7''' c8'' c9' c10 hbw c7'' c8' c9 c7' c8 c7 b4''' b4'' b3'' b4' b3' b2' g7 g8 g9 g10 hs34 hsz34 hsame hmade hdist hx6 h5 hw5 hlo hlc
      go_wp2_with fail
      go_loopw [17] (fun v wq => ∃ i : Nat, i ≤ 20 ∧ v = .int .i64 (i : Int) ∧ Blk wq r1 34 (bv (fold la 32)).toArray ∧ Blk wq r2 34 (bv (fold lb 32)).toArray ∧ Blk wq r3 34 (bv (fold lc 32)).toArray ∧ Blk wq r4 34 (bv (fold lo 32)).toArray ∧ Below w.heap.size w wq) (fun v _ => (20 - intOf v).toNat)
      case atStart =>
        obtain ⟨f1, f2, f3, f4, f5⟩ := HF.out
        exact ⟨0, by omega, rfl, f1, f2, f3, f4, f5⟩
      case round =>
        obtain ⟨i, hi, rfl, f1, f2, f3, f4, f5⟩ := hrel
        by_cases h20 : i < 20
        · obtain ⟨p, hp⟩ : ∃ p, p = (fold la 32).getD i 0 := ⟨_, rfl⟩
          obtain ⟨q, hq⟩ : ∃ q, q = (fold lb 32).getD i 0 := ⟨_, rfl⟩
          obtain ⟨z, hz⟩ : ∃ z, z = p ^^^ q := ⟨_, rfl⟩
          have k1 : wr.cell? ⟨r1, i, none⟩ = some (.int .u8 (p.toNat : Int)) := by rw [f1.cell, bv_get _ _ (by rw [length_fold]; omega), hp]
          have k2 : wr.cell? ⟨r2, i, none⟩ = some (.int .u8 (q.toNat : Int)) := by rw [f2.cell, bv_get _ _ (by rw [length_fold]; omega), hq]
          have k3 : wr.cell? ⟨r3, i, none⟩ = some (.int .u8 (z.toNat : Int)) := by
            rw [f3.cell, bv_get _ _ (by rw [length_fold]; omega), fold_xor la lb lc 32 (fun j hj => by rw [HL.out.2]; exact xorTo_get la lb 32 (by omega) j hj) i h20, ← hp, ← hq, hz]
          have k4 : wr.cell? ⟨r4, i, none⟩ = some (.int .u8 ((if k % 20 = i then x else 0).toNat : Int)) := by
            rw [f4.cell, bv_get _ _ (by rw [length_fold]; omega), HL.out.1, fold_one k x hk32 32 (by omega) i h20]
            by_cases e : k % 20 = i
            · rw [if_pos e, if_pos ⟨hk32, e⟩]
            · rw [if_neg e, if_neg (fun h => e h.2)]
          have hxy : bits .xor .u8 (p.toNat : Int) (q.toNat : Int) = (z.toNat : Int) := by
            rw [u8_xor_nat _ _ p.toNat_lt q.toNat_lt, hz, UInt8.toNat_xor]
          have HW := hide (And.intro f1 (And.intro f2 (And.intro f3 (And.intro f4 f5))))
          clear f1 f2 f3 f4 f5 hp hq hz
          by_cases e : k % 20 = i
          · have e' : (i : Int) = (k : Int) % 20 := by omega
            rw [if_pos e] at k4
            go_wp2_with fail
            go_quiet (fail)
            go_wp2_with fail
            go_roundw
            case rel =>
              obtain ⟨f1, f2, f3, f4, f5⟩ := HW.out
              exact ⟨i + 1, by omega, by go_num, f1.drewN _, f2.drewN _, f3.drewN _, f4.drewN _, below_drewN f5 _⟩
            case measure => simp [intOf]; omega
          · have e' : ¬ (i : Int) = (k : Int) % 20 := by omega
            rw [if_neg e] at k4
            have k4 : wr.cell? ⟨r4, i, none⟩ = some (.int .u8 0) := k4
            go_wp2_with fail
            go_quiet (fail)
            go_wp2_with fail
            go_roundw
            case rel =>
              obtain ⟨f1, f2, f3, f4, f5⟩ := HW.out
              exact ⟨i + 1, by omega, by go_num, f1.drewN _, f2.drewN _, f3.drewN _, f4.drewN _, below_drewN f5 _⟩
            case measure => simp [intOf]; omega
        · obtain rfl : i = 20 := by omega
          go_wp2_with fail
          go_ret
          exact ⟨rfl, f5⟩
end Go.Proofs.Ytcckmnabjjamfaa
