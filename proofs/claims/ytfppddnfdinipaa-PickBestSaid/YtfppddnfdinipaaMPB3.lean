/- spencelaw24: awake. spencelaw24: PickBest's and PickFuel's plain laws. spencelaw24: PickFuel: the walk. spencelaw24.PickFuel is true of every input, and leaves all as it was. No condition. spencelaw24: PickBest: the walk. spencelaw24.PickBest and spencelaw24.PickFuel are true of every input, and leave all as it was. No condition. -/
import Derived.Test.YtfppddnfdinipaaMPB2
import Derived.Test.YtfppddnfdinipaaRows
section
namespace Go.Proofs.Ytfppddnfdinipaa
open Go Go.RowKit Go.Maps
set_option maxRecDepth 100000
theorem ints_one {w : World} {g : Nat} {k : Nat} (h : Blk w g 3 #[.int .i64 (k : Int)]) : IntsAt w w.heap.size (.slice (some ⟨g, 0, none⟩) 1 1) ([k].map fun k => ((k : Nat) : Int)) :=
  ⟨_, 1, rfl, fun i z hz => ⟨g, 0, rfl, h.lt, by
    match i, hz with
    | 0, hz =>
      injection hz with hz
      subst hz
      exact h.cell 0⟩⟩
theorem ints_two {w : World} {g : Nat} (a b : Int) (h : Blk w g 3 #[.int .i64 a, .int .i64 b]) : IntsAt w w.heap.size (.slice (some ⟨g, 0, none⟩) 2 2) [a, b] :=
  ⟨_, 2, rfl, fun i z hz => ⟨g, 0, rfl, h.lt, by
    match i, hz with
    | 0, hz =>
      injection hz with hz
      subst hz
      exact h.cell 0
    | 1, hz =>
      injection hz with hz
      subst hz
      exact h.cell 1⟩⟩
theorem slice_two {α : Type} {t e : TypeId} {L : Lay α} (h0 : 0 < L.n) {w : World} {B g : Nat} {c1 c2 : List Value} {x1 x2 : α} (hb : Blk w g e ((Value.agg c1.toArray).cells ++ (Value.agg c2.toArray).cells)) (hg : g < B) (h1 : L.At w B c1 x1) (h2 : L.At w B c2 x2) : (Lay.slice t L).At w B [.slice (some ⟨g, 0, none⟩) 2 2] [x1, x2] := by
  have e : (Value.agg c1.toArray).cells ++ (Value.agg c2.toArray).cells = [c1, c2].flatten.toArray := by simp [Value.cells]
  rw [e] at hb
  refine slice_cells (l := [x1, x2]) h0 hb hg rfl (of_decide_eq_true (by kernel_rfl)) fun j x cs hx hcs => ?_
  match j, hx, hcs with
  | 0, hx, hcs => injection hx with hx; injection hcs with hcs; subst hx hcs; exact h1
  | 1, hx, hcs => injection hx with hx; injection hcs with hcs; subst hx hcs; exact h2
theorem slice_one {α : Type} {t e : TypeId} {L : Lay α} (h0 : 0 < L.n) {w : World} {B g : Nat} {c1 : List Value} {x1 : α} (hb : Blk w g e (Value.agg c1.toArray).cells) (hg : g < B) (h1 : L.At w B c1 x1) : (Lay.slice t L).At w B [.slice (some ⟨g, 0, none⟩) 1 1] [x1] := by
  have e : (Value.agg c1.toArray).cells = [c1].flatten.toArray := by simp [Value.cells]
  rw [e] at hb
  refine slice_cells (l := [x1]) h0 hb hg rfl (of_decide_eq_true (by kernel_rfl)) fun j x cs hx hcs => ?_
  match j, hx, hcs with
  | 0, hx, hcs => injection hx with hx; injection hcs with hcs; subst hx hcs; exact h1
theorem optLay_mk {w : World} {B : Nat} {p : Pth} {v : Value} {cl : List Pth} (hp : okP p) (h : pathsLay.At w B [v] cl) : optLay.At w B (oC p v) (p, cl) :=
  ⟨pC p, [v], rfl, pathLay_at.2 ⟨rfl, hp⟩, [v], [], rfl, h, rfl⟩
theorem exec_made2 {ρ : Operand → Value} {o : Oper} (h : Hsh) (p : Pth) (hh : okH h) (hp : okP p) (x y : Operand) (ho : o.op = .build 60 #[(0, x), (1, y)]) (h1 : ρ x = .agg (bv h).toArray) (h2 : ρ y = .agg (pC p).toArray) (w : World) : (execOp ρ o).run Try.prog w = .ok (.value (.agg (mC h p).toArray)) w := by
  have e9 : (Value.agg (bv h).toArray).cells ++ (Value.agg (pC p).toArray).cells = (mC h p).toArray := by simp [Value.cells]
  refine Eq.trans (exec_build2 60 x y ho (n1 := 20) (n2 := 21) (z := .agg zcM) (v1 := .agg (bv h).toArray) (v2 := .agg (pC p).toArray) h1 h2 Try.underlying60 (fun w => by kernel_rfl) (by kernel_rfl) (fun w => by kernel_rfl) (by simp [Value.cells, bvL]; exact hh) (by simp [Value.cells, pC_len hp]) w) ?_
  rw [e9]
def zcC : Array Value := (bv (List.replicate 20 0) ++ [Value.slice none 0 0, Value.slice none 0 0, Value.slice none 0 0, Value.slice none 0 0]).toArray
def c0 : CaseP := ⟨hN 9, [], [hN 1, hN 2], [[(pN 1, [pN 4]), (pN 2, [pN 5])], [(pN 3, [pN 5])]], [(hN 4, pN 4), (hN 4, pN 5)]⟩
theorem c0_least : leastB c0 100 = ([1, 0], 4, 0) ∧ leastB c0 3 = ([], 3, 11) ∧ freeB c0 [1, 0] = true ∧ freeB c0 [0, 0] = false := by
  refine ⟨?_, ?_, ?_, ?_⟩ <;> kernel_rfl
theorem c0_size : c0.size ≤ 120 := by decide
set_option maxHeartbeats 8000000 in
theorem awake24_any (w0 : World) : Calls Try.prog 11 #[] w0 fun e w' => e = .returned (.bool true) ∧ Below w0.heap.size w0 w' := by
  go_enter Try.func11, Try.ntmps11
  go_wp2_with fail
  refine (class_any 9 (by omega) w0).mono ?_
  rintro e w1 ⟨rfl, hbw1⟩
  have HBw1 := hide (show Below w0.heap.size w0 w1 from hbw1)
  clear hbw1
  dsimp only
  go_wp2_with fail
  refine (class_any 1 (by omega) w1).mono ?_
  rintro e w2 ⟨rfl, hbw2⟩
  have HBw2 := hide (show Below w1.heap.size w1 w2 from hbw2)
  clear hbw2
  dsimp only
  go_wp2_with fail
  refine (class_any 2 (by omega) w2).mono ?_
  rintro e w3 ⟨rfl, hbw3⟩
  have HBw3 := hide (show Below w2.heap.size w2 w3 from hbw3)
  clear hbw3
  dsimp only
  obtain ⟨w4, hww4⟩ : ∃ w4, w4 = w3.alloc (.cells ((Value.agg (bv (hN 1)).toArray).cells ++ (Value.agg (bv (hN 2)).toArray).cells) 23) := ⟨_, rfl⟩
  have HBw4 := hide (show Below w3.heap.size w3 w4 from by rw [hww4]; exact (Below.refl _ w3).alloc (Nat.le_refl _) _)
  have HKw4 := hide (show Blk w4 w3.heap.size 23 ((Value.agg (bv (hN 1)).toArray).cells ++ (Value.agg (bv (hN 2)).toArray).cells) from by rw [hww4]; exact Blk.new _ _ _)
  have HWw4 := hide hww4
  clear hww4
  obtain ⟨w5, hww5⟩ : ∃ w5, w5 = w4.alloc (.cells (#[.int .i64 4]) 3) := ⟨_, rfl⟩
  have HBw5 := hide (show Below w4.heap.size w4 w5 from by rw [hww5]; exact (Below.refl _ w4).alloc (Nat.le_refl _) _)
  have HKw5 := hide (show Blk w5 w4.heap.size 3 (#[.int .i64 4]) from by rw [hww5]; exact Blk.new _ _ _)
  have HWw5 := hide hww5
  clear hww5
  go_wp2_with (first | (refine wpList_value (o := ⟨some 11, _, _, _, _, _⟩) rfl (.slice (some ⟨w3.heap.size, 0, none⟩) 2 2) w4 (by rw [HWw4.out]; exact exec_buildSlice2 (o := ⟨some 11, _, _, _, _, _⟩) (v := .agg (bv (hN 1)).toArray) (u := .agg (bv (hN 2)).toArray) 25 (.tmp 9) (.tmp 10) rfl rfl rfl Try.underlying25 sz_hash (by omega) (z := .agg zcH) (fun w => by kernel_rfl) rfl rfl w3) ?_) | (refine wpList_value (o := ⟨some 12, _, _, _, _, _⟩) rfl (.slice (some ⟨w4.heap.size, 0, none⟩) 1 1) w5 (by rw [HWw5.out]; kernel_rfl) ?_))
  refine (option_any 1 (by omega) [4] (by simp) (by simp) (.slice (some ⟨w4.heap.size, 0, none⟩) 1 1) w5 (ints_one HKw5.out)).mono ?_
  rintro e w6 ⟨u13, rfl, hu13, hbw6⟩
  have HBw6 := hide (show Below w5.heap.size w5 w6 from hbw6)
  have Hu13 := hide hu13
  clear hbw6 hu13
  dsimp only
  obtain ⟨w7, hww7⟩ : ∃ w7, w7 = w6.alloc (.cells (#[.int .i64 5]) 3) := ⟨_, rfl⟩
  have HBw7 := hide (show Below w6.heap.size w6 w7 from by rw [hww7]; exact (Below.refl _ w6).alloc (Nat.le_refl _) _)
  have HKw7 := hide (show Blk w7 w6.heap.size 3 (#[.int .i64 5]) from by rw [hww7]; exact Blk.new _ _ _)
  have HWw7 := hide hww7
  clear hww7
  go_wp2_with (refine wpList_value (o := ⟨some 14, _, _, _, _, _⟩) rfl (.slice (some ⟨w6.heap.size, 0, none⟩) 1 1) w7 (by rw [HWw7.out]; kernel_rfl) ?_)
  refine (option_any 2 (by omega) [5] (by simp) (by simp) (.slice (some ⟨w6.heap.size, 0, none⟩) 1 1) w7 (ints_one HKw7.out)).mono ?_
  rintro e w8 ⟨u15, rfl, hu15, hbw8⟩
  have HBw8 := hide (show Below w7.heap.size w7 w8 from hbw8)
  have Hu15 := hide hu15
  clear hbw8 hu15
  dsimp only
  obtain ⟨w9, hww9⟩ : ∃ w9, w9 = w8.alloc (.cells ((Value.agg (oC (pN 1) u13).toArray).cells ++ (Value.agg (oC (pN 2) u15).toArray).cells) 55) := ⟨_, rfl⟩
  have HBw9 := hide (show Below w8.heap.size w8 w9 from by rw [hww9]; exact (Below.refl _ w8).alloc (Nat.le_refl _) _)
  have HKw9 := hide (show Blk w9 w8.heap.size 55 ((Value.agg (oC (pN 1) u13).toArray).cells ++ (Value.agg (oC (pN 2) u15).toArray).cells) from by rw [hww9]; exact Blk.new _ _ _)
  have HWw9 := hide hww9
  clear hww9
  obtain ⟨w10, hww10⟩ : ∃ w10, w10 = w9.alloc (.cells (#[.int .i64 5]) 3) := ⟨_, rfl⟩
  have HBw10 := hide (show Below w9.heap.size w9 w10 from by rw [hww10]; exact (Below.refl _ w9).alloc (Nat.le_refl _) _)
  have HKw10 := hide (show Blk w10 w9.heap.size 3 (#[.int .i64 5]) from by rw [hww10]; exact Blk.new _ _ _)
  have HWw10 := hide hww10
  clear hww10
  go_wp2_with (first | (refine wpList_value (o := ⟨some 16, _, _, _, _, _⟩) rfl (.slice (some ⟨w8.heap.size, 0, none⟩) 2 2) w9 (by rw [HWw9.out]; exact exec_buildSlice2 (o := ⟨some 16, _, _, _, _, _⟩) (v := .agg (oC (pN 1) u13).toArray) (u := .agg (oC (pN 2) u15).toArray) 57 (.tmp 13) (.tmp 15) rfl rfl rfl Try.underlying57 sz_opt (by omega) (z := .agg zcO) (fun w => by kernel_rfl) rfl rfl w8) ?_) | (refine wpList_value (o := ⟨some 17, _, _, _, _, _⟩) rfl (.slice (some ⟨w9.heap.size, 0, none⟩) 1 1) w10 (by rw [HWw10.out]; kernel_rfl) ?_))
  refine (option_any 3 (by omega) [5] (by simp) (by simp) (.slice (some ⟨w9.heap.size, 0, none⟩) 1 1) w10 (ints_one HKw10.out)).mono ?_
  rintro e w11 ⟨u18, rfl, hu18, hbw11⟩
  have HBw11 := hide (show Below w10.heap.size w10 w11 from hbw11)
  have Hu18 := hide hu18
  clear hbw11 hu18
  dsimp only
  obtain ⟨w12, hww12⟩ : ∃ w12, w12 = w11.alloc (.cells ((Value.agg (oC (pN 3) u18).toArray).cells) 55) := ⟨_, rfl⟩
  have HBw12 := hide (show Below w11.heap.size w11 w12 from by rw [hww12]; exact (Below.refl _ w11).alloc (Nat.le_refl _) _)
  have HKw12 := hide (show Blk w12 w11.heap.size 55 ((Value.agg (oC (pN 3) u18).toArray).cells) from by rw [hww12]; exact Blk.new _ _ _)
  have HWw12 := hide hww12
  clear hww12
  obtain ⟨w13, hww13⟩ : ∃ w13, w13 = w12.alloc (.cells (#[.slice (some ⟨w8.heap.size, 0, none⟩) 2 2, .slice (some ⟨w11.heap.size, 0, none⟩) 1 1]) 57) := ⟨_, rfl⟩
  have HBw13 := hide (show Below w12.heap.size w12 w13 from by rw [hww13]; exact (Below.refl _ w12).alloc (Nat.le_refl _) _)
  have HKw13 := hide (show Blk w13 w12.heap.size 57 (#[.slice (some ⟨w8.heap.size, 0, none⟩) 2 2, .slice (some ⟨w11.heap.size, 0, none⟩) 1 1]) from by rw [hww13]; exact Blk.new _ _ _)
  have HWw13 := hide hww13
  clear hww13
  go_wp2_with (first | (refine wpList_value (o := ⟨some 19, _, _, _, _, _⟩) rfl (.slice (some ⟨w11.heap.size, 0, none⟩) 1 1) w12 (by rw [HWw12.out]; exact exec_buildSliceP (o := ⟨some 19, _, _, _, _, _⟩) (v := .agg (oC (pN 3) u18).toArray) 57 (.tmp 18) rfl rfl Try.underlying57 sz_opt (by omega) (by omega) (z := .agg zcO) (fun w => by kernel_rfl) rfl w11) ?_) | (refine wpList_value (o := ⟨some 20, _, _, _, _, _⟩) rfl (.slice (some ⟨w12.heap.size, 0, none⟩) 2 2) w13 (by rw [HWw13.out]; kernel_rfl) ?_))
  refine (class_any 4 (by omega) w13).mono ?_
  rintro e w14 ⟨rfl, hbw14⟩
  have HBw14 := hide (show Below w13.heap.size w13 w14 from hbw14)
  clear hbw14
  dsimp only
  go_wp2_with fail
  refine (path_any 4 (by omega) w14).mono ?_
  rintro e w15 ⟨rfl, hbw15⟩
  have HBw15 := hide (show Below w14.heap.size w14 w15 from hbw15)
  clear hbw15
  dsimp only
  go_wp2_with ((refine wpList_value (o := ⟨some 23, _, _, _, _, _⟩) rfl (.agg (mC (hN 4) (pN 4)).toArray) w15 (exec_made2 (o := ⟨some 23, _, _, _, _, _⟩) (hN 4) (pN 4) (hN_ok _) (pN_ok _) (.tmp 21) (.tmp 22) rfl rfl rfl w15) ?_))
  refine (class_any 4 (by omega) w15).mono ?_
  rintro e w16 ⟨rfl, hbw16⟩
  have HBw16 := hide (show Below w15.heap.size w15 w16 from hbw16)
  clear hbw16
  dsimp only
  go_wp2_with fail
  refine (path_any 5 (by omega) w16).mono ?_
  rintro e w17 ⟨rfl, hbw17⟩
  have HBw17 := hide (show Below w16.heap.size w16 w17 from hbw17)
  clear hbw17
  dsimp only
  obtain ⟨w18, hww18⟩ : ∃ w18, w18 = w17.alloc (.cells ((Value.agg (mC (hN 4) (pN 4)).toArray).cells ++ (Value.agg (mC (hN 4) (pN 5)).toArray).cells) 60) := ⟨_, rfl⟩
  have HBw18 := hide (show Below w17.heap.size w17 w18 from by rw [hww18]; exact (Below.refl _ w17).alloc (Nat.le_refl _) _)
  have HKw18 := hide (show Blk w18 w17.heap.size 60 ((Value.agg (mC (hN 4) (pN 4)).toArray).cells ++ (Value.agg (mC (hN 4) (pN 5)).toArray).cells) from by rw [hww18]; exact Blk.new _ _ _)
  have HWw18 := hide hww18
  clear hww18
  obtain ⟨v0, hv0⟩ : ∃ v0, v0 = (⟨hN 9, .slice none 0 0, .slice (some ⟨w3.heap.size, 0, none⟩) 2 2, .slice (some ⟨w12.heap.size, 0, none⟩) 2 2, .slice (some ⟨w17.heap.size, 0, none⟩) 2 2⟩ : Cvs) := ⟨_, rfl⟩
  have ho : okH v0.own := by rw [hv0]; exact hN_ok 9
  have hsz0 : (Try.prog.info? 29).map (·.size) = some (caseC v0).toArray.size := csz ho
  have hone0 : (caseC v0).toArray.all (·.oneCell') = true := by rw [hv0]; kernel_rfl
  have HV := hide hv0
  clear hv0
  go_wp2_with (first | (refine wpList_value (o := ⟨some 26, _, _, _, _, _⟩) rfl (.agg (mC (hN 4) (pN 5)).toArray) w17 (exec_made2 (o := ⟨some 26, _, _, _, _, _⟩) (hN 4) (pN 5) (hN_ok _) (pN_ok _) (.tmp 24) (.tmp 25) rfl rfl rfl w17) ?_) | (refine wpList_value (o := ⟨some 27, _, _, _, _, _⟩) rfl (.slice (some ⟨w17.heap.size, 0, none⟩) 2 2) w18 (by rw [HWw18.out]; exact exec_buildSlice2 (o := ⟨some 27, _, _, _, _, _⟩) (v := .agg (mC (hN 4) (pN 4)).toArray) (u := .agg (mC (hN 4) (pN 5)).toArray) 27 (.tmp 23) (.tmp 26) rfl rfl rfl Try.underlying27 sz_made (by omega) (z := .agg zcM) (fun w => by kernel_rfl) rfl rfl w17) ?_) | (refine wpList_value (o := ⟨some 28, _, _, _, _, _⟩) rfl (.agg (caseC v0).toArray) w18 ?hh ?_) | ((with_reducible refine wpList_box (o1 := ⟨some 1, _, _, _, _, _⟩) (o2 := ⟨none, _, _, _, _, _⟩) rfl rfl 29 (.tmp 1) (.tmp 28) ?_ zcC (caseC v0).toArray ?_ hsz0 ?_ hone0 ?_ ?_ ?_); rfl; kernel_rfl; (simp only [List.size_toArray, caseC_len ho]; kernel_rfl); rfl; rfl; intro w19 hmw19 hbw19; have HBw19 := hide hbw19; have HKw19 := hide hmw19; clear hmw19 hbw19; simp only [Act.put, List.setIfInBounds_toArray, List.set_cons_zero, List.set_cons_succ]) | (refine wpList_value (o := ⟨some 30, _, _, _, _, _⟩) rfl (.agg (caseC v0).toArray) w19 (exec_load_blk (o := ⟨some 30, _, _, _, _, _⟩) 29 (.tmp 1) rfl w18.heap.size rfl 29 _ _ w19 HKw19.out Try.underlying29 rfl hsz0) ?_))
  case hh =>
    rw [HV.out]
    kernel_rfl
  have hB19 : Below w19.heap.size w19 w19 := Below.refl _ _
  have hB18 : Below w18.heap.size w18 w19 := HBw19.out.trans (Below.mono hB19 HBw19.out.size)
  have hB17 : Below w17.heap.size w17 w19 := HBw18.out.trans (Below.mono hB18 HBw18.out.size)
  have hB16 : Below w16.heap.size w16 w19 := HBw17.out.trans (Below.mono hB17 HBw17.out.size)
  have hB15 : Below w15.heap.size w15 w19 := HBw16.out.trans (Below.mono hB16 HBw16.out.size)
  have hB14 : Below w14.heap.size w14 w19 := HBw15.out.trans (Below.mono hB15 HBw15.out.size)
  have hB13 : Below w13.heap.size w13 w19 := HBw14.out.trans (Below.mono hB14 HBw14.out.size)
  have hB12 : Below w12.heap.size w12 w19 := HBw13.out.trans (Below.mono hB13 HBw13.out.size)
  have hB11 : Below w11.heap.size w11 w19 := HBw12.out.trans (Below.mono hB12 HBw12.out.size)
  have hB10 : Below w10.heap.size w10 w19 := HBw11.out.trans (Below.mono hB11 HBw11.out.size)
  have hB9 : Below w9.heap.size w9 w19 := HBw10.out.trans (Below.mono hB10 HBw10.out.size)
  have hB8 : Below w8.heap.size w8 w19 := HBw9.out.trans (Below.mono hB9 HBw9.out.size)
  have hB7 : Below w7.heap.size w7 w19 := HBw8.out.trans (Below.mono hB8 HBw8.out.size)
  have hB6 : Below w6.heap.size w6 w19 := HBw7.out.trans (Below.mono hB7 HBw7.out.size)
  have hB5 : Below w5.heap.size w5 w19 := HBw6.out.trans (Below.mono hB6 HBw6.out.size)
  have hB4 : Below w4.heap.size w4 w19 := HBw5.out.trans (Below.mono hB5 HBw5.out.size)
  have hB3 : Below w3.heap.size w3 w19 := HBw4.out.trans (Below.mono hB4 HBw4.out.size)
  have hB2 : Below w2.heap.size w2 w19 := HBw3.out.trans (Below.mono hB3 HBw3.out.size)
  have hB1 : Below w1.heap.size w1 w19 := HBw2.out.trans (Below.mono hB2 HBw2.out.size)
  have hB0 : Below w0.heap.size w0 w19 := HBw1.out.trans (Below.mono hB1 HBw1.out.size)
  have hs0 := HBw1.out.size
  have hs1 := HBw2.out.size
  have hs2 := HBw3.out.size
  have hs3 := HBw4.out.size
  have hs4 := HBw5.out.size
  have hs5 := HBw6.out.size
  have hs6 := HBw7.out.size
  have hs7 := HBw8.out.size
  have hs8 := HBw9.out.size
  have hs9 := HBw10.out.size
  have hs10 := HBw11.out.size
  have hs11 := HBw12.out.size
  have hs12 := HBw13.out.size
  have hs13 := HBw14.out.size
  have hs14 := HBw15.out.size
  have hs15 := HBw16.out.size
  have hs16 := HBw17.out.size
  have hs17 := HBw18.out.size
  have hs18 := HBw19.out.size
  have hat : CaseAt w19.heap.size w19 v0 c0 := by
    rw [HV.out]
    refine ⟨rfl, hN_ok 9, ⟨none, 0, rfl, Nat.le_refl _, Nat.zero_le _, fun _ => rfl, fun h => absurd h (by simp [c0])⟩, ?_, ?_, ?_⟩
    · exact slice_two (L := hashLay) (by decide) (HKw4.out.below hB4 HKw4.out.lt) (show w3.heap.size < w19.heap.size by have := HKw4.out.lt; omega) ⟨rfl, hN_ok 1⟩ ⟨rfl, hN_ok 2⟩
    · exact slice_two (L := rowLay) (by decide) (HKw13.out.below hB13 HKw13.out.lt) (show w12.heap.size < w19.heap.size by have := HKw13.out.lt; omega) (slice_two (L := optLay) (by decide) (HKw9.out.below hB9 HKw9.out.lt) (show w8.heap.size < w19.heap.size by have := HKw9.out.lt; omega) (optLay_mk (pN_ok 1) (OwnP.at_ (OwnP.below Hu13.out hB6))) (optLay_mk (pN_ok 2) (OwnP.at_ (OwnP.below Hu15.out hB8)))) (slice_one (L := optLay) (by decide) (HKw12.out.below hB12 HKw12.out.lt) (show w11.heap.size < w19.heap.size by have := HKw12.out.lt; omega) (optLay_mk (pN_ok 3) (OwnP.at_ (OwnP.below Hu18.out hB11))))
    · exact slice_two (L := madeLay) (by decide) (HKw18.out.below hB18 HKw18.out.lt) (show w17.heap.size < w19.heap.size by have := HKw18.out.lt; omega) (madeLay_at.2 ⟨rfl, hN_ok 4, pN_ok 4⟩) (madeLay_at.2 ⟨rfl, hN_ok 4, pN_ok 5⟩)
  have HA := hide (And.intro hat (And.intro hB0 HKw19.out))
  clear hat hB0 hB1 hB2 hB3 hB4 hB5 hB6 hB7 hB8 hB9 hB10 hB11 hB12 hB13 hB14 hB15 hB16 hB17 hB18 hB19 hs0 hs1 hs2 hs3 hs4 hs5 hs6 hs7 hs8 hs9 hs10 hs11 hs12 hs13 hs14 hs15 hs16 hs17 hs18 HBw1 HBw2 HBw3 HBw4 HBw5 HBw6 HBw7 HBw8 HBw9 HBw10 HBw11 HBw12 HBw13 HBw14 HBw15 HBw16 HBw17 HBw18 HBw19 Hu13 Hu15 Hu18 HKw4 HKw9 HKw12 HKw13 HKw18
  refine (least_any w19 v0 c0 c0_size HA.out.1 100 (by omega)).mono ?_
  rintro e w20 ⟨u31, rfl, ho31, hb20⟩
  rw [c0_least.1] at ho31 ⊢
  have H20 := hide (And.intro ho31 (And.intro hb20 (show CaseAt w20.heap.size w20 v0 c0 from (HA.out.1.alike hb20.block).widen hb20.size)))
  have HB20 := hide (show Blk w20 w18.heap.size 29 (caseC v0).toArray from HA.out.2.2.below hb20 HA.out.2.2.lt)
  clear ho31 hb20
  dsimp only
  go_wp2_with (refine wpList_value (o := ⟨some 36, _, _, _, _, _⟩) rfl (.agg (caseC v0).toArray) w20 (exec_load_blk (o := ⟨some 36, _, _, _, _, _⟩) 29 (.tmp 1) rfl w18.heap.size rfl 29 _ _ w20 HB20.out Try.underlying29 rfl hsz0) ?_)
  refine (least_any w20 v0 c0 c0_size H20.out.2.2 3 (by omega)).mono ?_
  rintro e w21 ⟨u37, rfl, ho37, hb21⟩
  rw [c0_least.2.1] at ho37 ⊢
  have H21 := hide (And.intro (show CaseAt w21.heap.size w21 v0 c0 from (H20.out.2.2.alike hb21.block).widen hb21.size) (And.intro hb21 (show OwnI _ w21 u31 [1, 0] from owned_keepN H20.out.1 fun g _ hl => hb21.block g hl)))
  have HB21 := hide (show Blk w21 w18.heap.size 29 (caseC v0).toArray from HB20.out.below hb21 HB20.out.lt)
  clear ho37 hb21
  dsimp only
  obtain ⟨w22, hw22⟩ : ∃ w22, w22 = w21.alloc (.cells #[.int .i64 1, .int .i64 0] 3) := ⟨_, rfl⟩
  have hb22 : Below w21.heap.size w21 w22 := by rw [hw22]; exact (Below.refl _ w21).alloc (Nat.le_refl _) _
  have hk22 : Blk w22 w21.heap.size 3 #[.int .i64 1, .int .i64 0] := by rw [hw22]; exact Blk.new _ _ _
  have HW22 := hide hw22
  clear hw22
  go_wp2_with (refine wpList_value_w (o := ⟨some 45, _, _, _, _, _⟩) (by kernel_rfl) (.slice (some ⟨w21.heap.size, 0, none⟩) 2 2) w22 (by rw [HW22.out]; kernel_rfl) ?_)
  refine (sameInts_any [1, 0] [1, 0] (by simp) (by simp) u31 _ w22 (OwnI.ints (owned_keepN H21.out.2.2 fun g _ hl => hb22.block g hl)) (ints_two 1 0 hk22)).mono ?_
  rintro e w23 ⟨rfl, hb23⟩
  have hb2123 := hb22.trans (Below.mono hb23 hb22.size)
  have H23 := hide (And.intro (show CaseAt w23.heap.size w23 v0 c0 from (H21.out.1.alike hb2123.block).widen hb2123.size) hb2123)
  have HB23 := hide (show Blk w23 w18.heap.size 29 (caseC v0).toArray from HB21.out.below hb2123 HB21.out.lt)
  clear hb22 hb23 hk22 hb2123
  dsimp only
  obtain ⟨w24, hw24⟩ : ∃ w24, w24 = w23.alloc (.cells #[.int .i64 1, .int .i64 0] 3) := ⟨_, rfl⟩
  have hb24 : Below w23.heap.size w23 w24 := by rw [hw24]; exact (Below.refl _ w23).alloc (Nat.le_refl _) _
  have hk24 : Blk w24 w23.heap.size 3 #[.int .i64 1, .int .i64 0] := by rw [hw24]; exact Blk.new _ _ _
  have HW24 := hide hw24
  clear hw24
  have hd1 : decide (([1, 0] : List Int) = [1, 0]) = true := rfl
  rw [hd1]
  clear hd1
  go_wp2_with (first | (refine wpList_value_w (o := ⟨some 61, _, _, _, _, _⟩) (by kernel_rfl) (.agg (caseC v0).toArray) w23 (exec_load_blk (o := ⟨some 61, _, _, _, _, _⟩) 29 (.tmp 1) rfl w18.heap.size rfl 29 _ _ w23 HB23.out Try.underlying29 rfl hsz0) ?_) | (refine wpList_value_w (o := ⟨some 62, _, _, _, _, _⟩) (by kernel_rfl) (.slice (some ⟨w23.heap.size, 0, none⟩) 2 2) w24 (by rw [HW24.out]; kernel_rfl) ?_))
  have hC24 : CaseAt w24.heap.size w24 v0 c0 := (H23.out.1.alike hb24.block).widen hb24.size
  refine (free_any w24 v0 c0 c0_size hC24 [1, 0] (by simp) _ (ints_two 1 0 hk24)).mono ?_
  rintro e w25 ⟨rfl, hb25⟩
  rw [c0_least.2.2.1]
  have hb2325 := hb24.trans (Below.mono hb25 hb24.size)
  have H25 := hide (And.intro (show CaseAt w25.heap.size w25 v0 c0 from (H23.out.1.alike hb2325.block).widen hb2325.size) hb2325)
  have HB25 := hide (show Blk w25 w18.heap.size 29 (caseC v0).toArray from HB23.out.below hb2325 HB23.out.lt)
  clear hb24 hk24 hb25 hC24 hb2325
  dsimp only
  obtain ⟨w26, hw26⟩ : ∃ w26, w26 = w25.alloc (.cells #[.int .i64 0, .int .i64 0] 3) := ⟨_, rfl⟩
  have hb26 : Below w25.heap.size w25 w26 := by rw [hw26]; exact (Below.refl _ w25).alloc (Nat.le_refl _) _
  have hk26 : Blk w26 w25.heap.size 3 #[.int .i64 0, .int .i64 0] := by rw [hw26]; exact Blk.new _ _ _
  have HW26 := hide hw26
  clear hw26
  go_wp2_with (first | (refine wpList_value_w (o := ⟨some 66, _, _, _, _, _⟩) (by kernel_rfl) (.agg (caseC v0).toArray) w25 (exec_load_blk (o := ⟨some 66, _, _, _, _, _⟩) 29 (.tmp 1) rfl w18.heap.size rfl 29 _ _ w25 HB25.out Try.underlying29 rfl hsz0) ?_) | (refine wpList_value_w (o := ⟨some 67, _, _, _, _, _⟩) (by kernel_rfl) (.slice (some ⟨w25.heap.size, 0, none⟩) 2 2) w26 (by rw [HW26.out]; kernel_rfl) ?_))
  have hC26 : CaseAt w26.heap.size w26 v0 c0 := (H25.out.1.alike hb26.block).widen hb26.size
  refine (free_any w26 v0 c0 c0_size hC26 [0, 0] (by simp) _ (ints_two 0 0 hk26)).mono ?_
  rintro e w27 ⟨rfl, hb27⟩
  rw [c0_least.2.2.2]
  have hbf : Below w0.heap.size w0 w27 := HA.out.2.1.trans (Below.mono (H20.out.2.1.trans (Below.mono (H21.out.2.1.trans (Below.mono (H23.out.2.trans (Below.mono (H25.out.2.trans (Below.mono (hb26.trans (Below.mono hb27 hb26.size)) H25.out.2.size)) H23.out.2.size)) H21.out.2.1.size)) H20.out.2.1.size)) HA.out.2.1.size)
  have HF := hide hbf
  clear hbf hb26 hk26 hb27 hC26
  dsimp only
  go_wp2_with fail
  go_ret
  exact ⟨rfl, HF.out⟩
end Go.Proofs.Ytfppddnfdinipaa
end
section
namespace Go.Proofs.Ytfppddnfdinipaa
open Go Go.RowKit Go.Maps
theorem rowC_eq (rest : List (List Nat)) : ∀ (os : List Opt) (k : Nat), rowC rest k os = (List.range os.length).flatMap fun j => rest.map ((k + j) :: ·)
  | [], _ => rfl
  | x :: os, k => by
    unfold rowC
    rw [rowC_eq rest os (k + 1), List.length_cons, List.range_succ_eq_map, List.flatMap_cons, List.flatMap_map]
    simp only [Nat.add_zero]
    congr 1
    congr 1
    funext j
    rw [show k + 1 + j = k + (j + 1) by omega]
theorem choices_all : ∀ (opts : List (List Opt)) (out all : List (List Nat)), choicesP opts out = some all → all = out.flatMap fun l => (allC opts).map (l ++ ·)
  | [], out, all, h => by
    injection h with h
    subst h
    unfold allC
    simp
  | os :: r, out, all, h => by
    unfold choicesP at h
    split at h
    · cases h
    · have ih := choices_all r _ all h
      rw [ih]
      unfold stepC
      rw [List.flatMap_assoc]
      congr 1
      funext l
      rw [List.flatMap_map]
      show _ = (rowC (allC r) 0 os).map _
      rw [rowC_eq, List.map_flatMap]
      congr 1
      funext j
      rw [List.map_map]
      congr 1
      funext m
      simp
theorem choices_nodes : ∀ (opts : List (List Opt)) (out all : List (List Nat)), choicesP opts out = some all → nodes opts * out.length ≤ 300 * opts.length
  | [], out, all, _ => by unfold nodes; simp
  | os :: r, out, all, h => by
    unfold choicesP at h
    split at h
    · cases h
    · rename_i hle
      have ih := choices_nodes r _ all h
      rw [stepC_len] at ih hle
      unfold nodes
      rw [List.length_cons]
      have e : os.length * (1 + nodes r) * out.length = out.length * os.length + nodes r * (out.length * os.length) := by
        rw [Nat.mul_add, Nat.mul_one, Nat.add_mul, Nat.mul_comm os.length out.length]
        congr 1
        rw [Nat.mul_comm os.length (nodes r), Nat.mul_assoc, Nat.mul_comm os.length out.length]
      rw [e]
      omega
theorem allC_in : ∀ (opts : List (List Opt)) (l : List Nat), l ∈ allC opts → l.length = opts.length ∧ ∀ (i : Nat) os k, opts[i]? = some os → l[i]? = some k → k < os.length
  | [], l, h => by
    unfold allC at h
    rw [List.mem_singleton] at h
    subst h
    exact ⟨rfl, fun i os k h1 _ => by simp at h1⟩
  | os :: r, l, h => by
    unfold allC at h
    rw [rowC_eq] at h
    obtain ⟨j, hj, h2⟩ := List.mem_flatMap.1 h
    obtain ⟨m, hm, rfl⟩ := List.mem_map.1 h2
    obtain ⟨h3, h4⟩ := allC_in r m hm
    refine ⟨by rw [List.length_cons, List.length_cons, h3], fun i os' k h5 h6 => ?_⟩
    cases i with
    | zero =>
      simp only [List.getElem?_cons_zero, Option.some.injEq] at h5 h6
      subst h5 h6
      have := List.mem_range.1 hj
      omega
    | succ i => exact h4 i os' k (by simpa using h5) (by simpa using h6)
theorem allC_ne : ∀ (opts : List (List Opt)), opts.any (·.isEmpty) = false → allC opts ≠ []
  | [], _ => by unfold allC; simp
  | os :: r, h => by
    rw [List.any_cons, Bool.or_eq_false_iff] at h
    have ih := allC_ne r h.2
    unfold allC
    cases os with
    | nil => exact absurd h.1 (by decide)
    | cons x xs =>
      unfold rowC
      intro e
      have := List.append_eq_nil_iff.1 e
      exact ih (List.map_eq_nil_iff.1 this.1)
theorem allC_empty : ∀ (opts : List (List Opt)), opts.any (·.isEmpty) = true → allC opts = []
  | [], h => by cases h
  | os :: r, h => by
    rw [List.any_cons, Bool.or_eq_true] at h
    unfold allC
    rcases h with h | h
    · cases os with
      | nil => rfl
      | cons x xs => cases h
    · rw [rowC_eq, allC_empty r h]
      simp
theorem allC_choices {opts : List (List Opt)} {all : List (List Nat)} (h : choicesP opts [[]] = some all) : all = allC opts ∧ nodes opts ≤ 300 * opts.length := by
  have h1 := choices_all opts _ all h
  have h2 := choices_nodes opts _ all h
  refine ⟨?_, by simpa using h2⟩
  rw [h1]
  simp
section
variable {c : CaseP}
theorem zip_snd (hl : c.opts.length = c.cls.length) : (c.cls.zip c.opts).map (·.2) = c.opts := List.map_snd_zip (by omega)
/-- what a search tells with much fuel -/
theorem much {all : List (List Nat)} (hc : c.size ≤ 120) (hl : c.opts.length = c.cls.length) (h : choicesP c.opts [[]] = some all) (hcl : cleanB c.own c.fixed c.of = true) :
    Best c.own 1048576 (clean1 c.own (c.cls.zip c.opts) c.fixed c.of) all (nodes c.opts) 0 (fromB c.own 1048576 (c.cls.zip c.opts) c.fixed c.of 0) ∧ (fromB c.own 1048576 (c.cls.zip c.opts) c.fixed c.of 0).1 ≠ .fuel ∧ nodes c.opts ≤ 36000 := by
  obtain ⟨h1, h2⟩ := allC_choices h
  have hb := best_from (own := c.own) (fuel := 1048576) (c.cls.zip c.opts) c.fixed c.of 0 hcl
  rw [zip_snd hl, ← h1] at hb
  have ho := (CaseP.bounds hc).2.2.2.2.2.1
  have hn : nodes c.opts ≤ 36000 := by omega
  refine ⟨hb, fun hf => ?_, hn⟩
  have h3 := hb.fuel_ hf
  have h4 := hb.ge
  omega
theorem code_ne {r : Res} (h : r ≠ .fuel) : r.code ≠ 11 := by
  cases r with
  | ok l => exact fun h => by cases h
  | fuel => exact absurd rfl h
  | conflict => exact fun h => by cases h
theorem fuel_law {all : List (List Nat)} (hc : c.size ≤ 120) (h : choicesP c.opts [[]] = some all) :
    (leastB c 1048576).2.2 ≠ 11 ∧ (0 ≤ (leastB c 1048576).2.1 ∧ (leastB c 1048576).2.1 ≤ 36000) ∧ (∀ g, (leastB c 1048576).2.1 ≤ max g 0 → leastB c g = leastB c 1048576) ∧ ∀ g, max g 0 < (leastB c 1048576).2.1 → leastB c g = ([], max g 0, 11) := by
  by_cases h1 : c.opts.length ≠ c.cls.length
  · have e : ∀ g, leastB c g = ([], 0, 2) := fun g => by unfold leastB; rw [if_pos h1]
    simp only [e]
    exact ⟨by decide, ⟨by decide, by decide⟩, fun _ _ => trivial, fun g hg => absurd hg (by show ¬ max g 0 < 0; omega)⟩
  · by_cases h2 : c.opts.any (·.isEmpty) = true
    · have e : ∀ g, leastB c g = ([], 0, 5) := fun g => by unfold leastB; rw [if_neg h1, if_pos h2]
      simp only [e]
      exact ⟨by decide, ⟨by decide, by decide⟩, fun _ _ => trivial, fun g hg => absurd hg (by show ¬ max g 0 < 0; omega)⟩
    · by_cases h3 : cleanB c.own c.fixed c.of = true
      · have e : ∀ g, leastB c g = ((fromB c.own (max g 0) (c.cls.zip c.opts) c.fixed c.of 0).1.row, (fromB c.own (max g 0) (c.cls.zip c.opts) c.fixed c.of 0).2, (fromB c.own (max g 0) (c.cls.zip c.opts) c.fixed c.of 0).1.code) := fun g => by unfold leastB; rw [if_neg h1, if_neg h2, if_pos h3]
        obtain ⟨hb, hne, hn⟩ := much hc (by omega) h h3
        have hF := fuels_from (own := c.own) (F := 1048576) (c.cls.zip c.opts) c.fixed c.of 0 hne
        have e0 := e 1048576
        rw [show max (1048576 : Int) 0 = 1048576 by omega] at e0
        rw [e0]
        dsimp only
        have h4 := hb.le
        have h5 := hb.ge
        refine ⟨code_ne hne, ⟨h4, by omega⟩, fun g hg => ?_, fun g hg => ?_⟩
        · rw [e g, hF.more (max g 0) hg]
        · rw [e g, hF.less (max g 0) (by omega) hg]
          rfl
      · have e : ∀ g, leastB c g = ([], 0, 13) := fun g => by unfold leastB; rw [if_neg h1, if_neg h2, if_neg h3]
        simp only [e]
        exact ⟨by decide, ⟨by decide, by decide⟩, fun _ _ => trivial, fun g hg => absurd hg (by show ¬ max g 0 < 0; omega)⟩
theorem best_law {all : List (List Nat)} (hc : c.size ≤ 120) (hl : c.opts.length = c.cls.length) (h : choicesP c.opts [[]] = some all) :
    (all = [] → leastB c 1048576 = ([], 0, 5)) ∧ (all ≠ [] → (∀ l, all.find? (clean1 c.own (c.cls.zip c.opts) c.fixed c.of) = some l → (leastB c 1048576).1 = l ∧ (leastB c 1048576).2.2 = 0) ∧ (all.find? (clean1 c.own (c.cls.zip c.opts) c.fixed c.of) = none → (leastB c 1048576).1 = [] ∧ (leastB c 1048576).2.2 = 13)) := by
  obtain ⟨h1, _⟩ := allC_choices h
  have hl' : ¬ c.opts.length ≠ c.cls.length := fun h => h hl
  constructor
  · intro h0
    have he : c.opts.any (·.isEmpty) = true := by
      cases e : c.opts.any (·.isEmpty) with
      | true => rfl
      | false => exact absurd (h1.symm.trans h0) (allC_ne _ e)
    unfold leastB
    rw [if_neg hl', if_pos he]
  · intro h0
    have he : ¬ c.opts.any (·.isEmpty) = true := fun e => h0 (h1.trans (allC_empty _ e))
    by_cases h3 : cleanB c.own c.fixed c.of = true
    · have e : leastB c 1048576 = ((fromB c.own 1048576 (c.cls.zip c.opts) c.fixed c.of 0).1.row, (fromB c.own 1048576 (c.cls.zip c.opts) c.fixed c.of 0).2, (fromB c.own 1048576 (c.cls.zip c.opts) c.fixed c.of 0).1.code) := by
        unfold leastB
        rw [if_neg hl', if_neg he, if_pos h3, show max (1048576 : Int) 0 = 1048576 by omega]
      obtain ⟨hb, hne, _⟩ := much hc hl h h3
      rw [e]
      dsimp only
      cases hr : (fromB c.own 1048576 (c.cls.zip c.opts) c.fixed c.of 0).1 with
      | ok l =>
        have := hb.ok l hr
        rw [this]
        exact ⟨fun l' h => (by injection h with h; subst h; exact ⟨rfl, rfl⟩), fun h => (by cases h)⟩
      | fuel => exact absurd hr hne
      | conflict =>
        have := hb.no hr
        rw [this]
        exact ⟨fun l' h => (by cases h), fun _ => ⟨rfl, rfl⟩⟩
    · have e : leastB c 1048576 = ([], 0, 13) := by
        unfold leastB
        rw [if_neg hl', if_neg he, if_neg h3]
      rw [e]
      have hf : all.find? (clean1 c.own (c.cls.zip c.opts) c.fixed c.of) = none := find_none fun l _ => clean1_not (by simpa using h3) l
      rw [hf]
      exact ⟨fun l' h => (by cases h), fun _ => ⟨rfl, rfl⟩⟩
theorem free_clean {l : List Nat} (hl : c.opts.length = c.cls.length) (hn : l.length = c.opts.length) (hin : ∀ (i : Nat) os k, c.opts[i]? = some os → l[i]? = some k → k < os.length) : freeB c (l.map fun k => ((k : Nat) : Int)) = clean1 c.own (c.cls.zip c.opts) c.fixed c.of l := by
  have hr : inRange c.opts (l.map fun k => ((k : Nat) : Int)) = true := inRange_iff.2 fun i os k h1 h2 => by
    rw [List.getElem?_map] at h2
    cases e : l[i]? with
    | none => rw [e] at h2; cases h2
    | some j =>
      rw [e] at h2
      injection h2 with h2
      subst h2
      have := hin i os j h1 e
      show (0 : Int) ≤ ((j : Nat) : Int) ∧ ((j : Nat) : Int) < (os.length : Int)
      omega
  have e : (l.map fun k => ((k : Nat) : Int)).map Int.toNat = l := by
    rw [List.map_map]
    conv => rhs; rw [← List.map_id l]
    congr 1
  unfold freeB clean1
  rw [hr, e, decide_eq_true hl, List.length_map, decide_eq_true hn]
  rfl
end
end Go.Proofs.Ytfppddnfdinipaa
end
section
namespace Go.Proofs.Ytfppddnfdinipaa
open Go Go.RowKit Go.Maps
set_option maxRecDepth 100000
theorem tryB_len {own : Hsh} {fuel : Int} {h : Hsh} {ps : List Pth} {of : List Mde} {go : List Pth → List Mde → Int → Res × Int} {m : Nat} (hg : ∀ ps of n, (go ps of n).1.row.length ≤ m) : ∀ (os : List Opt) (k : Nat) (n : Int), (tryB own fuel h ps of go k os n).1.row.length ≤ m + 1
  | [], _, _ => Nat.zero_le _
  | x :: xs, k, n => by
    unfold tryB
    have key : ∀ r : Res × Int, r.1.row.length ≤ m → (match r with
        | (.conflict, m) => tryB own fuel h ps of go (k + 1) xs m
        | (.fuel, m) => (.fuel, m)
        | (.ok l, m) => (.ok (k :: l), m) : Res × Int).1.row.length ≤ m + 1 := by
      rintro ⟨r, j⟩ hr
      cases r with
      | ok l => exact Nat.succ_le_succ hr
      | fuel => exact Nat.zero_le _
      | conflict => exact tryB_len hg xs (k + 1) j
    refine key _ ?_
    split
    · exact Nat.zero_le _
    · split
      · exact hg _ _ _
      · exact Nat.zero_le _
theorem fromB_len {own : Hsh} {fuel : Int} : ∀ (rows : List (Hsh × List Opt)) (ps : List Pth) (of : List Mde) (n : Int), (fromB own fuel rows ps of n).1.row.length ≤ rows.length
  | [], _, _, _ => Nat.zero_le _
  | (_, os) :: rows, _, _, n => tryB_len (fun ps of n => fromB_len rows ps of n) os 0 n
theorem least_len {c : CaseP} (hc : c.size ≤ 120) (f : Int) : (leastB c f).1.length ≤ 1000000 := by
  have h := (CaseP.bounds hc).2.2.2.2.2.1
  unfold leastB
  split
  · exact Nat.zero_le _
  · split
    · exact Nat.zero_le _
    · split
      · have := fromB_len (own := c.own) (fuel := max f 0) (c.cls.zip c.opts) c.fixed c.of 0
        rw [List.length_zip] at this
        dsimp only
        omega
      · exact Nat.zero_le _
set_option maxHeartbeats 8000000 in
theorem pickFuel_any (w : World) (v : Cvs) (c : CaseP) (hl : LightC c) (hC : CaseAt w.heap.size w v c) (f : Int) (hf9 : -9223372036854775808 ≤ f ∧ f ≤ 9223372036854775807) :
    Calls Try.prog 7 #[.agg (caseC v).toArray, .int .i64 f] w fun e w' => e = .returned (.bool true) ∧ Below w.heap.size w w' := by
  have ho : okH v.own := by rw [hC.own]; exact hC.okO
  have hsz0 := csz ho
  obtain ⟨w1, hw1⟩ : ∃ w1, w1 = w.alloc (.cells (caseC v).toArray 29) := ⟨_, rfl⟩
  have hb1 : Below w.heap.size w w1 := by rw [hw1]; exact (Below.refl _ w).alloc (Nat.le_refl _) _
  have hk1 : Blk w1 w.heap.size 29 (caseC v).toArray := by rw [hw1]; exact Blk.new _ _ _
  have HC1 := hide (And.intro (show CaseAt w1.heap.size w1 v c from (hC.alike hb1.block).widen hb1.size) (And.intro hk1 hb1))
  have HW1 := hide hw1
  clear hb1 hk1 hC hw1
  go_enter Try.func7, Try.ntmps7
  go_wp2_with fail
  rw [← HW1.out]
  refine (awake24_any w1).mono ?_
  rintro e w2 ⟨rfl, hb⟩
  have HC2 := hide (And.intro (show CaseAt w2.heap.size w2 v c from (HC1.out.1.alike hb.block).widen hb.size) (And.intro (show Blk w2 w.heap.size 29 (caseC v).toArray from HC1.out.2.1.below hb HC1.out.2.1.lt) (show Below w.heap.size w w2 from HC1.out.2.2.trans (Below.mono hb HC1.out.2.2.size))))
  clear hb
  dsimp only
  go_wp2_with (refine wpList_value (o := ⟨some 21, _, _, _, _, _⟩) rfl (.agg (caseC v).toArray) w2 (exec_load_blk (o := ⟨some 21, _, _, _, _, _⟩) 29 (.tmp 2) rfl w.heap.size rfl 29 _ _ w2 HC2.out.2.1 Try.underlying29 rfl hsz0) ?_)
  refine (great_any w2 v c hl HC2.out.1).mono ?_
  rintro e w3 ⟨rfl, hb⟩
  have HC3 := hide (And.intro (show CaseAt w3.heap.size w3 v c from (HC2.out.1.alike hb.block).widen hb.size) (And.intro (show Blk w3 w.heap.size 29 (caseC v).toArray from HC2.out.2.1.below hb HC2.out.2.1.lt) (show Below w.heap.size w w3 from HC2.out.2.2.trans (Below.mono hb HC2.out.2.2.size))))
  clear hb
  dsimp only
  by_cases hg : 120 < c.size
  · have hd : decide (120 < c.size) = true := decide_eq_true hg
    rw [hd]
    go_wp2_with fail
    go_ret
    exact ⟨rfl, HC3.out.2.2⟩
  · have hd : decide (120 < c.size) = false := decide_eq_false hg
    rw [hd]
    have hc : c.size ≤ 120 := by omega
    clear hd hg
    go_wp2_with (refine wpList_value (o := ⟨some 24, _, _, _, _, _⟩) rfl (.agg (caseC v).toArray) w3 (exec_load_blk (o := ⟨some 24, _, _, _, _, _⟩) 29 (.tmp 2) rfl w.heap.size rfl 29 _ _ w3 HC3.out.2.1 Try.underlying29 rfl hsz0) ?_)
    refine (choices_any w3 v c hc HC3.out.1).mono ?_
    rintro e w4 ⟨⟨u25, b25, rfl, hno, hyes⟩, hb⟩
    have HC4 := hide (And.intro (show CaseAt w4.heap.size w4 v c from (HC3.out.1.alike hb.block).widen hb.size) (And.intro (show Blk w4 w.heap.size 29 (caseC v).toArray from HC3.out.2.1.below hb HC3.out.2.1.lt) (show Below w.heap.size w w4 from HC3.out.2.2.trans (Below.mono hb HC3.out.2.2.size))))
    clear hb
    dsimp only
    cases hch : choicesP c.opts [[]] with
    | none =>
      have hbn := hno hch
      subst hbn
      clear hno hyes hch
      go_wp2_with fail
      go_ret
      exact ⟨rfl, HC4.out.2.2⟩
    | some all =>
      obtain ⟨hbt, _⟩ := hyes all hch
      subst hbt
      obtain ⟨q1, q2, q3, q4⟩ := fuel_law hc hch
      clear hno hyes hch
      obtain ⟨R, hR⟩ : ∃ R, R = leastB c 1048576 := ⟨_, rfl⟩
      rw [← hR] at q1 q2 q3 q4
      obtain ⟨L, N, E⟩ := R
      dsimp only at q1 q2 q3 q4
      obtain ⟨n0, n9⟩ := q2
      have HQ := hide (And.intro hR (And.intro q3 q4))
      clear hR q3 q4
      go_wp2_with (refine wpList_value (o := ⟨some 31, _, _, _, _, _⟩) rfl (.agg (caseC v).toArray) w4 (exec_load_blk (o := ⟨some 31, _, _, _, _, _⟩) 29 (.tmp 2) rfl w.heap.size rfl 29 _ _ w4 HC4.out.2.1 Try.underlying29 rfl hsz0) ?_)
      refine (least_any w4 v c hc HC4.out.1 1048576 (by omega)).mono ?_
      rintro e w5 ⟨u31, rfl, ho31, hb⟩
      have HC5 := hide (And.intro (show CaseAt w5.heap.size w5 v c from (HC4.out.1.alike hb.block).widen hb.size) (And.intro (show Blk w5 w.heap.size 29 (caseC v).toArray from HC4.out.2.1.below hb HC4.out.2.1.lt) (show Below w.heap.size w w5 from HC4.out.2.2.trans (Below.mono hb HC4.out.2.2.size))))
      rw [← HQ.out.1] at ho31 ⊢
      have HO31 := hide (show OwnI _ w5 u31 L from ho31)
      clear ho31 hb
      dsimp only
      have hL9 : L.length ≤ 1000000 := by
        have h := (congrArg (fun r => r.1) HQ.out.1 : L = (leastB c 1048576).1)
        rw [h]
        exact least_len hc 1048576
      by_cases hm : N ≤ max f 0
      · have hf := HQ.out.2.1 f hm
        have HF := hide hf
        clear hf hm
        go_wp2_with (refine wpList_value (o := ⟨some 37, _, _, _, _, _⟩) rfl (.agg (caseC v).toArray) w5 (exec_load_blk (o := ⟨some 37, _, _, _, _, _⟩) 29 (.tmp 2) rfl w.heap.size rfl 29 _ _ w5 HC5.out.2.1 Try.underlying29 rfl hsz0) ?_)
        refine (least_any w5 v c hc HC5.out.1 f (by omega)).mono ?_
        rintro e w6 ⟨u37, rfl, ho37, hb⟩
        have HC6 := hide (And.intro (show CaseAt w6.heap.size w6 v c from (HC5.out.1.alike hb.block).widen hb.size) (And.intro (show Blk w6 w.heap.size 29 (caseC v).toArray from HC5.out.2.1.below hb HC5.out.2.1.lt) (show Below w.heap.size w w6 from HC5.out.2.2.trans (Below.mono hb HC5.out.2.2.size))))
        rw [HF.out] at ho37 ⊢
        dsimp only at ho37 ⊢
        have HO37 := hide (And.intro (show OwnI _ w6 u37 L from ho37) (show OwnI _ w6 u31 L from owned_keepN HO31.out fun g _ hl => hb.block g hl))
        clear ho37 hb
        go_wp2_with (refine wpList_value (o := ⟨some 44, _, _, _, _, _⟩) rfl (.agg (caseC v).toArray) w6 (exec_load_blk (o := ⟨some 44, _, _, _, _, _⟩) 29 (.tmp 2) rfl w.heap.size rfl 29 _ _ w6 HC6.out.2.1 Try.underlying29 rfl hsz0) ?_)
        refine (least_any w6 v c hc HC6.out.1 N (by omega)).mono ?_
        rintro e w7 ⟨u44, rfl, ho44, hb⟩
        have HC7 := hide (And.intro (show CaseAt w7.heap.size w7 v c from (HC6.out.1.alike hb.block).widen hb.size) (And.intro (show Blk w7 w.heap.size 29 (caseC v).toArray from HC6.out.2.1.below hb HC6.out.2.1.lt) (show Below w.heap.size w w7 from HC6.out.2.2.trans (Below.mono hb HC6.out.2.2.size))))
        have e44 := HQ.out.2.1 N (by omega)
        rw [e44] at ho44 ⊢
        clear e44
        dsimp only at ho44 ⊢
        have HO44 := hide (And.intro (show OwnI _ w7 u44 L from ho44) (And.intro (show OwnI _ w7 u37 L from owned_keepN HO37.out.1 fun g _ hl => hb.block g hl) (show OwnI _ w7 u31 L from owned_keepN HO37.out.2 fun g _ hl => hb.block g hl)))
        clear ho44 hb
        go_wp2_with fail
        refine (sameInts_any (L.map fun k => ((k : Nat) : Int)) (L.map fun k => ((k : Nat) : Int)) (by rw [List.length_map]; exact hL9) (by rw [List.length_map]; exact hL9) u31 u37 w7 (OwnI.ints HO44.out.2.2) (OwnI.ints HO44.out.2.1)).mono ?_
        rintro e w8 ⟨rfl, hb⟩
        rw [decide_eq_true rfl]
        have HC8 := hide (And.intro (show CaseAt w8.heap.size w8 v c from (HC7.out.1.alike hb.block).widen hb.size) (And.intro (show Blk w8 w.heap.size 29 (caseC v).toArray from HC7.out.2.1.below hb HC7.out.2.1.lt) (show Below w.heap.size w w8 from HC7.out.2.2.trans (Below.mono hb HC7.out.2.2.size))))
        have HOt := hide (And.intro (show OwnI _ w8 u44 L from owned_keepN HO44.out.1 fun g _ hl => hb.block g hl) (show OwnI _ w8 u31 L from owned_keepN HO44.out.2.2 fun g _ hl => hb.block g hl))
        clear hb
        dsimp only
        by_cases hn0 : 0 < N
        · go_wp2_with (refine wpList_value (o := ⟨some 91, _, _, _, _, _⟩) rfl (.agg (caseC v).toArray) w8 (exec_load_blk (o := ⟨some 91, _, _, _, _, _⟩) 29 (.tmp 2) rfl w.heap.size rfl 29 _ _ w8 HC8.out.2.1 Try.underlying29 rfl hsz0) ?_)
          refine (least_any w8 v c hc HC8.out.1 (N - 1) (by omega)).mono ?_
          rintro e w9 ⟨u94, rfl, _, hb⟩
          have HC9 := hide (And.intro (show CaseAt w9.heap.size w9 v c from (HC8.out.1.alike hb.block).widen hb.size) (And.intro (show Blk w9 w.heap.size 29 (caseC v).toArray from HC8.out.2.1.below hb HC8.out.2.1.lt) (show Below w.heap.size w w9 from HC8.out.2.2.trans (Below.mono hb HC8.out.2.2.size))))
          have e94 := HQ.out.2.2 (N - 1) (by omega)
          rw [e94]
          have HO9 := hide (And.intro (show OwnI _ w9 u44 L from owned_keepN HOt.out.1 fun g _ hl => hb.block g hl) (show OwnI _ w9 u31 L from owned_keepN HOt.out.2 fun g _ hl => hb.block g hl))
          clear e94 hb
          dsimp only
          go_wp2_with fail
          refine (sameInts_any (L.map fun k => ((k : Nat) : Int)) (L.map fun k => ((k : Nat) : Int)) (by rw [List.length_map]; exact hL9) (by rw [List.length_map]; exact hL9) u44 u31 w9 (OwnI.ints HO9.out.1) (OwnI.ints HO9.out.2)).mono ?_
          rintro e w10 ⟨rfl, hb⟩
          rw [decide_eq_true rfl]
          have HE := hide (show Below w.heap.size w w10 from HC9.out.2.2.trans (Below.mono hb HC9.out.2.2.size))
          clear hb
          dsimp only
          go_wp2_with fail
          go_ret
          exact ⟨by show Ending.returned (Value.bool (E != 11)) = _; rw [bne_iff_ne.2 q1], HE.out⟩
        · go_wp2_with fail
          refine (sameInts_any (L.map fun k => ((k : Nat) : Int)) (L.map fun k => ((k : Nat) : Int)) (by rw [List.length_map]; exact hL9) (by rw [List.length_map]; exact hL9) u44 u31 w8 (OwnI.ints HOt.out.1) (OwnI.ints HOt.out.2)).mono ?_
          rintro e w10 ⟨rfl, hb⟩
          rw [decide_eq_true rfl]
          have HE := hide (show Below w.heap.size w w10 from HC8.out.2.2.trans (Below.mono hb HC8.out.2.2.size))
          clear hb
          dsimp only
          go_wp2_with fail
          go_ret
          exact ⟨by show Ending.returned (Value.bool (E != 11)) = _; rw [bne_iff_ne.2 q1], HE.out⟩
      · by_cases hf0 : 0 ≤ f
        · have hf := HQ.out.2.2 f (by omega)
          rw [show max f 0 = f by omega] at hf
          have HF := hide hf
          clear hf
          go_wp2_with (refine wpList_value (o := ⟨some 37, _, _, _, _, _⟩) rfl (.agg (caseC v).toArray) w5 (exec_load_blk (o := ⟨some 37, _, _, _, _, _⟩) 29 (.tmp 2) rfl w.heap.size rfl 29 _ _ w5 HC5.out.2.1 Try.underlying29 rfl hsz0) ?_)
          refine (least_any w5 v c hc HC5.out.1 f (by omega)).mono ?_
          rintro e w6 ⟨u37, rfl, ho37, hb⟩
          have HC6 := hide (And.intro (show CaseAt w6.heap.size w6 v c from (HC5.out.1.alike hb.block).widen hb.size) (And.intro (show Blk w6 w.heap.size 29 (caseC v).toArray from HC5.out.2.1.below hb HC5.out.2.1.lt) (show Below w.heap.size w w6 from HC5.out.2.2.trans (Below.mono hb HC5.out.2.2.size))))
          rw [HF.out] at ho37 ⊢
          dsimp only at ho37 ⊢
          have HO37 := hide (And.intro (show OwnI _ w6 u37 [] from ho37) (show OwnI _ w6 u31 L from owned_keepN HO31.out fun g _ hl => hb.block g hl))
          clear ho37 hb
          go_wp2_with (refine wpList_value (o := ⟨some 44, _, _, _, _, _⟩) rfl (.agg (caseC v).toArray) w6 (exec_load_blk (o := ⟨some 44, _, _, _, _, _⟩) 29 (.tmp 2) rfl w.heap.size rfl 29 _ _ w6 HC6.out.2.1 Try.underlying29 rfl hsz0) ?_)
          refine (least_any w6 v c hc HC6.out.1 N (by omega)).mono ?_
          rintro e w7 ⟨u44, rfl, ho44, hb⟩
          have HC7 := hide (And.intro (show CaseAt w7.heap.size w7 v c from (HC6.out.1.alike hb.block).widen hb.size) (And.intro (show Blk w7 w.heap.size 29 (caseC v).toArray from HC6.out.2.1.below hb HC6.out.2.1.lt) (show Below w.heap.size w w7 from HC6.out.2.2.trans (Below.mono hb HC6.out.2.2.size))))
          have e44 := HQ.out.2.1 N (by omega)
          rw [e44] at ho44 ⊢
          clear e44
          dsimp only at ho44 ⊢
          have HO44 := hide (And.intro (show OwnI _ w7 u44 L from ho44) (And.intro (show OwnI _ w7 u37 [] from owned_keepN HO37.out.1 fun g _ hl => hb.block g hl) (show OwnI _ w7 u31 L from owned_keepN HO37.out.2 fun g _ hl => hb.block g hl)))
          clear ho44 hb
          obtain ⟨A37, c37, rfl⟩ : ∃ A c, u37 = .slice A 0 c := by
            rcases owned_formN HO44.out.2.1 with ⟨e, _⟩ | ⟨g, cap, cur, e, _⟩
            · exact ⟨_, _, e⟩
            · exact ⟨_, _, e⟩
          have HOt := hide (And.intro HO44.out.1 HO44.out.2.2)
          have hn0 : 0 < N := by omega
          · go_wp2_with (refine wpList_value (o := ⟨some 91, _, _, _, _, _⟩) rfl (.agg (caseC v).toArray) w7 (exec_load_blk (o := ⟨some 91, _, _, _, _, _⟩) 29 (.tmp 2) rfl w.heap.size rfl 29 _ _ w7 HC7.out.2.1 Try.underlying29 rfl hsz0) ?_)
            refine (least_any w7 v c hc HC7.out.1 (N - 1) (by omega)).mono ?_
            rintro e w9 ⟨u94, rfl, _, hb⟩
            have HC9 := hide (And.intro (show CaseAt w9.heap.size w9 v c from (HC7.out.1.alike hb.block).widen hb.size) (And.intro (show Blk w9 w.heap.size 29 (caseC v).toArray from HC7.out.2.1.below hb HC7.out.2.1.lt) (show Below w.heap.size w w9 from HC7.out.2.2.trans (Below.mono hb HC7.out.2.2.size))))
            have e94 := HQ.out.2.2 (N - 1) (by omega)
            rw [e94]
            have HO9 := hide (And.intro (show OwnI _ w9 u44 L from owned_keepN HOt.out.1 fun g _ hl => hb.block g hl) (show OwnI _ w9 u31 L from owned_keepN HOt.out.2 fun g _ hl => hb.block g hl))
            clear e94 hb
            dsimp only
            go_wp2_with fail
            refine (sameInts_any (L.map fun k => ((k : Nat) : Int)) (L.map fun k => ((k : Nat) : Int)) (by rw [List.length_map]; exact hL9) (by rw [List.length_map]; exact hL9) u44 u31 w9 (OwnI.ints HO9.out.1) (OwnI.ints HO9.out.2)).mono ?_
            rintro e w10 ⟨rfl, hb⟩
            rw [decide_eq_true rfl]
            have HE := hide (show Below w.heap.size w w10 from HC9.out.2.2.trans (Below.mono hb HC9.out.2.2.size))
            clear hb
            dsimp only
            go_wp2_with fail
            go_ret
            exact ⟨by show Ending.returned (Value.bool (E != 11)) = _; rw [bne_iff_ne.2 q1], HE.out⟩
        · have hf := HQ.out.2.2 f (by omega)
          rw [show max f 0 = 0 by omega] at hf
          have HF := hide hf
          clear hf
          go_wp2_with (refine wpList_value (o := ⟨some 37, _, _, _, _, _⟩) rfl (.agg (caseC v).toArray) w5 (exec_load_blk (o := ⟨some 37, _, _, _, _, _⟩) 29 (.tmp 2) rfl w.heap.size rfl 29 _ _ w5 HC5.out.2.1 Try.underlying29 rfl hsz0) ?_)
          refine (least_any w5 v c hc HC5.out.1 f (by omega)).mono ?_
          rintro e w6 ⟨u37, rfl, ho37, hb⟩
          have HC6 := hide (And.intro (show CaseAt w6.heap.size w6 v c from (HC5.out.1.alike hb.block).widen hb.size) (And.intro (show Blk w6 w.heap.size 29 (caseC v).toArray from HC5.out.2.1.below hb HC5.out.2.1.lt) (show Below w.heap.size w w6 from HC5.out.2.2.trans (Below.mono hb HC5.out.2.2.size))))
          rw [HF.out] at ho37 ⊢
          dsimp only at ho37 ⊢
          have HO37 := hide (And.intro (show OwnI _ w6 u37 [] from ho37) (show OwnI _ w6 u31 L from owned_keepN HO31.out fun g _ hl => hb.block g hl))
          clear ho37 hb
          go_wp2_with (refine wpList_value (o := ⟨some 44, _, _, _, _, _⟩) rfl (.agg (caseC v).toArray) w6 (exec_load_blk (o := ⟨some 44, _, _, _, _, _⟩) 29 (.tmp 2) rfl w.heap.size rfl 29 _ _ w6 HC6.out.2.1 Try.underlying29 rfl hsz0) ?_)
          refine (least_any w6 v c hc HC6.out.1 N (by omega)).mono ?_
          rintro e w7 ⟨u44, rfl, ho44, hb⟩
          have HC7 := hide (And.intro (show CaseAt w7.heap.size w7 v c from (HC6.out.1.alike hb.block).widen hb.size) (And.intro (show Blk w7 w.heap.size 29 (caseC v).toArray from HC6.out.2.1.below hb HC6.out.2.1.lt) (show Below w.heap.size w w7 from HC6.out.2.2.trans (Below.mono hb HC6.out.2.2.size))))
          have e44 := HQ.out.2.1 N (by omega)
          rw [e44] at ho44 ⊢
          clear e44
          dsimp only at ho44 ⊢
          have HO44 := hide (And.intro (show OwnI _ w7 u44 L from ho44) (And.intro (show OwnI _ w7 u37 [] from owned_keepN HO37.out.1 fun g _ hl => hb.block g hl) (show OwnI _ w7 u31 L from owned_keepN HO37.out.2 fun g _ hl => hb.block g hl)))
          clear ho44 hb
          obtain ⟨A37, c37, rfl⟩ : ∃ A c, u37 = .slice A 0 c := by
            rcases owned_formN HO44.out.2.1 with ⟨e, _⟩ | ⟨g, cap, cur, e, _⟩
            · exact ⟨_, _, e⟩
            · exact ⟨_, _, e⟩
          have HOt := hide (And.intro HO44.out.1 HO44.out.2.2)
          have hn0 : 0 < N := by omega
          · go_wp2_with (refine wpList_value (o := ⟨some 91, _, _, _, _, _⟩) rfl (.agg (caseC v).toArray) w7 (exec_load_blk (o := ⟨some 91, _, _, _, _, _⟩) 29 (.tmp 2) rfl w.heap.size rfl 29 _ _ w7 HC7.out.2.1 Try.underlying29 rfl hsz0) ?_)
            refine (least_any w7 v c hc HC7.out.1 (N - 1) (by omega)).mono ?_
            rintro e w9 ⟨u94, rfl, _, hb⟩
            have HC9 := hide (And.intro (show CaseAt w9.heap.size w9 v c from (HC7.out.1.alike hb.block).widen hb.size) (And.intro (show Blk w9 w.heap.size 29 (caseC v).toArray from HC7.out.2.1.below hb HC7.out.2.1.lt) (show Below w.heap.size w w9 from HC7.out.2.2.trans (Below.mono hb HC7.out.2.2.size))))
            have e94 := HQ.out.2.2 (N - 1) (by omega)
            rw [e94]
            have HO9 := hide (And.intro (show OwnI _ w9 u44 L from owned_keepN HOt.out.1 fun g _ hl => hb.block g hl) (show OwnI _ w9 u31 L from owned_keepN HOt.out.2 fun g _ hl => hb.block g hl))
            clear e94 hb
            dsimp only
            go_wp2_with fail
            refine (sameInts_any (L.map fun k => ((k : Nat) : Int)) (L.map fun k => ((k : Nat) : Int)) (by rw [List.length_map]; exact hL9) (by rw [List.length_map]; exact hL9) u44 u31 w9 (OwnI.ints HO9.out.1) (OwnI.ints HO9.out.2)).mono ?_
            rintro e w10 ⟨rfl, hb⟩
            rw [decide_eq_true rfl]
            have HE := hide (show Below w.heap.size w w10 from HC9.out.2.2.trans (Below.mono hb HC9.out.2.2.size))
            clear hb
            dsimp only
            go_wp2_with fail
            go_ret
            exact ⟨by show Ending.returned (Value.bool (E != 11)) = _; rw [bne_iff_ne.2 q1], HE.out⟩
end Go.Proofs.Ytfppddnfdinipaa
end
section
namespace Go.Proofs.Ytfppddnfdinipaa
open Go Go.ChangeShapes Go.WideShapes Go.ChangeAt Go.RowKit
theorem Try.ownPF : ownKnob Try.prog.godebug = none := by kernel_rfl
set_option maxRecDepth 100000
theorem open_case {H : Type} {enc : TypeId × Value → H} {w : World} {r : Reach} {b0 : Nat} {hd : Bool} {u : Value} {d : DataW H} {ps : List MemPlace}
    (hval : Value.okWide Try.prog w r b0 29 u) (h : DataW.Trod enc Try.prog w 0 (fun _ => true) hd 29 u d ps) (hsz : ∀ n ∈ d.weights Try.prog 29, n ≤ reachBytes) :
    ∃ (v : Cvs) (c : CaseP), u = .agg (caseC v).toArray ∧ CaseAt w.heap.size w v c ∧ LightC c := by
  obtain ⟨cs, rfl, _⟩ := okWide_struct Try.underlying29 hval
  obtain ⟨fuel, hf⟩ := h
  obtain ⟨c, hc, hk⟩ := caseLay_opensW.op hf
  obtain ⟨v, e, hat⟩ := caseLay_at hc
  refine ⟨v, c, ?_, hat, hk hsz⟩
  congr 1
  rw [← e]
  rfl
theorem pickFuel_lifted (os : Os) (started : os.Started) (H : Type) (enc : TypeId × Value → H) :
    ReturnsInHanded {} Try.checked os 7 .any (Rows.pickFuelSpec.pre6 enc Try.prog Try.f7 Rows.pickFuelRow.domain false) (Rows.pickFuelSpec.post enc Try.prog Try.f7 false true false false) := by
  refine returnsInHanded_of_change_sized (C := Try.checked) Try.ownPF started (by kernel_rfl) Try.func7
    (ChangeSpec.witness6 (enc := enc) (C := Try.checked) false ⟨#[], #[.agg zcC, .int .i64 0], []⟩ 8 (by kernel_rfl) (by kernel_rfl) (by kernel_rfl) (by kernel_rfl)) ?_
  intro W base args ds gs before hval0 hW _ hsz0 _
  have hval : ∀ (j : Nat) t v, Try.f7.params[j]? = some t → args[j]? = some v → Value.okWide Try.prog W .any base t v := hval0
  have hsz : (DataW.weightsEach Try.prog (Try.f7.params.toList ++ []) (ds ++ gs)).all (· ≤ reachBytes) = true := hsz0
  have hW' := hW
  obtain ⟨p, q, hA0, hV, rfl, hfz, hnd⟩ := hW
  have hA : DataW.TrodAll enc Try.prog W 0 (fun _ => true) true Try.f7.params.toList args.toList ds p := hA0
  rw [Try.params7] at hA hval hsz
  obtain ⟨v0, v1, d0, d1, p0, p1, rfl, rfl, rfl, h0, h1⟩ := trodAll_two hA
  obtain ⟨rfl, rfl⟩ := trodVars_none hV
  have hs0 : ∀ n ∈ d0.weights Try.prog 29, n ≤ reachBytes := fun n hn => by
    have h := List.all_eq_true.1 hsz n (DataW.weights_mem_each (j := 0) (t := 29) (d := d0) rfl rfl n hn)
    simpa using h
  obtain ⟨v, c, rfl, hat, hl⟩ := open_case (hval 0 29 v0 rfl rfl) h0 hs0
  obtain ⟨f, rfl, hf⟩ : ∃ f : Int, v1 = .int .i64 f ∧ -9223372036854775808 ≤ f ∧ f ≤ 9223372036854775807 := by
    obtain ⟨z, rfl⟩ := okWide_int Try.underlying3 (hval 1 3 v1 rfl rfl)
    obtain ⟨fu, hfu⟩ := h1
    obtain ⟨z', e, _, hw⟩ := DataW.trod_int Try.underlying3 hfu
    simp [Value.cells] at e
    subst e
    refine ⟨_, rfl, ?_⟩
    simp [Lit.wf, IntKind.min, IntKind.max, IntKind.signed, IntKind.bits] at hw
    omega
  have fin : ∀ e W', e = Ending.returned (.bool true) ∧ Below W.heap.size W W' → ∃ x, e = .returned x ∧ Rows.pickFuelSpec.post enc Try.prog Try.f7 false true false false W #[.agg (caseC v).toArray, .int .i64 f] x W' := by
    rintro e W' ⟨rfl, hb⟩
    exact ⟨_, rfl, law_end laidOut hW' rfl rfl (by kernel_rfl) Try.underlying4 (by kernel_rfl) hb⟩
  exact (pickFuel_any W v c hl hat f hf).mono fin
theorem pickFuel_holds : Rows.PickFuelSaid :=
  OpenClaim.holds_of_wide 7 Try.f7 rfl rfl rfl rfl rfl rfl rfl ⟨rfl, rfl, rfl, rfl, rfl⟩ rfl rfl rfl rfl rfl (by kernel_rfl) Try.func7 (by kernel_rfl)
    (of_decide_eq_true (by kernel_rfl)) (by unfold Func.isWrapper; first | (rw [if_pos (by decide +kernel)]; kernel_rfl) | (rw [if_neg (by decide +kernel)]; exact ⟨rfl, rfl⟩))
    (fun os started H enc _ => pickFuel_lifted os started H enc)
#print axioms pickFuel_holds
end Go.Proofs.Ytfppddnfdinipaa
end
section
namespace Go.Proofs.Ytfppddnfdinipaa
open Go Go.RowKit Go.Maps
set_option maxRecDepth 100000
theorem find_at {p : List Nat → Bool} : ∀ {all : List (List Nat)} {b : Nat} {l : List Nat}, all[b]? = some l → p l = true → (∀ (j : Nat) x, j < b → all[j]? = some x → p x = false) → all.find? p = some l
  | [], b, l, h, _, _ => by simp at h
  | x :: xs, 0, l, h, hp, _ => by
    simp only [List.getElem?_cons_zero, Option.some.injEq] at h
    subst h
    rw [List.find?_cons, hp]
  | x :: xs, b + 1, l, h, hp, hno => by
    rw [List.find?_cons, hno 0 x (by omega) rfl]
    exact find_at (by simpa using h) hp fun j y hj hy => hno (j + 1) y (by omega) (by simpa using hy)
theorem all_len : ∀ {opts : List (List Opt)} {all : List (List Nat)}, choicesP opts [[]] = some all → all.length ≤ 300 := by
  have key : ∀ (opts : List (List Opt)) (out all : List (List Nat)), out.length ≤ 300 → choicesP opts out = some all → all.length ≤ 300 := by
    intro opts
    induction opts with
    | nil =>
      intro out all h1 h2
      injection h2 with h2
      subst h2
      exact h1
    | cons os r ih =>
      intro out all h1 h2
      unfold choicesP at h2
      split at h2
      · cases h2
      · exact ih _ all (by omega) h2
  exact fun {opts all} h => key opts _ all (by decide) h
set_option maxHeartbeats 8000000 in
theorem pickBest_any (w : World) (v : Cvs) (c : CaseP) (hl : LightC c) (hC : CaseAt w.heap.size w v c) :
    Calls Try.prog 6 #[.agg (caseC v).toArray] w fun e w' => e = .returned (.bool true) ∧ Below w.heap.size w w' := by
  have ho : okH v.own := by rw [hC.own]; exact hC.okO
  have hsz0 := csz ho
  obtain ⟨w1, hw1⟩ : ∃ w1, w1 = w.alloc (.cells (caseC v).toArray 29) := ⟨_, rfl⟩
  have hb1 : Below w.heap.size w w1 := by rw [hw1]; exact (Below.refl _ w).alloc (Nat.le_refl _) _
  have hk1 : Blk w1 w.heap.size 29 (caseC v).toArray := by rw [hw1]; exact Blk.new _ _ _
  have HC1 := hide (And.intro (show CaseAt w1.heap.size w1 v c from (hC.alike hb1.block).widen hb1.size) (And.intro hk1 hb1))
  have HW1 := hide hw1
  clear hb1 hk1 hC hw1
  go_enter Try.func6, Try.ntmps6
  go_wp2_with fail
  rw [← HW1.out]
  refine (awake24_any w1).mono ?_
  rintro e w2 ⟨rfl, hb⟩
  have HC2 := hide (And.intro (show CaseAt w2.heap.size w2 v c from (HC1.out.1.alike hb.block).widen hb.size) (And.intro (show Blk w2 w.heap.size 29 (caseC v).toArray from HC1.out.2.1.below hb HC1.out.2.1.lt) (show Below w.heap.size w w2 from HC1.out.2.2.trans (Below.mono hb HC1.out.2.2.size))))
  clear hb
  dsimp only
  go_wp2_with (refine wpList_value (o := ⟨some 13, _, _, _, _, _⟩) rfl (.agg (caseC v).toArray) w2 (exec_load_blk (o := ⟨some 13, _, _, _, _, _⟩) 29 (.tmp 1) rfl w.heap.size rfl 29 _ _ w2 HC2.out.2.1 Try.underlying29 rfl hsz0) ?_)
  refine (great_any w2 v c hl HC2.out.1).mono ?_
  rintro e w3 ⟨rfl, hb⟩
  have HC3 := hide (And.intro (show CaseAt w3.heap.size w3 v c from (HC2.out.1.alike hb.block).widen hb.size) (And.intro (show Blk w3 w.heap.size 29 (caseC v).toArray from HC2.out.2.1.below hb HC2.out.2.1.lt) (show Below w.heap.size w w3 from HC2.out.2.2.trans (Below.mono hb HC2.out.2.2.size))))
  clear hb
  dsimp only
  by_cases hg : 120 < c.size
  · have hd : decide (120 < c.size) = true := decide_eq_true hg
    rw [hd]
    go_wp2_with fail
    go_ret
    exact ⟨rfl, HC3.out.2.2⟩
  · have hd : decide (120 < c.size) = false := decide_eq_false hg
    rw [hd]
    have hc : c.size ≤ 120 := by omega
    clear hd hg
    obtain ⟨b1, b2, b3, b4, b5, b6, b7⟩ := CaseP.bounds hc
    have o9 : (c.opts.length : Int) ≤ 120 := by omega
    have k9 : (c.cls.length : Int) ≤ 120 := by omega
    obtain ⟨Ao, capo, hvo, _, _, _, _⟩ := slice_open HC3.out.1.atO
    obtain ⟨Ac, capc, hvc, _, _, _, _⟩ := slice_open HC3.out.1.atC
    have hcells := case_cells ho HC3.out.2.1
    rw [hvo, hvc] at hcells
    obtain ⟨_, c21, c22, _⟩ := hcells
    clear hvo hvc
    by_cases hne : c.opts.length = c.cls.length
    · rw [← hne] at c21
      have HNE := hide hne
      clear hne
      go_wp2_with (refine wpList_value (o := ⟨some 25, _, _, _, _, _⟩) rfl (.agg (caseC v).toArray) w3 (exec_load_blk (o := ⟨some 25, _, _, _, _, _⟩) 29 (.tmp 1) rfl w.heap.size rfl 29 _ _ w3 HC3.out.2.1 Try.underlying29 rfl hsz0) ?_)
      refine (choices_any w3 v c hc HC3.out.1).mono ?_
      rintro e w4 ⟨⟨u26, b26, rfl, hno, hyes⟩, hb⟩
      have HC4 := hide (And.intro (show CaseAt w4.heap.size w4 v c from (HC3.out.1.alike hb.block).widen hb.size) (And.intro (show Blk w4 w.heap.size 29 (caseC v).toArray from HC3.out.2.1.below hb HC3.out.2.1.lt) (show Below w.heap.size w w4 from HC3.out.2.2.trans (Below.mono hb HC3.out.2.2.size))))
      clear hb c21 c22
      dsimp only
      cases hch : choicesP c.opts [[]] with
      | none =>
        have hbn := hno hch
        subst hbn
        clear hno hyes hch
        go_wp2_with fail
        go_ret
        exact ⟨rfl, HC4.out.2.2⟩
      | some all =>
        obtain ⟨hbt, hrows⟩ := hyes all hch
        subst hbt
        obtain ⟨q1, q2⟩ := best_law hc HNE.out hch
        have hall := (allC_choices hch).1
        have hin : ∀ l ∈ all, l.length = c.opts.length ∧ ∀ (i : Nat) os k, c.opts[i]? = some os → l[i]? = some k → k < os.length := fun l hl => allC_in c.opts l (by rw [← hall]; exact hl)
        obtain ⟨_, ⟨n0, n9⟩, _, _⟩ := fuel_law hc hch
        have hall9 := all_len hch
        clear hno hyes hch hall
        obtain ⟨R, hR⟩ : ∃ R, R = leastB c 1048576 := ⟨_, rfl⟩
        have hL9 : R.1.length ≤ 1000000 := by rw [hR]; exact least_len hc _
        rw [← hR] at q1 q2 n0 n9
        have HQ := hide (And.intro hR (And.intro q1 (And.intro q2 hin)))
        clear q1 q2 hin
        go_wp2_with (refine wpList_value (o := ⟨some 32, _, _, _, _, _⟩) rfl (.agg (caseC v).toArray) w4 (exec_load_blk (o := ⟨some 32, _, _, _, _, _⟩) 29 (.tmp 1) rfl w.heap.size rfl 29 _ _ w4 HC4.out.2.1 Try.underlying29 rfl hsz0) ?_)
        refine (least_any w4 v c hc HC4.out.1 1048576 (by omega)).mono ?_
        rintro e w5 ⟨u33, rfl, ho33, hb⟩
        have HC5 := hide (And.intro (show CaseAt w5.heap.size w5 v c from (HC4.out.1.alike hb.block).widen hb.size) (And.intro (show Blk w5 w.heap.size 29 (caseC v).toArray from HC4.out.2.1.below hb HC4.out.2.1.lt) (show Below w.heap.size w w5 from HC4.out.2.2.trans (Below.mono hb HC4.out.2.2.size))))
        rw [← hR] at ho33 ⊢
        have HO := hide (And.intro (show OwnI _ w5 u33 R.1 from ho33) (show RowsI _ w5 u26 all from hrows.below hb))
        clear ho33 hrows hb hR
        dsimp only
        obtain ⟨Au, cu, rfl⟩ : ∃ A cap, u26 = .slice A all.length cap := by
          obtain ⟨us, _, h2, _⟩ := HO.out.2
          rcases owned_formN h2 with ⟨e, h0, _⟩ | ⟨g, cap, cur, e, _⟩
          · exact ⟨none, 0, by rw [e, h0]⟩
          · exact ⟨_, _, e⟩
        obtain ⟨Al, cl, rfl⟩ : ∃ A cap, u33 = .slice A R.1.length cap := by
          rcases owned_formN HO.out.1 with ⟨e, h0, _⟩ | ⟨g, cap, cur, e, _⟩
          · exact ⟨none, 0, by rw [e, h0]⟩
          · exact ⟨_, _, e⟩
        obtain ⟨RL, RN, RE⟩ := R
        dsimp only at n0 n9 hL9 ⊢
        have a9 : (all.length : Int) ≤ 300 := by omega
        by_cases hz : all = []
        · have hq := HQ.out.2.1 hz
          injection hq with e1 e2
          injection e2 with e2 e3
          subst e1 e2 e3
          subst hz
          have hlz : (([] : List (List Nat)).length : Int) = 0 := rfl
          have hlz2 : (([] : List Nat).length : Int) = 0 := rfl
          go_wp2_with fail
          go_ret
          exact ⟨rfl, HC5.out.2.2⟩
        · have hq := HQ.out.2.2.1 hz
          have hap : 0 < all.length := by cases all with | nil => exact absurd rfl hz | cons x xs => exact Nat.succ_pos _
          have hai : ¬ (all.length : Int) = 0 := by omega
          have HZ := hide hq
          clear hq hz
          obtain ⟨P, hP⟩ : ∃ P : List Nat → Bool, P = clean1 c.own (c.cls.zip c.opts) c.fixed c.of := ⟨_, rfl⟩
          have HP := hide hP
          clear hP
          go_wp2_with fail
          go_loopw [8, 9] (fun bst x wr => ∃ i : Nat, i ≤ all.length ∧ x = .int .i64 ((i : Nat) : Int) ∧ Below w5.heap.size w5 wr ∧ ((bst = .int .i64 (-1) ∧ ∀ (j : Nat) l, j < i → all[j]? = some l → P l = false) ∨ ∃ b : Nat, bst = .int .i64 ((b : Nat) : Int) ∧ b < i ∧ (∃ l, all[b]? = some l ∧ P l = true) ∧ ∀ (j : Nat) l, j < b → all[j]? = some l → P l = false)) (fun _ x _ => all.length - (intOf x).toNat)
          case atStart => exact ⟨0, by omega, rfl, Below.refl _ _, .inl ⟨rfl, fun j l h => absurd h (by omega)⟩⟩
          case round =>
            obtain ⟨wo, rfl⟩ : ∃ wo, wo = wr := ⟨_, rfl⟩
            obtain ⟨i, hi, rfl, hbw, hbest⟩ := hrel
            have HCO := hide (And.intro (show CaseAt wo.heap.size wo v c from (HC5.out.1.alike hbw.block).widen hbw.size) (And.intro (show Blk wo w.heap.size 29 (caseC v).toArray from HC5.out.2.1.below hbw HC5.out.2.1.lt) (show Below w.heap.size w wo from HC5.out.2.2.trans (Below.mono hbw HC5.out.2.2.size))))
            have HR := hide (And.intro hbw hbest)
            clear hbw hbest
            have i0 : (0 : Int) ≤ (i : Int) := by omega
            by_cases hi2 : i < all.length
            · have i1 : (i : Int) < (all.length : Int) := by omega
              obtain ⟨l, hl'⟩ : ∃ l, all[i]? = some l := ⟨_, List.getElem?_eq_getElem hi2⟩
              obtain ⟨hln, hlin⟩ := HQ.out.2.2.2 l (List.mem_of_getElem? hl')
              obtain ⟨g, cap', A, cA, e, hgl, _, hgc, hgo⟩ := (HO.out.2.below HR.out.1).get hl'
              injection e with e1 _ e2
              subst e1 e2
              have HL := hide (And.intro hgc (And.intro (OwnI.ints hgo) (And.intro hl' (And.intro hlin (And.intro hln hgo)))))
              clear hgc hgo hl' hlin hgl
              have hfree := free_clean HNE.out HL.out.2.2.2.2.1 HL.out.2.2.2.1
              rw [← HP.out] at hfree
              have HFR := hide hfree
              clear hfree
              go_wp2_with fail
              refine Fre.wp_made (X := Blw) 6 [] (by kernel_rfl) (by kernel_rfl) (by simp) (by simp) (by simp) ?_
              simp only [List.take_succ_cons, List.take_zero, List.drop_succ_cons, List.drop_zero]
              refine Fre.made_val (.agg (caseC v).toArray) (by kernel_rfl) (by kernel_rfl) (by kernel_rfl) (fun W9 hW9 => exec_load_blk (o := ⟨some 57, _, _, _, _, _⟩) 29 (.tmp 1) rfl w.heap.size rfl 29 _ _ W9 (HCO.out.2.1.below (blw hW9) HCO.out.2.1.lt) Try.underlying29 rfl hsz0) ?_
              simp only [Act.put, List.setIfInBounds_toArray, List.set_cons_zero, List.set_cons_succ]
              refine Fre.made_val (.slice (some ⟨g, 0, none⟩) all.length cu) (by kernel_rfl) (by kernel_rfl) (by kernel_rfl) (fun _ _ => by kernel_rfl) ?_
              simp only [Act.put, List.setIfInBounds_toArray, List.set_cons_zero, List.set_cons_succ]
              refine Fre.made_val (.int .i64 (i : Int)) (by kernel_rfl) (by kernel_rfl) (by kernel_rfl) (fun _ _ => by kernel_rfl) ?_
              simp only [Act.put, List.setIfInBounds_toArray, List.set_cons_zero, List.set_cons_succ]
              refine Fre.made_val (.pointer (some ⟨g, 0 + (i : Int).toNat * 1, none⟩)) (by kernel_rfl) (by kernel_rfl) (by kernel_rfl) (fun W9 _ => exec_index_off (o := ⟨some 60, _, _, _, _, _⟩) 44 33 (.tmp 58) (.tmp 59) rfl g 0 all.length cu (i : Int) .i64 rfl rfl ⟨i0, i1⟩ 1 Try.underlying44 (by kernel_rfl) W9) ?_
              simp only [Act.put, List.setIfInBounds_toArray, List.set_cons_zero, List.set_cons_succ]
              rw [show 0 + (i : Int).toNat * 1 = i by omega]
              refine Fre.made_val (.slice A l.length cA) (by kernel_rfl) (by kernel_rfl) (by kernel_rfl) (fun W9 hW9 => exec_load_cell (o := ⟨some 61, _, _, _, _, _⟩) 33 (.tmp 60) rfl ⟨g, i, none⟩ rfl _ _ W9 Try.underlying33 rfl (by rw [World.cell?_of_block ((blw hW9).block g (World.block_lt_of_cell? wo _ HL.out.1))]; exact HL.out.1)) ?_
              simp only [Act.put, List.setIfInBounds_toArray, List.set_cons_zero, List.set_cons_succ]
              refine Fre.made_call (.bool (P l)) 27 #[.agg (caseC v).toArray, .slice A l.length cA] (by kernel_rfl) (by kernel_rfl) (by kernel_rfl) (fun W9 => by kernel_rfl) (fun W9 hW9 => (HP.out ▸ plain_any W9 v c hc ((HCO.out.1.alike (blw hW9).block).widen (blw hW9).size) HNE.out l HL.out.2.2.2.2.1 HL.out.2.2.2.1 _ ((HL.out.2.1.alike (blw hW9).block).widen (blw hW9).size)).mono fun e w' ⟨h1, h2⟩ => ⟨h1, h2⟩) ?_
              simp only [Act.put, List.setIfInBounds_toArray, List.set_cons_zero, List.set_cons_succ]
              show ∀ w', _ → _
              intro w7 hb
              simp only [Fre.ended]
              have hb : Below wo.heap.size wo w7 := hb
              have HC7 := hide (And.intro (show CaseAt w7.heap.size w7 v c from (HCO.out.1.alike hb.block).widen hb.size) (And.intro (show Blk w7 w.heap.size 29 (caseC v).toArray from HCO.out.2.1.below hb HCO.out.2.1.lt) (show Below w.heap.size w w7 from HCO.out.2.2.trans (Below.mono hb HCO.out.2.2.size))))
              have HL7 := hide (And.intro (show w7.cell? ⟨g, i, none⟩ = some (.slice A l.length cA) from (World.cell?_of_block (hb.block g (World.block_lt_of_cell? wo _ HL.out.1))).trans HL.out.1) (And.intro (show IntsAt w7 w7.heap.size (.slice A l.length cA) (l.map fun k => ((k : Nat) : Int)) from (HL.out.2.1.alike hb.block).widen hb.size) (HR.out.1.trans (Below.mono hb HR.out.1.size))))
              clear hb
              go_wp2_with fail
              refine Fre.wp_made (X := Blw) 7 [] (by kernel_rfl) (by kernel_rfl) (by simp) (by simp) (by simp) ?_
              simp only [List.take_succ_cons, List.take_zero, List.drop_succ_cons, List.drop_zero]
              refine Fre.made_val (.agg (caseC v).toArray) (by kernel_rfl) (by kernel_rfl) (by kernel_rfl) (fun W9 hW9 => exec_load_blk (o := ⟨some 63, _, _, _, _, _⟩) 29 (.tmp 1) rfl w.heap.size rfl 29 _ _ W9 (HC7.out.2.1.below (blw hW9) HC7.out.2.1.lt) Try.underlying29 rfl hsz0) ?_
              simp only [Act.put, List.setIfInBounds_toArray, List.set_cons_zero, List.set_cons_succ]
              refine Fre.made_val (.slice (some ⟨g, 0, none⟩) all.length cu) (by kernel_rfl) (by kernel_rfl) (by kernel_rfl) (fun _ _ => by kernel_rfl) ?_
              simp only [Act.put, List.setIfInBounds_toArray, List.set_cons_zero, List.set_cons_succ]
              refine Fre.made_val (.int .i64 (i : Int)) (by kernel_rfl) (by kernel_rfl) (by kernel_rfl) (fun _ _ => by kernel_rfl) ?_
              simp only [Act.put, List.setIfInBounds_toArray, List.set_cons_zero, List.set_cons_succ]
              refine Fre.made_val (.pointer (some ⟨g, 0 + (i : Int).toNat * 1, none⟩)) (by kernel_rfl) (by kernel_rfl) (by kernel_rfl) (fun W9 _ => exec_index_off (o := ⟨some 66, _, _, _, _, _⟩) 44 33 (.tmp 64) (.tmp 65) rfl g 0 all.length cu (i : Int) .i64 rfl rfl ⟨i0, i1⟩ 1 Try.underlying44 (by kernel_rfl) W9) ?_
              simp only [Act.put, List.setIfInBounds_toArray, List.set_cons_zero, List.set_cons_succ]
              rw [show 0 + (i : Int).toNat * 1 = i by omega]
              refine Fre.made_val (.slice A l.length cA) (by kernel_rfl) (by kernel_rfl) (by kernel_rfl) (fun W9 hW9 => exec_load_cell (o := ⟨some 67, _, _, _, _, _⟩) 33 (.tmp 66) rfl ⟨g, i, none⟩ rfl _ _ W9 Try.underlying33 rfl (by rw [World.cell?_of_block ((blw hW9).block g (World.block_lt_of_cell? w7 _ HL7.out.1))]; exact HL7.out.1)) ?_
              simp only [Act.put, List.setIfInBounds_toArray, List.set_cons_zero, List.set_cons_succ]
              refine Fre.made_call (.bool (P l)) 20 #[.agg (caseC v).toArray, .slice A l.length cA] (by kernel_rfl) (by kernel_rfl) (by kernel_rfl) (fun W9 => by kernel_rfl) (fun W9 hW9 => (HFR.out ▸ free_any W9 v c hc ((HC7.out.1.alike (blw hW9).block).widen (blw hW9).size) (l.map fun k => ((k : Nat) : Int)) (by rw [List.length_map]; omega) _ ((HL7.out.2.1.alike (blw hW9).block).widen (blw hW9).size)).mono fun e w' ⟨h1, h2⟩ => ⟨h1, h2⟩) ?_
              simp only [Act.put, List.setIfInBounds_toArray, List.set_cons_zero, List.set_cons_succ]
              refine Fre.made_val (.bool (P l)) (by kernel_rfl) (by kernel_rfl) (by kernel_rfl) (fun _ _ => by kernel_rfl) ?_
              simp only [Act.put, List.setIfInBounds_toArray, List.set_cons_zero, List.set_cons_succ]
              show ∀ w', _ → _
              intro w8 hb
              simp only [Fre.ended]
              have hb : Below w7.heap.size w7 w8 := hb
              have HB8 := hide (HL7.out.2.2.trans (Below.mono hb HL7.out.2.2.size))
              clear hb
              have hbest := HR.out.2
              cases hp : P l with
              | false =>
                rcases hbest with ⟨rfl, hno⟩ | ⟨b, rfl, hbi, hbl, hno⟩
                · have HN := hide hno
                  have HPL := hide hp
                  clear hno hp
                  go_wp2_with fail
                  go_roundw
                  case rel => exact ⟨i + 1, by omega, by go_num, HB8.out, .inl ⟨rfl, fun j l' hj h => by by_cases hji : j < i; exact HN.out j l' hji h; obtain rfl : j = i := (by omega); rw [HL.out.2.2.1] at h; injection h with h; subst h; exact HPL.out⟩⟩
                  case measure => simp [intOf]; omega
                · have HN := hide (And.intro hbl hno)
                  clear hno hbl hp
                  have b0 : (0 : Int) ≤ (b : Int) := by omega
                  go_wp2_with fail
                  go_roundw
                  case rel => exact ⟨i + 1, by omega, by go_num, HB8.out, .inr ⟨b, rfl, by omega, HN.out.1, HN.out.2⟩⟩
                  case measure => simp [intOf]; omega
              | true =>
                rcases hbest with ⟨rfl, hno⟩ | ⟨b, rfl, hbi, hbl, hno⟩
                · have HN := hide hno
                  have HPL := hide hp
                  clear hno hp
                  go_wp2_with fail
                  go_roundw
                  case rel => exact ⟨i + 1, by omega, by go_num, HB8.out, .inr ⟨i, rfl, by omega, ⟨l, HL.out.2.2.1, HPL.out⟩, HN.out⟩⟩
                  case measure => simp [intOf]; omega
                · have HN := hide (And.intro hbl hno)
                  clear hno hbl hp
                  have b0 : (0 : Int) ≤ (b : Int) := by omega
                  have b1' : ¬ (b : Int) < 0 := by omega
                  go_wp2_with fail
                  go_roundw
                  case rel => exact ⟨i + 1, by omega, by go_num, HB8.out, .inr ⟨b, rfl, by omega, HN.out.1, HN.out.2⟩⟩
                  case measure => simp [intOf]; omega
            · obtain rfl : i = all.length := by omega
              have hbest := HR.out.2
              rcases hbest with ⟨rfl, hno⟩ | ⟨b, rfl, hbi, ⟨l, hl', hp⟩, hno⟩
              · have hf : all.find? P = none := find_none fun l hl => by obtain ⟨j, hj⟩ := List.getElem?_of_mem hl; exact hno j l (List.getElem?_eq_some_iff.1 hj).1 hj
                rw [HP.out] at hf
                obtain ⟨e1, e3⟩ := HZ.out.2 hf
                have e1 : RL = [] := e1
                have e3 : RE = 13 := e3
                subst e1 e3
                clear hf hno
                have hlz2 : (([] : List Nat).length : Int) = 0 := rfl
                go_wp2_with fail
                go_ret
                exact ⟨rfl, HCO.out.2.2⟩
              · have hf : all.find? P = some l := find_at hl' hp hno
                rw [HP.out] at hf
                obtain ⟨e1, e3⟩ := HZ.out.1 l hf
                have e1 : RL = l := e1
                have e3 : RE = 0 := e3
                subst e1 e3
                clear hf hno hp
                obtain ⟨g, cap', A, cA, e, hgl, _, hgc, hgo⟩ := (HO.out.2.below HR.out.1).get hl'
                injection e with e1 _ e2
                subst e1 e2
                have HL := hide (And.intro hgc (And.intro hgo (show OwnI _ wo (.slice Al RL.length cl) RL from owned_keepN HO.out.1 fun g _ hl => HR.out.1.block g hl)))
                clear hgc hgo hl' hgl
                have b0 : (0 : Int) ≤ (b : Int) := by omega
                have b1' : ¬ (b : Int) < 0 := by omega
                have bl : (b : Int) < (all.length : Int) := by omega
                go_wp2_with (first | (refine wpList_value_w (o := ⟨some 92, _, _, _, _, _⟩) (by kernel_rfl) (.pointer (some ⟨g, 0 + (b : Int).toNat * 1, none⟩)) wo (exec_index_off (o := ⟨some 92, _, _, _, _, _⟩) 44 33 (.tmp 90) (.tmp 91) rfl g 0 all.length cu (b : Int) .i64 rfl rfl ⟨b0, bl⟩ 1 Try.underlying44 (by kernel_rfl) wo) ?_; rw [show 0 + (b : Int).toNat * 1 = b by omega]) | (refine wpList_value_w (o := ⟨some 93, _, _, _, _, _⟩) (by kernel_rfl) (.slice A RL.length cA) wo (exec_load_cell (o := ⟨some 93, _, _, _, _, _⟩) 33 (.tmp 92) rfl ⟨g, b, none⟩ rfl _ _ wo Try.underlying33 rfl HL.out.1) ?_))
                refine (sameInts_any (RL.map fun k => ((k : Nat) : Int)) (RL.map fun k => ((k : Nat) : Int)) (by rw [List.length_map]; exact hL9) (by rw [List.length_map]; exact hL9) _ _ wo (OwnI.ints HL.out.2.2) (OwnI.ints HL.out.2.1)).mono ?_
                rintro e w10 ⟨rfl, hb⟩
                rw [decide_eq_true rfl]
                have HE := hide (show Below w.heap.size w w10 from HCO.out.2.2.trans (Below.mono hb HCO.out.2.2.size))
                clear hb
                dsimp only
                go_wp2_with fail
                go_ret
                exact ⟨rfl, HE.out⟩
    · have hni : ¬ (c.opts.length : Int) = (c.cls.length : Int) := by omega
      go_wp2_with fail
      go_ret
      exact ⟨rfl, HC3.out.2.2⟩
end Go.Proofs.Ytfppddnfdinipaa
end
section
namespace Go.Proofs.Ytfppddnfdinipaa
open Go Go.ChangeShapes Go.WideShapes Go.ChangeAt Go.RowKit
set_option maxRecDepth 100000
theorem pickBest_lifted (os : Os) (started : os.Started) (H : Type) (enc : TypeId × Value → H) :
    ReturnsInHanded {} Try.checked os 6 .any (Rows.pickBestSpec.pre6 enc Try.prog Try.f6 Rows.pickBestRow.domain false) (Rows.pickBestSpec.post enc Try.prog Try.f6 false true false false) := by
  refine returnsInHanded_of_change_sized (C := Try.checked) Try.ownPF started (by kernel_rfl) Try.func6
    (ChangeSpec.witness6 (enc := enc) (C := Try.checked) false ⟨#[], #[.agg zcC], []⟩ 8 (by kernel_rfl) (by kernel_rfl) (by kernel_rfl) (by kernel_rfl)) ?_
  intro W base args ds gs before hval0 hW _ hsz0 _
  have hval : ∀ (j : Nat) t v, Try.f6.params[j]? = some t → args[j]? = some v → Value.okWide Try.prog W .any base t v := hval0
  have hsz : (DataW.weightsEach Try.prog (Try.f6.params.toList ++ []) (ds ++ gs)).all (· ≤ reachBytes) = true := hsz0
  have hW' := hW
  obtain ⟨p, q, hA0, hV, rfl, hfz, hnd⟩ := hW
  have hA : DataW.TrodAll enc Try.prog W 0 (fun _ => true) true Try.f6.params.toList args.toList ds p := hA0
  rw [Try.params6] at hA hval hsz
  obtain ⟨v0, d0, rfl, rfl, h0⟩ := trodAll_one hA
  obtain ⟨rfl, rfl⟩ := trodVars_none hV
  have hs0 : ∀ n ∈ d0.weights Try.prog 29, n ≤ reachBytes := fun n hn => by
    have h := List.all_eq_true.1 hsz n (DataW.weights_mem_each (j := 0) (t := 29) (d := d0) rfl rfl n hn)
    simpa using h
  obtain ⟨v, c, rfl, hat, hl⟩ := open_case (hval 0 29 v0 rfl rfl) h0 hs0
  have fin : ∀ e W', e = Ending.returned (.bool true) ∧ Below W.heap.size W W' → ∃ x, e = .returned x ∧ Rows.pickBestSpec.post enc Try.prog Try.f6 false true false false W #[.agg (caseC v).toArray] x W' := by
    rintro e W' ⟨rfl, hb⟩
    exact ⟨_, rfl, law_end laidOut hW' rfl rfl (by kernel_rfl) Try.underlying4 (by kernel_rfl) hb⟩
  exact (pickBest_any W v c hl hat).mono fin
theorem pickBest_holds : Rows.PickBestSaid :=
  OpenClaim.holds_of_wide 6 Try.f6 rfl rfl rfl rfl rfl rfl rfl ⟨rfl, rfl, rfl, rfl, rfl⟩ rfl rfl rfl rfl rfl (by kernel_rfl) Try.func6 (by kernel_rfl)
    (of_decide_eq_true (by kernel_rfl)) (by unfold Func.isWrapper; first | (rw [if_pos (by decide +kernel)]; kernel_rfl) | (rw [if_neg (by decide +kernel)]; exact ⟨rfl, rfl⟩))
    (fun os started H enc _ => pickBest_lifted os started H enc)
#print axioms pickBest_holds
end Go.Proofs.Ytfppddnfdinipaa
end
