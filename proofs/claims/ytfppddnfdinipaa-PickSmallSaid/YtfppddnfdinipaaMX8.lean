/- A slice built of two parts of many cells; a slice that is read out of a block. spencelaw24: awake. spencelaw24: PickFree: the walk. how long a least choice's row is. spencekit.flatBytes: rows of bytes that lie apart. What is plain of it. spencekit.flatBytes: rows that grow, apart from each other. What is plain of it. spencekit.flatBytes: rows of bytes that lie apart: the walk. spencekit: the flat.. of each kind but bytes, where there is nothing of that kind. spencekit.ApartBytes: rows of bytes lie apart. -/
import Derived.Test.YtfppddnfdinipaaBuild
import Derived.Test.YtfppddnfdinipaaMX1
import Derived.Test.YtfppddnfdinipaaMX7
import Derived.Test.YtfppddnfdinipaaMX6
import Derived.Test.YtfppddnfdinipaaApp2
import Derived.Test.YtfppddnfdinipaaMX5
import Derived.Test.YtfppddnfdinipaaQuietTail
import Derived.BigQuiet
import Derived.Test.YtfppddnfdinipaaBase3
import Derived.Deep.OwnRows
section
namespace Go.Proofs.Ytfppddnfdinipaa
open Go Go.RowKit
theorem run_buildSlice2 {P : Program} {t e n : Nat} {z v u : Value} (ht : P.underlying t = some (.slice e)) (hs : (P.info? e).map (·.size) = some n) (h24 : 2 * n ≤ 16777216) (hz : ∀ w, (zeroValue e).run P w = .ok z w) (hv : v.cells.size = n) (hu : u.cells.size = n) (w : World) :
    (Instr.buildSlice t 2 #[(0, v), (1, u)]).run P w = .ok (.slice (some ⟨w.heap.size, 0, none⟩) 2 2) (w.alloc (.cells (v.cells ++ u.cells) e)) := by
  have hsz : ∀ w, (sizeOf e).run P w = .ok n w := by
    intro w
    cases hq : P.info? e with
    | none => simp [hq] at hs
    | some i =>
      have h1 : i.size = n := by simpa [hq] using hs
      simp [sizeOf, typeInfo, hq, h1]
  have hfill : ∀ cells : Array Value, cells.size = 2 * n → Instr.fill (fun i => some (i * n, n)) cells [(0, v), (1, u)] = some (v.cells ++ u.cells) := by
    intro cells hc
    have hcl : cells.toList.length = 2 * n := by simpa using hc
    rw [fill_part _ _ 0 v _ 0 (by simp [hv]) (by omega)]
    rw [fill_part _ _ 1 u _ n (by simp [hu]) (by simp only [List.size_toArray, List.length_append, List.length_take, List.length_drop]; simp [hv, hu]; omega)]
    unfold Instr.fill
    congr 1
    apply Array.ext'
    have hvl : v.cells.toList.length = n := by simpa using hv
    simp only [List.take_zero, List.nil_append, Nat.zero_add]
    obtain ⟨d, hd⟩ : ∃ d, d = cells.toList.drop v.cells.size := ⟨_, rfl⟩
    have hdl : d.length = n := by rw [hd, List.length_drop]; omega
    rw [← hd, List.take_left' hvl, List.drop_eq_nil_of_le (by rw [List.length_append]; omega)]
    simp
  have h25 : ¬ 16777216 < 2 * n := by omega
  simp [Instr.buildSlice, run_underlying ht, hsz, h25, hz, hfill, Result.andThen]
  have hr : (newRow e (v.cells ++ u.cells)).run P w = .ok ⟨w.heap.size, 0, none⟩ (w.alloc (.cells (v.cells ++ u.cells) e)) := rfl
  rw [hr]
theorem exec_buildSlice2 {P : Program} {ρ : Operand → Value} {o : Oper} (t : TypeId) (x y : Operand) (ho : o.op = .buildSlice t 2 #[(0, x), (1, y)]) {e n : Nat} {z v u : Value} (hx : ρ x = v) (hy : ρ y = u) (ht : P.underlying t = some (.slice e)) (hs : (P.info? e).map (·.size) = some n) (h24 : 2 * n ≤ 16777216) (hz : ∀ w, (zeroValue e).run P w = .ok z w) (hv : v.cells.size = n) (hu : u.cells.size = n) (w : World) :
    (execOp ρ o).run P w = .ok (.value (.slice (some ⟨w.heap.size, 0, none⟩) 2 2)) (w.alloc (.cells (v.cells ++ u.cells) e)) := by
  have h := run_buildSlice2 (P := P) ht hs h24 hz hv hu w
  unfold execOp
  simp only [ho, List.map_toArray, List.map_cons, List.map_nil, hx, hy, Sem.run_bind, h, Result.andThen_ok, Sem.run_pure]
/-- a slice whose elements' cells lie in a block -/
theorem slice_cells {α : Type} {t e : TypeId} {L : Lay α} (h0 : 0 < L.n) {w : World} {B g : Nat} {cells : List (List Value)} {l : List α} (hb : Blk w g e cells.flatten.toArray) (hg : g < B) (hlen : cells.length = l.length) (hn : l.length ≤ maxLen) (hat : ∀ (j : Nat) x cs, l[j]? = some x → cells[j]? = some cs → L.At w B cs x) :
    (Lay.slice t L).At w B [.slice (some ⟨g, 0, none⟩) l.length l.length] l := by
  have hl : ∀ cs ∈ cells, (id cs).length = L.n := fun cs hcs => by
    obtain ⟨j, hj⟩ := List.getElem?_of_mem hcs
    obtain ⟨x, hx⟩ : ∃ x, l[j]? = some x := ⟨_, List.getElem?_eq_getElem (by have := (List.getElem?_eq_some_iff.1 hj).1; omega)⟩
    exact L.len (hat j x cs hx hj)
  refine ⟨_, l.length, rfl, Nat.le_refl _, hn, (fun h => by cases h), fun _ => ⟨g, 0, rfl, hg, fun j x hj => ?_⟩⟩
  obtain ⟨cs, hcs⟩ : ∃ cs, cells[j]? = some cs := ⟨_, List.getElem?_eq_getElem (by have := (List.getElem?_eq_some_iff.1 hj).1; omega)⟩
  refine ⟨cs, fun i u hu => ?_, hat j x cs hj hcs⟩
  have h2 := flatC_at (f := id) h0 cells hl j cs hcs i u hu
  rw [hb.cell, Nat.zero_add]
  have e : cells.flatMap id = cells.flatten := by simp [List.flatMap]
  rw [e] at h2
  simpa using h2
end Go.Proofs.Ytfppddnfdinipaa
end
section
namespace Go.Proofs.Ytfppddnfdinipaa
open Go Go.RowKit Go.Maps
set_option maxRecDepth 100000
theorem ints_one {w : World} {g : Nat} {k : Nat} (h : Blk w g 3 #[.int .i64 (k : Int)]) : IntsAt w w.heap.size (.slice (some ⟨g, 0, none⟩) 1 1) ([k].map fun k => ((k : Nat) : Int)) :=
  ⟨_, 1, rfl, fun i z hz => ⟨g, 0, rfl, h.lt, by
    match i, hz with
    | 0, hz =>
      injection hz with hz
      subst hz
      exact h.cell 0⟩⟩
theorem ints_two {w : World} {g : Nat} (a b : Int) (h : Blk w g 3 #[.int .i64 a, .int .i64 b]) : IntsAt w w.heap.size (.slice (some ⟨g, 0, none⟩) 2 2) [a, b] :=
  ⟨_, 2, rfl, fun i z hz => ⟨g, 0, rfl, h.lt, by
    match i, hz with
    | 0, hz =>
      injection hz with hz
      subst hz
      exact h.cell 0
    | 1, hz =>
      injection hz with hz
      subst hz
      exact h.cell 1⟩⟩
theorem slice_two {α : Type} {t e : TypeId} {L : Lay α} (h0 : 0 < L.n) {w : World} {B g : Nat} {c1 c2 : List Value} {x1 x2 : α} (hb : Blk w g e ((Value.agg c1.toArray).cells ++ (Value.agg c2.toArray).cells)) (hg : g < B) (h1 : L.At w B c1 x1) (h2 : L.At w B c2 x2) : (Lay.slice t L).At w B [.slice (some ⟨g, 0, none⟩) 2 2] [x1, x2] := by
  have e : (Value.agg c1.toArray).cells ++ (Value.agg c2.toArray).cells = [c1, c2].flatten.toArray := by simp [Value.cells]
  rw [e] at hb
  refine slice_cells (l := [x1, x2]) h0 hb hg rfl (of_decide_eq_true (by kernel_rfl)) fun j x cs hx hcs => ?_
  match j, hx, hcs with
  | 0, hx, hcs => injection hx with hx; injection hcs with hcs; subst hx hcs; exact h1
  | 1, hx, hcs => injection hx with hx; injection hcs with hcs; subst hx hcs; exact h2
theorem slice_one {α : Type} {t e : TypeId} {L : Lay α} (h0 : 0 < L.n) {w : World} {B g : Nat} {c1 : List Value} {x1 : α} (hb : Blk w g e (Value.agg c1.toArray).cells) (hg : g < B) (h1 : L.At w B c1 x1) : (Lay.slice t L).At w B [.slice (some ⟨g, 0, none⟩) 1 1] [x1] := by
  have e : (Value.agg c1.toArray).cells = [c1].flatten.toArray := by simp [Value.cells]
  rw [e] at hb
  refine slice_cells (l := [x1]) h0 hb hg rfl (of_decide_eq_true (by kernel_rfl)) fun j x cs hx hcs => ?_
  match j, hx, hcs with
  | 0, hx, hcs => injection hx with hx; injection hcs with hcs; subst hx hcs; exact h1
theorem optLay_mk {w : World} {B : Nat} {p : Pth} {v : Value} {cl : List Pth} (hp : okP p) (h : pathsLay.At w B [v] cl) : optLay.At w B (oC p v) (p, cl) :=
  ⟨pC p, [v], rfl, pathLay_at.2 ⟨rfl, hp⟩, [v], [], rfl, h, rfl⟩
theorem exec_made2 {ρ : Operand → Value} {o : Oper} (h : Hsh) (p : Pth) (hh : okH h) (hp : okP p) (x y : Operand) (ho : o.op = .build 60 #[(0, x), (1, y)]) (h1 : ρ x = .agg (bv h).toArray) (h2 : ρ y = .agg (pC p).toArray) (w : World) : (execOp ρ o).run Try.prog w = .ok (.value (.agg (mC h p).toArray)) w := by
  have e9 : (Value.agg (bv h).toArray).cells ++ (Value.agg (pC p).toArray).cells = (mC h p).toArray := by simp [Value.cells]
  refine Eq.trans (exec_build2 60 x y ho (n1 := 20) (n2 := 21) (z := .agg zcM) (v1 := .agg (bv h).toArray) (v2 := .agg (pC p).toArray) h1 h2 Try.underlying60 (fun w => by kernel_rfl) (by kernel_rfl) (fun w => by kernel_rfl) (by simp [Value.cells, bvL]; exact hh) (by simp [Value.cells, pC_len hp]) w) ?_
  rw [e9]
def zcC : Array Value := (bv (List.replicate 20 0) ++ [Value.slice none 0 0, Value.slice none 0 0, Value.slice none 0 0, Value.slice none 0 0]).toArray
def c0 : CaseP := ⟨hN 9, [], [hN 1, hN 2], [[(pN 1, [pN 4]), (pN 2, [pN 5])], [(pN 3, [pN 5])]], [(hN 4, pN 4), (hN 4, pN 5)]⟩
theorem c0_least : leastB c0 100 = ([1, 0], 4, 0) ∧ leastB c0 3 = ([], 3, 11) ∧ freeB c0 [1, 0] = true ∧ freeB c0 [0, 0] = false := by
  refine ⟨?_, ?_, ?_, ?_⟩ <;> kernel_rfl
theorem c0_size : c0.size ≤ 120 := by decide
set_option maxHeartbeats 8000000 in
theorem awake24_any (w0 : World) : Calls Try.prog 11 #[] w0 fun e w' => e = .returned (.bool true) ∧ Below w0.heap.size w0 w' := by
  go_enter Try.func11, Try.ntmps11
  go_wp2_with fail
  refine (class_any 9 (by omega) w0).mono ?_
  rintro e w1 ⟨rfl, hbw1⟩
  have HBw1 := hide (show Below w0.heap.size w0 w1 from hbw1)
  clear hbw1
  dsimp only
  go_wp2_with fail
  refine (class_any 1 (by omega) w1).mono ?_
  rintro e w2 ⟨rfl, hbw2⟩
  have HBw2 := hide (show Below w1.heap.size w1 w2 from hbw2)
  clear hbw2
  dsimp only
  go_wp2_with fail
  refine (class_any 2 (by omega) w2).mono ?_
  rintro e w3 ⟨rfl, hbw3⟩
  have HBw3 := hide (show Below w2.heap.size w2 w3 from hbw3)
  clear hbw3
  dsimp only
  obtain ⟨w4, hww4⟩ : ∃ w4, w4 = w3.alloc (.cells ((Value.agg (bv (hN 1)).toArray).cells ++ (Value.agg (bv (hN 2)).toArray).cells) 23) := ⟨_, rfl⟩
  have HBw4 := hide (show Below w3.heap.size w3 w4 from by rw [hww4]; exact (Below.refl _ w3).alloc (Nat.le_refl _) _)
  have HKw4 := hide (show Blk w4 w3.heap.size 23 ((Value.agg (bv (hN 1)).toArray).cells ++ (Value.agg (bv (hN 2)).toArray).cells) from by rw [hww4]; exact Blk.new _ _ _)
  have HWw4 := hide hww4
  clear hww4
  obtain ⟨w5, hww5⟩ : ∃ w5, w5 = w4.alloc (.cells (#[.int .i64 4]) 3) := ⟨_, rfl⟩
  have HBw5 := hide (show Below w4.heap.size w4 w5 from by rw [hww5]; exact (Below.refl _ w4).alloc (Nat.le_refl _) _)
  have HKw5 := hide (show Blk w5 w4.heap.size 3 (#[.int .i64 4]) from by rw [hww5]; exact Blk.new _ _ _)
  have HWw5 := hide hww5
  clear hww5
  go_wp2_with (first | (refine wpList_value (o := ⟨some 11, _, _, _, _, _⟩) rfl (.slice (some ⟨w3.heap.size, 0, none⟩) 2 2) w4 (by rw [HWw4.out]; exact exec_buildSlice2 (o := ⟨some 11, _, _, _, _, _⟩) (v := .agg (bv (hN 1)).toArray) (u := .agg (bv (hN 2)).toArray) 25 (.tmp 9) (.tmp 10) rfl rfl rfl Try.underlying25 sz_hash (by omega) (z := .agg zcH) (fun w => by kernel_rfl) rfl rfl w3) ?_) | (refine wpList_value (o := ⟨some 12, _, _, _, _, _⟩) rfl (.slice (some ⟨w4.heap.size, 0, none⟩) 1 1) w5 (by rw [HWw5.out]; kernel_rfl) ?_))
  refine (option_any 1 (by omega) [4] (by simp) (by simp) (.slice (some ⟨w4.heap.size, 0, none⟩) 1 1) w5 (ints_one HKw5.out)).mono ?_
  rintro e w6 ⟨u13, rfl, hu13, hbw6⟩
  have HBw6 := hide (show Below w5.heap.size w5 w6 from hbw6)
  have Hu13 := hide hu13
  clear hbw6 hu13
  dsimp only
  obtain ⟨w7, hww7⟩ : ∃ w7, w7 = w6.alloc (.cells (#[.int .i64 5]) 3) := ⟨_, rfl⟩
  have HBw7 := hide (show Below w6.heap.size w6 w7 from by rw [hww7]; exact (Below.refl _ w6).alloc (Nat.le_refl _) _)
  have HKw7 := hide (show Blk w7 w6.heap.size 3 (#[.int .i64 5]) from by rw [hww7]; exact Blk.new _ _ _)
  have HWw7 := hide hww7
  clear hww7
  go_wp2_with (refine wpList_value (o := ⟨some 14, _, _, _, _, _⟩) rfl (.slice (some ⟨w6.heap.size, 0, none⟩) 1 1) w7 (by rw [HWw7.out]; kernel_rfl) ?_)
  refine (option_any 2 (by omega) [5] (by simp) (by simp) (.slice (some ⟨w6.heap.size, 0, none⟩) 1 1) w7 (ints_one HKw7.out)).mono ?_
  rintro e w8 ⟨u15, rfl, hu15, hbw8⟩
  have HBw8 := hide (show Below w7.heap.size w7 w8 from hbw8)
  have Hu15 := hide hu15
  clear hbw8 hu15
  dsimp only
  obtain ⟨w9, hww9⟩ : ∃ w9, w9 = w8.alloc (.cells ((Value.agg (oC (pN 1) u13).toArray).cells ++ (Value.agg (oC (pN 2) u15).toArray).cells) 55) := ⟨_, rfl⟩
  have HBw9 := hide (show Below w8.heap.size w8 w9 from by rw [hww9]; exact (Below.refl _ w8).alloc (Nat.le_refl _) _)
  have HKw9 := hide (show Blk w9 w8.heap.size 55 ((Value.agg (oC (pN 1) u13).toArray).cells ++ (Value.agg (oC (pN 2) u15).toArray).cells) from by rw [hww9]; exact Blk.new _ _ _)
  have HWw9 := hide hww9
  clear hww9
  obtain ⟨w10, hww10⟩ : ∃ w10, w10 = w9.alloc (.cells (#[.int .i64 5]) 3) := ⟨_, rfl⟩
  have HBw10 := hide (show Below w9.heap.size w9 w10 from by rw [hww10]; exact (Below.refl _ w9).alloc (Nat.le_refl _) _)
  have HKw10 := hide (show Blk w10 w9.heap.size 3 (#[.int .i64 5]) from by rw [hww10]; exact Blk.new _ _ _)
  have HWw10 := hide hww10
  clear hww10
  go_wp2_with (first | (refine wpList_value (o := ⟨some 16, _, _, _, _, _⟩) rfl (.slice (some ⟨w8.heap.size, 0, none⟩) 2 2) w9 (by rw [HWw9.out]; exact exec_buildSlice2 (o := ⟨some 16, _, _, _, _, _⟩) (v := .agg (oC (pN 1) u13).toArray) (u := .agg (oC (pN 2) u15).toArray) 57 (.tmp 13) (.tmp 15) rfl rfl rfl Try.underlying57 sz_opt (by omega) (z := .agg zcO) (fun w => by kernel_rfl) rfl rfl w8) ?_) | (refine wpList_value (o := ⟨some 17, _, _, _, _, _⟩) rfl (.slice (some ⟨w9.heap.size, 0, none⟩) 1 1) w10 (by rw [HWw10.out]; kernel_rfl) ?_))
  refine (option_any 3 (by omega) [5] (by simp) (by simp) (.slice (some ⟨w9.heap.size, 0, none⟩) 1 1) w10 (ints_one HKw10.out)).mono ?_
  rintro e w11 ⟨u18, rfl, hu18, hbw11⟩
  have HBw11 := hide (show Below w10.heap.size w10 w11 from hbw11)
  have Hu18 := hide hu18
  clear hbw11 hu18
  dsimp only
  obtain ⟨w12, hww12⟩ : ∃ w12, w12 = w11.alloc (.cells ((Value.agg (oC (pN 3) u18).toArray).cells) 55) := ⟨_, rfl⟩
  have HBw12 := hide (show Below w11.heap.size w11 w12 from by rw [hww12]; exact (Below.refl _ w11).alloc (Nat.le_refl _) _)
  have HKw12 := hide (show Blk w12 w11.heap.size 55 ((Value.agg (oC (pN 3) u18).toArray).cells) from by rw [hww12]; exact Blk.new _ _ _)
  have HWw12 := hide hww12
  clear hww12
  obtain ⟨w13, hww13⟩ : ∃ w13, w13 = w12.alloc (.cells (#[.slice (some ⟨w8.heap.size, 0, none⟩) 2 2, .slice (some ⟨w11.heap.size, 0, none⟩) 1 1]) 57) := ⟨_, rfl⟩
  have HBw13 := hide (show Below w12.heap.size w12 w13 from by rw [hww13]; exact (Below.refl _ w12).alloc (Nat.le_refl _) _)
  have HKw13 := hide (show Blk w13 w12.heap.size 57 (#[.slice (some ⟨w8.heap.size, 0, none⟩) 2 2, .slice (some ⟨w11.heap.size, 0, none⟩) 1 1]) from by rw [hww13]; exact Blk.new _ _ _)
  have HWw13 := hide hww13
  clear hww13
  go_wp2_with (first | (refine wpList_value (o := ⟨some 19, _, _, _, _, _⟩) rfl (.slice (some ⟨w11.heap.size, 0, none⟩) 1 1) w12 (by rw [HWw12.out]; exact exec_buildSliceP (o := ⟨some 19, _, _, _, _, _⟩) (v := .agg (oC (pN 3) u18).toArray) 57 (.tmp 18) rfl rfl Try.underlying57 sz_opt (by omega) (by omega) (z := .agg zcO) (fun w => by kernel_rfl) rfl w11) ?_) | (refine wpList_value (o := ⟨some 20, _, _, _, _, _⟩) rfl (.slice (some ⟨w12.heap.size, 0, none⟩) 2 2) w13 (by rw [HWw13.out]; kernel_rfl) ?_))
  refine (class_any 4 (by omega) w13).mono ?_
  rintro e w14 ⟨rfl, hbw14⟩
  have HBw14 := hide (show Below w13.heap.size w13 w14 from hbw14)
  clear hbw14
  dsimp only
  go_wp2_with fail
  refine (path_any 4 (by omega) w14).mono ?_
  rintro e w15 ⟨rfl, hbw15⟩
  have HBw15 := hide (show Below w14.heap.size w14 w15 from hbw15)
  clear hbw15
  dsimp only
  go_wp2_with ((refine wpList_value (o := ⟨some 23, _, _, _, _, _⟩) rfl (.agg (mC (hN 4) (pN 4)).toArray) w15 (exec_made2 (o := ⟨some 23, _, _, _, _, _⟩) (hN 4) (pN 4) (hN_ok _) (pN_ok _) (.tmp 21) (.tmp 22) rfl rfl rfl w15) ?_))
  refine (class_any 4 (by omega) w15).mono ?_
  rintro e w16 ⟨rfl, hbw16⟩
  have HBw16 := hide (show Below w15.heap.size w15 w16 from hbw16)
  clear hbw16
  dsimp only
  go_wp2_with fail
  refine (path_any 5 (by omega) w16).mono ?_
  rintro e w17 ⟨rfl, hbw17⟩
  have HBw17 := hide (show Below w16.heap.size w16 w17 from hbw17)
  clear hbw17
  dsimp only
  obtain ⟨w18, hww18⟩ : ∃ w18, w18 = w17.alloc (.cells ((Value.agg (mC (hN 4) (pN 4)).toArray).cells ++ (Value.agg (mC (hN 4) (pN 5)).toArray).cells) 60) := ⟨_, rfl⟩
  have HBw18 := hide (show Below w17.heap.size w17 w18 from by rw [hww18]; exact (Below.refl _ w17).alloc (Nat.le_refl _) _)
  have HKw18 := hide (show Blk w18 w17.heap.size 60 ((Value.agg (mC (hN 4) (pN 4)).toArray).cells ++ (Value.agg (mC (hN 4) (pN 5)).toArray).cells) from by rw [hww18]; exact Blk.new _ _ _)
  have HWw18 := hide hww18
  clear hww18
  obtain ⟨v0, hv0⟩ : ∃ v0, v0 = (⟨hN 9, .slice none 0 0, .slice (some ⟨w3.heap.size, 0, none⟩) 2 2, .slice (some ⟨w12.heap.size, 0, none⟩) 2 2, .slice (some ⟨w17.heap.size, 0, none⟩) 2 2⟩ : Cvs) := ⟨_, rfl⟩
  have ho : okH v0.own := by rw [hv0]; exact hN_ok 9
  have hsz0 : (Try.prog.info? 29).map (·.size) = some (caseC v0).toArray.size := csz ho
  have hone0 : (caseC v0).toArray.all (·.oneCell') = true := by rw [hv0]; kernel_rfl
  have HV := hide hv0
  clear hv0
  go_wp2_with (first | (refine wpList_value (o := ⟨some 26, _, _, _, _, _⟩) rfl (.agg (mC (hN 4) (pN 5)).toArray) w17 (exec_made2 (o := ⟨some 26, _, _, _, _, _⟩) (hN 4) (pN 5) (hN_ok _) (pN_ok _) (.tmp 24) (.tmp 25) rfl rfl rfl w17) ?_) | (refine wpList_value (o := ⟨some 27, _, _, _, _, _⟩) rfl (.slice (some ⟨w17.heap.size, 0, none⟩) 2 2) w18 (by rw [HWw18.out]; exact exec_buildSlice2 (o := ⟨some 27, _, _, _, _, _⟩) (v := .agg (mC (hN 4) (pN 4)).toArray) (u := .agg (mC (hN 4) (pN 5)).toArray) 27 (.tmp 23) (.tmp 26) rfl rfl rfl Try.underlying27 sz_made (by omega) (z := .agg zcM) (fun w => by kernel_rfl) rfl rfl w17) ?_) | (refine wpList_value (o := ⟨some 28, _, _, _, _, _⟩) rfl (.agg (caseC v0).toArray) w18 ?hh ?_) | ((with_reducible refine wpList_box (o1 := ⟨some 1, _, _, _, _, _⟩) (o2 := ⟨none, _, _, _, _, _⟩) rfl rfl 29 (.tmp 1) (.tmp 28) ?_ zcC (caseC v0).toArray ?_ hsz0 ?_ hone0 ?_ ?_ ?_); rfl; kernel_rfl; (simp only [List.size_toArray, caseC_len ho]; kernel_rfl); rfl; rfl; intro w19 hmw19 hbw19; have HBw19 := hide hbw19; have HKw19 := hide hmw19; clear hmw19 hbw19; simp only [Act.put, List.setIfInBounds_toArray, List.set_cons_zero, List.set_cons_succ]) | (refine wpList_value (o := ⟨some 30, _, _, _, _, _⟩) rfl (.agg (caseC v0).toArray) w19 (exec_load_blk (o := ⟨some 30, _, _, _, _, _⟩) 29 (.tmp 1) rfl w18.heap.size rfl 29 _ _ w19 HKw19.out Try.underlying29 rfl hsz0) ?_))
  case hh =>
    rw [HV.out]
    kernel_rfl
  have hB19 : Below w19.heap.size w19 w19 := Below.refl _ _
  have hB18 : Below w18.heap.size w18 w19 := HBw19.out.trans (Below.mono hB19 HBw19.out.size)
  have hB17 : Below w17.heap.size w17 w19 := HBw18.out.trans (Below.mono hB18 HBw18.out.size)
  have hB16 : Below w16.heap.size w16 w19 := HBw17.out.trans (Below.mono hB17 HBw17.out.size)
  have hB15 : Below w15.heap.size w15 w19 := HBw16.out.trans (Below.mono hB16 HBw16.out.size)
  have hB14 : Below w14.heap.size w14 w19 := HBw15.out.trans (Below.mono hB15 HBw15.out.size)
  have hB13 : Below w13.heap.size w13 w19 := HBw14.out.trans (Below.mono hB14 HBw14.out.size)
  have hB12 : Below w12.heap.size w12 w19 := HBw13.out.trans (Below.mono hB13 HBw13.out.size)
  have hB11 : Below w11.heap.size w11 w19 := HBw12.out.trans (Below.mono hB12 HBw12.out.size)
  have hB10 : Below w10.heap.size w10 w19 := HBw11.out.trans (Below.mono hB11 HBw11.out.size)
  have hB9 : Below w9.heap.size w9 w19 := HBw10.out.trans (Below.mono hB10 HBw10.out.size)
  have hB8 : Below w8.heap.size w8 w19 := HBw9.out.trans (Below.mono hB9 HBw9.out.size)
  have hB7 : Below w7.heap.size w7 w19 := HBw8.out.trans (Below.mono hB8 HBw8.out.size)
  have hB6 : Below w6.heap.size w6 w19 := HBw7.out.trans (Below.mono hB7 HBw7.out.size)
  have hB5 : Below w5.heap.size w5 w19 := HBw6.out.trans (Below.mono hB6 HBw6.out.size)
  have hB4 : Below w4.heap.size w4 w19 := HBw5.out.trans (Below.mono hB5 HBw5.out.size)
  have hB3 : Below w3.heap.size w3 w19 := HBw4.out.trans (Below.mono hB4 HBw4.out.size)
  have hB2 : Below w2.heap.size w2 w19 := HBw3.out.trans (Below.mono hB3 HBw3.out.size)
  have hB1 : Below w1.heap.size w1 w19 := HBw2.out.trans (Below.mono hB2 HBw2.out.size)
  have hB0 : Below w0.heap.size w0 w19 := HBw1.out.trans (Below.mono hB1 HBw1.out.size)
  have hs0 := HBw1.out.size
  have hs1 := HBw2.out.size
  have hs2 := HBw3.out.size
  have hs3 := HBw4.out.size
  have hs4 := HBw5.out.size
  have hs5 := HBw6.out.size
  have hs6 := HBw7.out.size
  have hs7 := HBw8.out.size
  have hs8 := HBw9.out.size
  have hs9 := HBw10.out.size
  have hs10 := HBw11.out.size
  have hs11 := HBw12.out.size
  have hs12 := HBw13.out.size
  have hs13 := HBw14.out.size
  have hs14 := HBw15.out.size
  have hs15 := HBw16.out.size
  have hs16 := HBw17.out.size
  have hs17 := HBw18.out.size
  have hs18 := HBw19.out.size
  have hat : CaseAt w19.heap.size w19 v0 c0 := by
    rw [HV.out]
    refine ⟨rfl, hN_ok 9, ⟨none, 0, rfl, Nat.le_refl _, Nat.zero_le _, fun _ => rfl, fun h => absurd h (by simp [c0])⟩, ?_, ?_, ?_⟩
    · exact slice_two (L := hashLay) (by decide) (HKw4.out.below hB4 HKw4.out.lt) (show w3.heap.size < w19.heap.size by have := HKw4.out.lt; omega) ⟨rfl, hN_ok 1⟩ ⟨rfl, hN_ok 2⟩
    · exact slice_two (L := rowLay) (by decide) (HKw13.out.below hB13 HKw13.out.lt) (show w12.heap.size < w19.heap.size by have := HKw13.out.lt; omega) (slice_two (L := optLay) (by decide) (HKw9.out.below hB9 HKw9.out.lt) (show w8.heap.size < w19.heap.size by have := HKw9.out.lt; omega) (optLay_mk (pN_ok 1) (OwnP.at_ (OwnP.below Hu13.out hB6))) (optLay_mk (pN_ok 2) (OwnP.at_ (OwnP.below Hu15.out hB8)))) (slice_one (L := optLay) (by decide) (HKw12.out.below hB12 HKw12.out.lt) (show w11.heap.size < w19.heap.size by have := HKw12.out.lt; omega) (optLay_mk (pN_ok 3) (OwnP.at_ (OwnP.below Hu18.out hB11))))
    · exact slice_two (L := madeLay) (by decide) (HKw18.out.below hB18 HKw18.out.lt) (show w17.heap.size < w19.heap.size by have := HKw18.out.lt; omega) (madeLay_at.2 ⟨rfl, hN_ok 4, pN_ok 4⟩) (madeLay_at.2 ⟨rfl, hN_ok 4, pN_ok 5⟩)
  have HA := hide (And.intro hat (And.intro hB0 HKw19.out))
  clear hat hB0 hB1 hB2 hB3 hB4 hB5 hB6 hB7 hB8 hB9 hB10 hB11 hB12 hB13 hB14 hB15 hB16 hB17 hB18 hB19 hs0 hs1 hs2 hs3 hs4 hs5 hs6 hs7 hs8 hs9 hs10 hs11 hs12 hs13 hs14 hs15 hs16 hs17 hs18 HBw1 HBw2 HBw3 HBw4 HBw5 HBw6 HBw7 HBw8 HBw9 HBw10 HBw11 HBw12 HBw13 HBw14 HBw15 HBw16 HBw17 HBw18 HBw19 Hu13 Hu15 Hu18 HKw4 HKw9 HKw12 HKw13 HKw18
  refine (least_any w19 v0 c0 c0_size HA.out.1 100 (by omega)).mono ?_
  rintro e w20 ⟨u31, rfl, ho31, hb20⟩
  rw [c0_least.1] at ho31 ⊢
  have H20 := hide (And.intro ho31 (And.intro hb20 (show CaseAt w20.heap.size w20 v0 c0 from (HA.out.1.alike hb20.block).widen hb20.size)))
  have HB20 := hide (show Blk w20 w18.heap.size 29 (caseC v0).toArray from HA.out.2.2.below hb20 HA.out.2.2.lt)
  clear ho31 hb20
  dsimp only
  go_wp2_with (refine wpList_value (o := ⟨some 36, _, _, _, _, _⟩) rfl (.agg (caseC v0).toArray) w20 (exec_load_blk (o := ⟨some 36, _, _, _, _, _⟩) 29 (.tmp 1) rfl w18.heap.size rfl 29 _ _ w20 HB20.out Try.underlying29 rfl hsz0) ?_)
  refine (least_any w20 v0 c0 c0_size H20.out.2.2 3 (by omega)).mono ?_
  rintro e w21 ⟨u37, rfl, ho37, hb21⟩
  rw [c0_least.2.1] at ho37 ⊢
  have H21 := hide (And.intro (show CaseAt w21.heap.size w21 v0 c0 from (H20.out.2.2.alike hb21.block).widen hb21.size) (And.intro hb21 (show OwnI _ w21 u31 [1, 0] from owned_keepN H20.out.1 fun g _ hl => hb21.block g hl)))
  have HB21 := hide (show Blk w21 w18.heap.size 29 (caseC v0).toArray from HB20.out.below hb21 HB20.out.lt)
  clear ho37 hb21
  dsimp only
  obtain ⟨w22, hw22⟩ : ∃ w22, w22 = w21.alloc (.cells #[.int .i64 1, .int .i64 0] 3) := ⟨_, rfl⟩
  have hb22 : Below w21.heap.size w21 w22 := by rw [hw22]; exact (Below.refl _ w21).alloc (Nat.le_refl _) _
  have hk22 : Blk w22 w21.heap.size 3 #[.int .i64 1, .int .i64 0] := by rw [hw22]; exact Blk.new _ _ _
  have HW22 := hide hw22
  clear hw22
  go_wp2_with (refine wpList_value_w (o := ⟨some 45, _, _, _, _, _⟩) (by kernel_rfl) (.slice (some ⟨w21.heap.size, 0, none⟩) 2 2) w22 (by rw [HW22.out]; kernel_rfl) ?_)
  refine (sameInts_any [1, 0] [1, 0] (by simp) (by simp) u31 _ w22 (OwnI.ints (owned_keepN H21.out.2.2 fun g _ hl => hb22.block g hl)) (ints_two 1 0 hk22)).mono ?_
  rintro e w23 ⟨rfl, hb23⟩
  have hb2123 := hb22.trans (Below.mono hb23 hb22.size)
  have H23 := hide (And.intro (show CaseAt w23.heap.size w23 v0 c0 from (H21.out.1.alike hb2123.block).widen hb2123.size) hb2123)
  have HB23 := hide (show Blk w23 w18.heap.size 29 (caseC v0).toArray from HB21.out.below hb2123 HB21.out.lt)
  clear hb22 hb23 hk22 hb2123
  dsimp only
  obtain ⟨w24, hw24⟩ : ∃ w24, w24 = w23.alloc (.cells #[.int .i64 1, .int .i64 0] 3) := ⟨_, rfl⟩
  have hb24 : Below w23.heap.size w23 w24 := by rw [hw24]; exact (Below.refl _ w23).alloc (Nat.le_refl _) _
  have hk24 : Blk w24 w23.heap.size 3 #[.int .i64 1, .int .i64 0] := by rw [hw24]; exact Blk.new _ _ _
  have HW24 := hide hw24
  clear hw24
  have hd1 : decide (([1, 0] : List Int) = [1, 0]) = true := rfl
  rw [hd1]
  clear hd1
  go_wp2_with (first | (refine wpList_value_w (o := ⟨some 61, _, _, _, _, _⟩) (by kernel_rfl) (.agg (caseC v0).toArray) w23 (exec_load_blk (o := ⟨some 61, _, _, _, _, _⟩) 29 (.tmp 1) rfl w18.heap.size rfl 29 _ _ w23 HB23.out Try.underlying29 rfl hsz0) ?_) | (refine wpList_value_w (o := ⟨some 62, _, _, _, _, _⟩) (by kernel_rfl) (.slice (some ⟨w23.heap.size, 0, none⟩) 2 2) w24 (by rw [HW24.out]; kernel_rfl) ?_))
  have hC24 : CaseAt w24.heap.size w24 v0 c0 := (H23.out.1.alike hb24.block).widen hb24.size
  refine (free_any w24 v0 c0 c0_size hC24 [1, 0] (by simp) _ (ints_two 1 0 hk24)).mono ?_
  rintro e w25 ⟨rfl, hb25⟩
  rw [c0_least.2.2.1]
  have hb2325 := hb24.trans (Below.mono hb25 hb24.size)
  have H25 := hide (And.intro (show CaseAt w25.heap.size w25 v0 c0 from (H23.out.1.alike hb2325.block).widen hb2325.size) hb2325)
  have HB25 := hide (show Blk w25 w18.heap.size 29 (caseC v0).toArray from HB23.out.below hb2325 HB23.out.lt)
  clear hb24 hk24 hb25 hC24 hb2325
  dsimp only
  obtain ⟨w26, hw26⟩ : ∃ w26, w26 = w25.alloc (.cells #[.int .i64 0, .int .i64 0] 3) := ⟨_, rfl⟩
  have hb26 : Below w25.heap.size w25 w26 := by rw [hw26]; exact (Below.refl _ w25).alloc (Nat.le_refl _) _
  have hk26 : Blk w26 w25.heap.size 3 #[.int .i64 0, .int .i64 0] := by rw [hw26]; exact Blk.new _ _ _
  have HW26 := hide hw26
  clear hw26
  go_wp2_with (first | (refine wpList_value_w (o := ⟨some 66, _, _, _, _, _⟩) (by kernel_rfl) (.agg (caseC v0).toArray) w25 (exec_load_blk (o := ⟨some 66, _, _, _, _, _⟩) 29 (.tmp 1) rfl w18.heap.size rfl 29 _ _ w25 HB25.out Try.underlying29 rfl hsz0) ?_) | (refine wpList_value_w (o := ⟨some 67, _, _, _, _, _⟩) (by kernel_rfl) (.slice (some ⟨w25.heap.size, 0, none⟩) 2 2) w26 (by rw [HW26.out]; kernel_rfl) ?_))
  have hC26 : CaseAt w26.heap.size w26 v0 c0 := (H25.out.1.alike hb26.block).widen hb26.size
  refine (free_any w26 v0 c0 c0_size hC26 [0, 0] (by simp) _ (ints_two 0 0 hk26)).mono ?_
  rintro e w27 ⟨rfl, hb27⟩
  rw [c0_least.2.2.2]
  have hbf : Below w0.heap.size w0 w27 := HA.out.2.1.trans (Below.mono (H20.out.2.1.trans (Below.mono (H21.out.2.1.trans (Below.mono (H23.out.2.trans (Below.mono (H25.out.2.trans (Below.mono (hb26.trans (Below.mono hb27 hb26.size)) H25.out.2.size)) H23.out.2.size)) H21.out.2.1.size)) H20.out.2.1.size)) HA.out.2.1.size)
  have HF := hide hbf
  clear hbf hb26 hk26 hb27 hC26
  dsimp only
  go_wp2_with fail
  go_ret
  exact ⟨rfl, HF.out⟩
end Go.Proofs.Ytfppddnfdinipaa
end
section
namespace Go.Proofs.Ytfppddnfdinipaa
open Go Go.RowKit Go.Maps
set_option maxRecDepth 100000
theorem case_all {B : Nat} {w : World} {v : Cvs} {c : CaseP} (h : CaseAt B w v c) : (caseC v).toArray.all (·.oneCell') = true :=
  all_oneCell_toArray (caseC_one (pathsLay.one h.atF _ (by simp)) (hashesLay.one h.atC _ (by simp)) (rowsLay.one h.atO _ (by simp)) (madesLay.one h.atM _ (by simp)))
theorem lent_ints {w : World} {g cap : Nat} {ks : List Int} (h : Blk w g 3 (ivz (ks ++ marksInt)).toArray) : IntsAt w w.heap.size (.slice (some ⟨g, 0, none⟩) ks.length cap) ks := by
  refine ⟨_, _, rfl, fun i k hk => ⟨g, 0, rfl, h.lt, ?_⟩⟩
  rw [h.cell, Nat.zero_add]
  exact keptLI ks i k hk
set_option maxHeartbeats 8000000 in
theorem pickFree_any (w : World) (v : Cvs) (c : CaseP) (hl : LightC c) (hC : CaseAt w.heap.size w v c) (ks : List Int) (vk : Value) (hK : intLay.At w w.heap.size [vk] ks) :
    Calls Try.prog 4 #[.agg (caseC v).toArray, vk] w fun e w' => e = .returned (.bool true) ∧ Below w.heap.size w w' := by
  have ho : okH v.own := by rw [hC.own]; exact hC.okO
  have hsz0 := csz ho
  obtain ⟨A, capk, rfl, _, _, _, _⟩ := slice_open hK
  obtain ⟨w1, hw1⟩ : ∃ w1, w1 = w.alloc (.cells (caseC v).toArray 29) := ⟨_, rfl⟩
  have hb1 : Below w.heap.size w w1 := by rw [hw1]; exact (Below.refl _ w).alloc (Nat.le_refl _) _
  have hk1 : Blk w1 w.heap.size 29 (caseC v).toArray := by rw [hw1]; exact Blk.new _ _ _
  have HC1 := hide (And.intro (show CaseAt w1.heap.size w1 v c from (hC.alike hb1.block).widen hb1.size) (And.intro hk1 hb1))
  have HW1 := hide hw1
  have HK := hide hK
  clear hb1 hk1 hC hw1 hK
  go_enter Try.func4, Try.ntmps4
  go_wp2_with (first | (refine wpList_value (o := ⟨some 2, _, _, _, _, _⟩) rfl (.pointer (some ⟨w.heap.size, 0, none⟩)) w1 (by rw [HW1.out]; kernel_rfl) ?_) | (refine wpList_value (o := ⟨some 7, _, _, _, _, _⟩) rfl (.agg (caseC v).toArray) w1 (exec_load_blk (o := ⟨some 7, _, _, _, _, _⟩) 29 (.tmp 2) rfl w.heap.size rfl 29 _ _ w1 HC1.out.2.1 Try.underlying29 rfl hsz0) ?_))
  refine (great_any w1 v c hl HC1.out.1).mono ?_
  rintro e w2 ⟨rfl, hb⟩
  have HC2 := hide (And.intro (show CaseAt w2.heap.size w2 v c from (HC1.out.1.alike hb.block).widen hb.size) (And.intro (show Blk w2 w.heap.size 29 (caseC v).toArray from HC1.out.2.1.below hb HC1.out.2.1.lt) (show Below w.heap.size w w2 from HC1.out.2.2.trans (Below.mono hb HC1.out.2.2.size))))
  clear hb
  dsimp only
  by_cases hg : 120 < c.size
  · have hd : decide (120 < c.size) = true := decide_eq_true hg
    rw [hd]
    go_wp2_with fail
    refine (awake24_any w2).mono ?_
    rintro e w9 ⟨rfl, hb⟩
    dsimp only
    have HE := hide (show Below w.heap.size w w9 from HC2.out.2.2.trans (Below.mono hb HC2.out.2.2.size))
    clear hb
    go_wp2_with fail
    go_ret
    exact ⟨rfl, HE.out⟩
  · have hd : decide (120 < c.size) = false := decide_eq_false hg
    rw [hd]
    have hc : c.size ≤ 120 := by omega
    clear hd hg
    by_cases hk : 120 < ks.length
    · have hk' : (ks.length : Int) > 120 := by omega
      go_wp2_with fail
      refine (awake24_any w2).mono ?_
      rintro e w9 ⟨rfl, hb⟩
      dsimp only
      have HE := hide (show Below w.heap.size w w9 from HC2.out.2.2.trans (Below.mono hb HC2.out.2.2.size))
      clear hb
      go_wp2_with fail
      go_ret
      exact ⟨rfl, HE.out⟩
    · have hk' : ¬ (ks.length : Int) > 120 := by omega
      have hk9 : ks.length ≤ 1000000 := by omega
      go_wp2_with (refine wpList_value (o := ⟨some 15, _, _, _, _, _⟩) rfl (.agg (caseC v).toArray) w2 (exec_load_blk (o := ⟨some 15, _, _, _, _, _⟩) 29 (.tmp 2) rfl w.heap.size rfl 29 _ _ w2 HC2.out.2.1 Try.underlying29 rfl hsz0) ?_)
      refine (lent_any w2 v c hc HC2.out.1).mono ?_
      rintro e w3 ⟨v', rfl, hc', hl', hb⟩
      have HC3 := hide (And.intro (show CaseAt w3.heap.size w3 v c from (HC2.out.1.alike hb.block).widen hb.size) (And.intro (show Blk w3 w.heap.size 29 (caseC v).toArray from HC2.out.2.1.below hb HC2.out.2.1.lt) (show Below w.heap.size w w3 from HC2.out.2.2.trans (Below.mono hb HC2.out.2.2.size))))
      have HV3 := hide (And.intro hc' hl')
      clear hb hc' hl'
      dsimp only
      go_wp2_with fail
      refine (lentInts_any ks hk9 A _ capk w.heap.size w3 HC3.out.2.2.size (intLay.alike HK.out fun b hb => HC3.out.2.2.block b hb)).mono ?_
      rintro e w4 ⟨g, rfl, _, hg4, hb⟩
      have HC4 := hide (And.intro (show CaseAt w4.heap.size w4 v c from (HC3.out.1.alike hb.block).widen hb.size) (And.intro (show Blk w4 w.heap.size 29 (caseC v).toArray from HC3.out.2.1.below hb HC3.out.2.1.lt) (show Below w.heap.size w w4 from HC3.out.2.2.trans (Below.mono hb HC3.out.2.2.size))))
      have HV4 := hide (And.intro (show CaseAt w4.heap.size w4 v' c from (HV3.out.1.alike hb.block).widen hb.size) (And.intro (HV3.out.2.below hb) hg4))
      clear hb hg4 HV3
      dsimp only
      have hov : okH v'.own := by rw [HV4.out.1.own]; exact HV4.out.1.okO
      have hszv := csz hov
      have hallv := case_all HV4.out.1
      go_wp2_with ((with_reducible refine wpList_box (o1 := ⟨some 5, _, _, _, _, _⟩) (o2 := ⟨none, _, _, _, _, _⟩) rfl rfl 29 (.tmp 5) (.tmp 16) ?_ zcL.toArray (caseC v').toArray ?_ hszv ?_ ?_ ?_ ?_ ?_); rfl; kernel_rfl; (simp only [List.size_toArray, caseC_len hov]; kernel_rfl); exact hallv; rfl; rfl; intro w5 hm5 hb5; have H5 := hide (And.intro hm5 hb5); clear hm5 hb5; simp only [Act.put, List.setIfInBounds_toArray, List.set_cons_zero, List.set_cons_succ])
      have HC5 := hide (And.intro (show CaseAt w5.heap.size w5 v c from (HC4.out.1.alike H5.out.2.block).widen H5.out.2.size) (And.intro (show Blk w5 w.heap.size 29 (caseC v).toArray from HC4.out.2.1.below H5.out.2 HC4.out.2.1.lt) (show Below w.heap.size w w5 from HC4.out.2.2.trans (Below.mono H5.out.2 HC4.out.2.2.size))))
      have HV5 := hide (And.intro (show CaseAt w5.heap.size w5 v' c from (HV4.out.1.alike H5.out.2.block).widen H5.out.2.size) (And.intro (HV4.out.2.1.below H5.out.2) (And.intro (show Blk w5 g 3 (ivz (ks ++ marksInt)).toArray from HV4.out.2.2.below H5.out.2 HV4.out.2.2.lt) H5.out.1)))
      have HK5 := hide (show intLay.At w5 w.heap.size [.slice A ks.length capk] ks from intLay.alike HK.out fun b hb => HC5.out.2.2.block b hb)
      clear H5 HV4 hallv
      have hL : ∀ p ∈ ([(23, fun u W => ∃ v2, u = .agg (caseC v2).toArray ∧ CaseAt W.heap.size W v2 c)] : Fre.MadeL), Fre.MadeOk Blw p.2 := by
        intro p hp
        simp only [List.mem_cons, List.not_mem_nil, or_false] at hp
        subst hp
        exact ⟨fun u W W' h hx => by obtain ⟨v2, e, h1⟩ := h; have hx : Below W.heap.size W W' := hx; exact ⟨v2, e, (h1.alike hx.block).widen hx.size⟩⟩
      refine Fre.wp_made (X := Blw) 20 [(23, fun u W => ∃ v2, u = .agg (caseC v2).toArray ∧ CaseAt W.heap.size W v2 c)] (by kernel_rfl) (by kernel_rfl) hL (by simp) (by simp only [List.map_cons, List.map_nil, List.forall_mem_cons]; exact ⟨Nat.le_of_ble_eq_true (by kernel_rfl), fun _ h => by cases h⟩) ?_
      simp only [List.take_succ_cons, List.take_zero, List.drop_succ_cons, List.drop_zero]
      refine Fre.made_val (.agg (caseC v').toArray) (by kernel_rfl) (by kernel_rfl) (by kernel_rfl) (fun W9 hW9 => exec_load_blk (o := ⟨some 19, _, _, _, _, _⟩) 29 (.tmp 5) rfl w4.heap.size rfl 29 _ _ W9 (by have h9 : Below _ w5 W9 := hW9; exact HV5.out.2.2.2.below h9 HV5.out.2.2.2.lt) Try.underlying29 rfl hszv) ?_
      simp only [Act.put, List.setIfInBounds_toArray, List.set_cons_zero, List.set_cons_succ]
      refine Fre.made_val (.slice (some ⟨g, 0, none⟩) ks.length (ks.length + 12)) (by kernel_rfl) (by kernel_rfl) (by kernel_rfl) (fun _ _ => by kernel_rfl) ?_
      simp only [Act.put, List.setIfInBounds_toArray, List.set_cons_zero, List.set_cons_succ]
      refine Fre.made_call (.bool (freeB c ks)) 20 #[.agg (caseC v').toArray, .slice (some ⟨g, 0, none⟩) ks.length (ks.length + 12)] (by kernel_rfl) (by kernel_rfl) (by kernel_rfl) (fun W9 => by kernel_rfl) (fun W9 hW9 => ?k21) ?_
      case k21 =>
        have h9 : Below _ w5 W9 := hW9
        exact (free_any W9 v' c hc ((HV5.out.1.alike h9.block).widen h9.size) ks hk9 _ (lent_ints (HV5.out.2.2.1.below h9 HV5.out.2.2.1.lt))).mono fun e w' ⟨h1, h2⟩ => ⟨h1, h2⟩
      simp only [Act.put, List.setIfInBounds_toArray, List.set_cons_zero, List.set_cons_succ]
      refine Fre.made_val (.agg (caseC v).toArray) (by kernel_rfl) (by kernel_rfl) (by kernel_rfl) (fun W9 hW9 => exec_load_blk (o := ⟨some 22, _, _, _, _, _⟩) 29 (.tmp 2) rfl w.heap.size rfl 29 _ _ W9 (by have h9 : Below _ w5 W9 := hW9; exact HC5.out.2.1.below h9 HC5.out.2.1.lt) Try.underlying29 rfl hsz0) ?_
      simp only [Act.put, List.setIfInBounds_toArray, List.set_cons_zero, List.set_cons_succ]
      refine Fre.made_newcall 23 _ 15 #[.agg (caseC v).toArray] (by kernel_rfl) (by kernel_rfl) rfl rfl (fun _ => by kernel_rfl) (fun W9 hW9 => ?k23) ?_
      case k23 =>
        have h9 : Below _ w5 W9 := hW9
        refine (rcase_any W9 v c hc ((HC5.out.1.alike h9.block).widen h9.size)).mono ?_
        rintro e w' ⟨v2, rfl, h1, h2⟩
        exact ⟨_, rfl, h2, v2, rfl, h1⟩
      simp only [Act.put, List.setIfInBounds_toArray, List.set_cons_zero, List.set_cons_succ]
      refine Fre.made_val (.slice A ks.length capk) (by kernel_rfl) (by kernel_rfl) (by kernel_rfl) (fun _ _ => by kernel_rfl) ?_
      simp only [Act.put, List.setIfInBounds_toArray, List.set_cons_zero, List.set_cons_succ]
      refine Fre.made_call1 23 _ (.bool (freeB c ks)) 21 (fun u => #[u, .slice A ks.length capk]) (by kernel_rfl) rfl (by kernel_rfl) (by kernel_rfl) (fun u W9 => by kernel_rfl) (fun u W9 hW9 hu => ?k25) ?_
      case k25 =>
        have h9 : Below _ w5 W9 := hW9
        obtain ⟨v2, rfl, h1⟩ := hu
        refine (rfree_any W9 v2 c hc h1 ks hk9 _ (intLay_ints (intLay.widen (intLay.alike HK5.out fun b hb => h9.block b (by have := HC5.out.2.2.size; omega)) (by have := HC5.out.2.2.size; have := h9.size; omega)))).mono ?_
        rintro e w' ⟨rfl, h2⟩
        exact ⟨rfl, h2⟩
      simp only [Act.put, List.setIfInBounds_toArray, List.set_cons_zero, List.set_cons_succ]
      refine Fre.made_val (.bool true) (by kernel_rfl) (by kernel_rfl) (by kernel_rfl) (fun W9 hW9 => ?c26) ?_
      case c26 =>
        go_simp
      simp only [Act.put, List.setIfInBounds_toArray, List.set_cons_zero, List.set_cons_succ]
      refine Fre.made_val (.bool true) (by kernel_rfl) (by kernel_rfl) (by kernel_rfl) (fun _ _ => by kernel_rfl) ?_
      simp only [Act.put, List.setIfInBounds_toArray, List.set_cons_zero, List.set_cons_succ]
      refine Fre.made_val (.agg (caseC v').toArray) (by kernel_rfl) (by kernel_rfl) (by kernel_rfl) (fun W9 hW9 => exec_load_blk (o := ⟨some 28, _, _, _, _, _⟩) 29 (.tmp 5) rfl w4.heap.size rfl 29 _ _ W9 (by have h9 : Below _ w5 W9 := hW9; exact HV5.out.2.2.2.below h9 HV5.out.2.2.2.lt) Try.underlying29 rfl hszv) ?_
      simp only [Act.put, List.setIfInBounds_toArray, List.set_cons_zero, List.set_cons_succ]
      refine Fre.made_val (.agg (caseC v).toArray) (by kernel_rfl) (by kernel_rfl) (by kernel_rfl) (fun W9 hW9 => exec_load_blk (o := ⟨some 29, _, _, _, _, _⟩) 29 (.tmp 2) rfl w.heap.size rfl 29 _ _ W9 (by have h9 : Below _ w5 W9 := hW9; exact HC5.out.2.1.below h9 HC5.out.2.1.lt) Try.underlying29 rfl hsz0) ?_
      simp only [Act.put, List.setIfInBounds_toArray, List.set_cons_zero, List.set_cons_succ]
      refine Fre.made_call (.bool true) 18 #[.agg (caseC v').toArray, .agg (caseC v).toArray] (by kernel_rfl) (by kernel_rfl) (by kernel_rfl) (fun W9 => by kernel_rfl) (fun W9 hW9 => ?k30) ?_
      case k30 =>
        have h9 : Below _ w5 W9 := hW9
        exact (kept_any W9 v' v c hc ((HV5.out.1.alike h9.block).widen h9.size) (HV5.out.2.1.below h9) ((HC5.out.1.alike h9.block).widen h9.size)).mono fun e w' ⟨h1, h2⟩ => ⟨h1, h2⟩
      simp only [Act.put, List.setIfInBounds_toArray, List.set_cons_zero, List.set_cons_succ]
      refine Fre.made_val (.bool true) (by kernel_rfl) (by kernel_rfl) (by kernel_rfl) (fun _ _ => by kernel_rfl) ?_
      simp only [Act.put, List.setIfInBounds_toArray, List.set_cons_zero, List.set_cons_succ]
      refine Fre.made_val (.bool true) (by kernel_rfl) (by kernel_rfl) (by kernel_rfl) (fun _ _ => by kernel_rfl) ?_
      simp only [Act.put, List.setIfInBounds_toArray, List.set_cons_zero, List.set_cons_succ]
      refine Fre.made_val (.slice (some ⟨g, 0, none⟩) ks.length (ks.length + 12)) (by kernel_rfl) (by kernel_rfl) (by kernel_rfl) (fun _ _ => by kernel_rfl) ?_
      simp only [Act.put, List.setIfInBounds_toArray, List.set_cons_zero, List.set_cons_succ]
      refine Fre.made_val (.slice A ks.length capk) (by kernel_rfl) (by kernel_rfl) (by kernel_rfl) (fun _ _ => by kernel_rfl) ?_
      simp only [Act.put, List.setIfInBounds_toArray, List.set_cons_zero, List.set_cons_succ]
      refine Fre.made_call (.bool true) 22 #[.slice (some ⟨g, 0, none⟩) ks.length (ks.length + 12), .slice A ks.length capk] (by kernel_rfl) (by kernel_rfl) (by kernel_rfl) (fun W9 => by kernel_rfl) (fun W9 hW9 => ?k35) ?_
      case k35 =>
        have h9 : Below _ w5 W9 := hW9
        refine (keptInts_any ks hk9 _ g W9.heap.size W9 (intLay_ints (intLay.widen (intLay.alike HK5.out fun b hb => h9.block b (by have := HC5.out.2.2.size; omega)) (by have := HC5.out.2.2.size; have := h9.size; omega))) (HV5.out.2.2.1.below h9 HV5.out.2.2.1.lt)).mono ?_
        rintro e w' ⟨rfl, k, rfl⟩
        exact ⟨rfl, below_drewN (Below.refl _ W9) k⟩
      simp only [Act.put, List.setIfInBounds_toArray, List.set_cons_zero, List.set_cons_succ]
      refine Fre.made_val (.bool true) (by kernel_rfl) (by kernel_rfl) (by kernel_rfl) (fun _ _ => by kernel_rfl) ?_
      simp only [Act.put, List.setIfInBounds_toArray, List.set_cons_zero, List.set_cons_succ]
      refine Fre.made_val (.bool true) (by kernel_rfl) (by kernel_rfl) (by kernel_rfl) (fun _ _ => by kernel_rfl) ?_
      simp only [Act.put, List.setIfInBounds_toArray, List.set_cons_zero, List.set_cons_succ]
      refine Fre.made_call (.bool true) 11 #[] (by kernel_rfl) (by kernel_rfl) (by kernel_rfl) (fun W9 => by kernel_rfl) (fun W9 hW9 => ?k38) ?_
      case k38 =>
        have h9 : Below _ w5 W9 := hW9
        exact (awake24_any W9).mono fun e w' ⟨h1, h2⟩ => ⟨h1, h2⟩
      simp only [Act.put, List.setIfInBounds_toArray, List.set_cons_zero, List.set_cons_succ]
      show ∀ w', _ → _
      intro w6 hx6
      simp only [Fre.ended]
      intro u23 _
      simp only [Act.put, List.setIfInBounds_toArray, List.set_cons_zero, List.set_cons_succ]
      have HE := hide (show Below w.heap.size w w6 from HC5.out.2.2.trans (Below.mono (show Below w5.heap.size w5 w6 from hx6) HC5.out.2.2.size))
      clear hx6 hL
      go_wp2_with fail
      go_ret
      exact ⟨rfl, HE.out⟩
end Go.Proofs.Ytfppddnfdinipaa
end
section
namespace Go.Proofs.Ytfppddnfdinipaa
open Go Go.RowKit Go.Maps
set_option maxRecDepth 100000
theorem tryB_len {own : Hsh} {fuel : Int} {h : Hsh} {ps : List Pth} {of : List Mde} {go : List Pth → List Mde → Int → Res × Int} {m : Nat} (hg : ∀ ps of n, (go ps of n).1.row.length ≤ m) : ∀ (os : List Opt) (k : Nat) (n : Int), (tryB own fuel h ps of go k os n).1.row.length ≤ m + 1
  | [], _, _ => Nat.zero_le _
  | x :: xs, k, n => by
    unfold tryB
    have key : ∀ r : Res × Int, r.1.row.length ≤ m → (match r with
        | (.conflict, m) => tryB own fuel h ps of go (k + 1) xs m
        | (.fuel, m) => (.fuel, m)
        | (.ok l, m) => (.ok (k :: l), m) : Res × Int).1.row.length ≤ m + 1 := by
      rintro ⟨r, j⟩ hr
      cases r with
      | ok l => exact Nat.succ_le_succ hr
      | fuel => exact Nat.zero_le _
      | conflict => exact tryB_len hg xs (k + 1) j
    refine key _ ?_
    split
    · exact Nat.zero_le _
    · split
      · exact hg _ _ _
      · exact Nat.zero_le _
theorem fromB_len {own : Hsh} {fuel : Int} : ∀ (rows : List (Hsh × List Opt)) (ps : List Pth) (of : List Mde) (n : Int), (fromB own fuel rows ps of n).1.row.length ≤ rows.length
  | [], _, _, _ => Nat.zero_le _
  | (_, os) :: rows, _, _, n => tryB_len (fun ps of n => fromB_len rows ps of n) os 0 n
theorem least_len {c : CaseP} (hc : c.size ≤ 120) (f : Int) : (leastB c f).1.length ≤ 1000000 := by
  have h := (CaseP.bounds hc).2.2.2.2.2.1
  unfold leastB
  split
  · exact Nat.zero_le _
  · split
    · exact Nat.zero_le _
    · split
      · have := fromB_len (own := c.own) (fuel := max f 0) (c.cls.zip c.opts) c.fixed c.of 0
        rw [List.length_zip] at this
        dsimp only
        omega
      · exact Nat.zero_le _
end Go.Proofs.Ytfppddnfdinipaa
end
section
namespace Go.Proofs.Ytfppddnfdinipaa.ApI
open Go Go.RowKit
theorem info_int8 : (Try.prog.info? 3).map (fun i => (i.zero, i.size, i.bytes)) = some (some (.int .i64 0), 1, 8) := by kernel_rfl
theorem info_rowI : (Try.prog.info? 33).map (fun i => (i.zero, i.size, i.bytes)) = some (some (.slice none 0 0), 1, 24) := by kernel_rfl
/-- the mark of a place in a list of numbers -/
def mk (k i : Nat) : Int := 1000003 * ((k : Int) + 7) + (i : Int)
theorem mk_any (k i : Nat) (hk : k ≤ 1000000000) (hi : i ≤ 1000000000) (w : World) : Calls Try.prog 56 #[.int .i64 (k : Int), .int .i64 (i : Int)] w fun e w' => e = .returned (.int .i64 (mk k i)) ∧ w' = w :=
  mark_any (k : Int) (i : Int) (by omega) (by omega) w
theorem ivzL (l : List Int) : (ivz l).length = l.length := by simp [ivz]
theorem ivzA (a b : List Int) : ivz (a ++ b) = ivz a ++ ivz b := ivz_append a b
theorem ivz1 (l : List Int) : ∀ v ∈ ivz l, v.oneCell' = true := fun v hv => by
  obtain ⟨x, _, rfl⟩ := List.mem_map.1 hv
  rfl
theorem made_ivz (n : Nat) : madeCells #[.int .i64 0] n = (ivz (List.replicate n 0)).toArray := by
  apply Array.ext'
  apply List.ext_getElem?
  intro j
  by_cases hj : j < n
  · simp [madeCells, hj, ivz, Nat.mod_one]
  · simp [madeCells, hj, ivz]
/-- the marks of a row -/
def mks (k n : Nat) : List Int := (List.range n).map (mk k)
theorem length_mks (k n : Nat) : (mks k n).length = n := by simp [mks]
theorem mks_get (k n j : Nat) (h : j < n) : (ivz (mks k n))[j]? = some (.int .i64 (mk k j)) := by simp [ivz, mks, h]
theorem mks_succ (k n : Nat) : mks k (n + 1) = mks k n ++ [mk k n] := by simp [mks, List.range_succ]
theorem mks_take (k n m : Nat) (h : m ≤ n) : (mks k n).take m = mks k m := by
  simp only [mks, ← List.map_take, List.take_range]
  rw [Nat.min_eq_left h]
theorem ivz_take (l : List Int) (k : Nat) : (ivz l).take k = ivz (l.take k) := by simp [ivz, List.map_take]
theorem ivz_set' (l : List Int) (i : Nat) (x : Int) : (ivz l).set i (.int .i64 x) = ivz (l.set i x) := by simp [ivz, List.map_set]
/-- rows that one owns, and a list that holds them -/
structure Rows8 (w : World) (R q m : Nat) (us : Nat → Value) (ns : Nat → Nat) (L : Nat → List Int) : Prop where
  own : ∀ j, j < m → w.ownsRow R 3 1 (us j) (ns j) (ivz (L j))
  cell : ∀ j, j < m → w.cell? ⟨q, j, none⟩ = some (us j)
/-- the rows' places -/
def RS (m : Nat) (us : Nat → Value) (g : Nat) : Prop := ∃ j, j < m ∧ (us j).ownBlock = some g
structure Parted (q m : Nat) (us : Nat → Value) (ns : Nat → Nat) : Prop where
  dis : ∀ i j, i < m → j < m → i ≠ j → ∀ g, (us i).ownBlock = some g → (us j).ownBlock ≠ some g
  q_ : ¬ RS m us q
  small : ∀ j, j < m → ns j ≤ 1000000
theorem Rows8.len {w : World} {R q m : Nat} {us : Nat → Value} {ns : Nat → Nat} {L : Nat → List Int} (h : Rows8 w R q m us ns L) (j : Nat) (hj : j < m) : (L j).length = ns j := by
  have := (h.own j hj).1
  simpa [ivz] using this
theorem Rows8.keep {w w' : World} {R q m : Nat} {us : Nat → Value} {ns : Nat → Nat} {L : Nat → List Int} (h : Rows8 w R q m us ns L) (hk : ∀ b, b < w.heap.size → (b = q ∨ RS m us b) → w'.heap[b]? = w.heap[b]?) : Rows8 w' R q m us ns L :=
  ⟨fun j hj => owned_keep (h.own j hj) fun g hg hlt => hk g hlt (.inr ⟨j, hj, hg⟩), fun j hj => (World.cell?_of_block (hk q (World.block_lt_of_cell? w _ (h.cell j hj)) (.inl rfl))).trans (h.cell j hj)⟩
theorem Rows8.drewN {w : World} {R q m : Nat} {us : Nat → Value} {ns : Nat → Nat} {L : Nat → List Int} (h : Rows8 w R q m us ns L) (k : Nat) : Rows8 (w.drewN k) R q m us ns L := h.keep fun _ _ _ => rfl
/-- one cell of one row is written -/
theorem Rows8.set {w : World} {R q m g cap i k : Nat} {us : Nat → Value} {ns : Nat → Nat} {L : Nat → List Int} {x : Int} (h : Rows8 w R q m us ns L) (hp : Parted q m us ns) (hk : k < m) (hu : us k = .slice (some ⟨g, 0, none⟩) (ns k) cap) :
    Rows8 (w.setCell ⟨g, i, none⟩ (.int .i64 x)) R q m us ns (fun j => if j = k then (L k).set i x else L j) := by
  have hg : (us k).ownBlock = some g := by rw [hu]; rfl
  refine ⟨fun j hj => ?_, fun j hj => ?_⟩
  · by_cases hjk : j = k
    · subst hjk
      simp only [if_true]
      have h1 := h.own j hj
      rw [hu] at h1 ⊢
      rw [← ivz_set']
      exact own_set h1
    · simp only [if_neg hjk]
      exact owned_keep (h.own j hj) fun b hb _ => Below.heap_setCell w _ _ b (by rintro rfl; exact hp.dis k j hk hj (Ne.symm hjk) _ hg hb)
  · refine (World.cell?_setCell_other _ _ _ _ ?_).trans (h.cell j hj)
    intro e
    injection e with e
    exact hp.q_ ⟨k, hk, by rw [hg, e]⟩
end Go.Proofs.Ytfppddnfdinipaa.ApI
end
section
namespace Go.Proofs.Ytfppddnfdinipaa.ApI
open Go Go.RowKit
/-- what has been grown lies in its row's place, or behind all -/
def Off (r : Nat) (us : Nat → Value) (j : Nat) (v : Value) : Prop := v.ownBlock = (us j).ownBlock ∨ ∃ h, v.ownBlock = some h ∧ r < h
/-- rows, and those that have been grown so far -/
structure St (w wr : World) (R q r m k Sk : Nat) (us : Nat → Value) (ns : Nat → Nat) (V : Nat → Value) (G : Array Value) (C : Nat → List Int) : Prop where
  rows : Rows8 wr R q m us ns (fun j => mks j (ns j))
  gs : Blk wr r 33 G
  size : G.size = m
  cell : ∀ j, j < k → G[j]? = some (V j)
  own : ∀ j, j < k → wr.ownsRow R 3 1 (V j) (ns j + 64) (ivz (C j))
  take : ∀ j, j < k → (C j).take (ns j) = mks j (ns j)
  off : ∀ j, j < k → Off r us j (V j)
  old : ∀ j, j < k → ∀ h, (V j).ownBlock = some h → h < Sk
  ht : Turned (RS m us) w wr
  hs : Sk ≤ wr.heap.size
  rs : r < Sk
structure Env (w : World) (q r m : Nat) (us : Nat → Value) (ns : Nat → Nat) : Prop where
  hp : Parted q m us ns
  us_ : ∀ j, j < m → ∀ g, (us j).ownBlock = some g → g < r
  q_ : q < r
  w_ : w.heap.size ≤ r
variable {w wr : World} {R q r m k Sk : Nat} {us : Nat → Value} {ns : Nat → Nat} {V : Nat → Value} {G : Array Value} {C : Nat → List Int}
/-- only some blocks turn, none of these -/
theorem St.keep {w5 : World} (h : St w wr R q r m k Sk us ns V G C) (he : Env w q r m us ns) (ht : Turned (RS m us) w w5) (hs : wr.heap.size ≤ w5.heap.size)
    (hb : ∀ b, b < wr.heap.size → b < Sk → w5.heap[b]? = wr.heap[b]?) : St w w5 R q r m k Sk us ns V G C := by
  have hrs := h.rs
  have hss := h.hs
  refine ⟨h.rows.keep fun b hlt hor => hb b hlt ?_, (hb r h.gs.lt hrs).trans h.gs, h.size, h.cell, fun j hj => owned_keep (h.own j hj) fun g hg hlt => hb g hlt (h.old j hj g hg), h.take, h.off, h.old, ht, by omega, hrs⟩
  rcases hor with rfl | ⟨j, hj, hg⟩
  · have := he.q_; omega
  · have := he.us_ j hj b hg; omega
theorem block_slice (A : Option Addr) (n n' c : Nat) : (Value.slice A n c).ownBlock = (Value.slice A n' c).ownBlock := by cases A <;> rfl
theorem St.grow {A A' : Option Addr} {c cap' n' mm : Nat} {l ms : List Int} {v5 : Value} {w5 : World} (h : St w wr R q r m k Sk us ns V G C) (he : Env w q r m us ns) (hk : k < m) (hu : us k = .slice A (ns k) c)
    (hl : l.take (ns k) = mks k (ns k)) (hn : ns k ≤ n') (hln : l.length = n') (hpl : (A' = A ∧ cap' = c) ∨ ∃ h, A' = some ⟨h, 0, none⟩ ∧ Sk ≤ h)
    (own5 : w5.ownsRow R 3 1 v5 (n' + mm) (ivz l ++ ivz ms)) (gr5 : wr.grownBy w5 (Value.slice A' n' cap').ownBlock) (grew : Grew wr w5 (.slice A' n' cap') v5 n' mm) :
    St w w5 R q r m k Sk us ns V G C ∧ ∃ A5 c5, v5 = .slice A5 (n' + mm) c5 ∧ ((A5 = A ∧ c5 = c) ∨ ∃ h, A5 = some ⟨h, 0, none⟩ ∧ Sk ≤ h) := by
  have hrs := h.rs
  have hss := h.hs
  rcases grew with ⟨g, cp, e1, rfl⟩ | ⟨hnew, hbel⟩
  · injection e1 with e1 _ e3
    subst e1 e3
    have hgr : wr.grownBy w5 (some g) := gr5
    refine ⟨?_, _, _, rfl, hpl⟩
    rcases hpl with ⟨rfl, rfl⟩ | ⟨h', e, hge⟩
    · have hg : (us k).ownBlock = some g := by rw [hu]; rfl
      have hgr2 := he.us_ k hk g hg
      refine ⟨⟨fun j hj => ?_, fun j hj => ?_⟩, h.gs.grown hgr (fun e => by injection e with e; omega), h.size, h.cell, fun j hj => ?_, h.take, h.off, h.old, h.ht.then_ (Turned.of_grown (S := RS m us) hgr (fun b hb _ => by injection hb with hb; exact ⟨k, hk, by rw [hg, hb]⟩)) (fun _ _ h => h), by have := hgr.size; omega, hrs⟩
      · by_cases hjk : j = k
        · subst hjk
          rw [hu]
          have h1 := own_cut own5 (k := ns j) (by omega)
          rw [← ivzA, ivz_take, List.take_append_of_le_length (by omega), hl] at h1
          exact h1
        · exact owned_keep (h.rows.own j hj) fun b hb hlt => hgr.block b hlt (fun e => by injection e with e; subst e; exact he.hp.dis k j hk hj (Ne.symm hjk) _ hg hb)
      · have hq := World.block_lt_of_cell? wr _ (h.rows.cell j hj)
        exact (World.cell?_of_block (hgr.block q hq (fun e => by injection e with e; subst e; exact he.hp.q_ ⟨k, hk, hg⟩))).trans (h.rows.cell j hj)
      · refine owned_keep (h.own j hj) fun b hb hlt => hgr.block b hlt (fun e => ?_)
        injection e with e
        subst e
        rcases h.off j hj with h1 | ⟨x, h1, h2⟩
        · rw [h1] at hb
          exact he.hp.dis j k (by omega) hk (by omega) _ hb hg
        · rw [h1] at hb
          injection hb with hb
          omega
    · injection e with e
      injection e with e
      subst e
      refine h.keep he (h.ht.then_ (Turned.of_grown (S := fun b => b = g) hgr (fun b hb _ => by injection hb with hb; exact hb.symm)) (fun b hb e => ?_)) hgr.size (fun b hlt hbs => hgr.block b hlt (fun e => by injection e with e; omega))
      subst e
      have := he.w_
      omega
  · refine ⟨h.keep he (h.ht.then_ (Turned.of_below hbel (fun _ => False)) (fun _ _ h => h.elim)) hbel.size (fun b hlt _ => hbel.block b hlt), ?_⟩
    rcases owned_form own5 with ⟨rfl, _⟩ | ⟨g, cap, cur, rfl, _⟩
    · cases hnew
    · injection hnew with hnew
      change g = wr.heap.size at hnew
      exact ⟨_, _, rfl, .inr ⟨g, rfl, by omega⟩⟩
/-- what has been grown is put into the list -/
theorem St.put {A A' : Option Addr} {c c' : Nat} {l : List Int} (h : St w wr R q r m k Sk us ns V G C) (he : Env w q r m us ns) (hk : k < m) (hu : us k = .slice A (ns k) c)
    (hl : l.take (ns k) = mks k (ns k)) (hv : wr.ownsRow R 3 1 (.slice A' (ns k + 64) c') (ns k + 64) (ivz l)) (hpl : (A' = A ∧ c' = c) ∨ ∃ h, A' = some ⟨h, 0, none⟩ ∧ Sk ≤ h) :
    St w (wr.setCell ⟨r, k, none⟩ (.slice A' (ns k + 64) c')) R q r m (k + 1) wr.heap.size us ns (fun j => if j = k then .slice A' (ns k + 64) c' else V j) (G.setIfInBounds k (.slice A' (ns k + 64) c')) (fun j => if j = k then l else C j) := by
  have hrs := h.rs
  have hss := h.hs
  have hb : ∀ b, b ≠ r → (wr.setCell ⟨r, k, none⟩ (.slice A' (ns k + 64) c')).heap[b]? = wr.heap[b]? := fun b hb => Below.heap_setCell wr _ _ b hb
  have hne : ∀ {v : Value} {n : Nat} {xs : List Value}, wr.ownsRow R 3 1 v n xs → ∀ g, v.ownBlock = some g → g ≠ r := fun {v n xs} ho g hg e => by
    subst e
    exact owned_ne ho h.gs (by decide) hg
  refine ⟨h.rows.keep fun b hlt hor => hb b ?_, h.gs.set_ k _, by rw [Array.size_setIfInBounds]; exact h.size, fun j hj => ?_, fun j hj => ?_, fun j hj => ?_, fun j hj => ?_, fun j hj b hb => ?_, h.ht.setCell (fun hlt => by have := he.w_; change r < w.heap.size at hlt; omega) _, by simp [World.setCell], by omega⟩
  · rcases hor with rfl | ⟨j, hj, hg⟩
    · have := he.q_; omega
    · have := he.us_ j hj b hg; omega
  · by_cases hjk : j = k
    · subst hjk
      simp only [if_true]
      rw [Array.getElem?_setIfInBounds_self_of_lt (by rw [h.size]; exact hk)]
    · simp only [if_neg hjk]
      rw [Array.getElem?_setIfInBounds_ne (Ne.symm hjk)]
      exact h.cell j (by omega)
  · by_cases hjk : j = k
    · subst hjk
      simp only [if_true]
      exact owned_keep hv fun g hg _ => hb g (hne hv g hg)
    · simp only [if_neg hjk]
      exact owned_keep (h.own j (by omega)) fun g hg _ => hb g (hne (h.own j (by omega)) g hg)
  · by_cases hjk : j = k
    · subst hjk
      simp only [if_true]
      exact hl
    · simp only [if_neg hjk]
      exact h.take j (by omega)
  · by_cases hjk : j = k
    · subst hjk
      simp only [if_true]
      rcases hpl with ⟨rfl, rfl⟩ | ⟨x, rfl, hx⟩
      · exact .inl (by rw [hu]; exact block_slice _ _ _ _)
      · exact .inr ⟨x, rfl, by omega⟩
    · simp only [if_neg hjk]
      exact h.off j (by omega)
  · by_cases hjk : j = k
    · subst hjk
      simp only [if_true] at hb
      exact (owned_lt hv hb).2
    · simp only [if_neg hjk] at hb
      exact (owned_lt (h.own j (by omega)) hb).2
theorem St.drewN (h : St w wr R q r m k Sk us ns V G C) (he : Env w q r m us ns) (d : Nat) : St w (wr.drewN d) R q r m k Sk us ns V G C := h.keep he (h.ht.drewN d) (Nat.le_refl _) fun _ _ _ => rfl
theorem St.zero (h : St w wr R q r m k Sk us ns V G C) : St w wr R q r m 0 Sk us ns V G C :=
  ⟨h.rows, h.gs, h.size, fun j hj => absurd hj (by omega), fun j hj => absurd hj (by omega), fun j hj => absurd hj (by omega), fun j hj => absurd hj (by omega), fun j hj => absurd hj (by omega), h.ht, h.hs, h.rs⟩
theorem src_blk {w : World} {p n : Nat} {t : TypeId} {l : List Int} (h : Blk w p t (ivz l).toArray) (hn : l.length = n) : Src w (some ⟨p, 0, none⟩) n n (ivz l) :=
  ⟨by rw [ivzL]; exact hn, (by intro h; cases h), ivz1 l, (by
    intro ad had j u hu
    injection had with had
    subst had
    have h1 := h.cell j
    rw [List.getElem?_toArray, hu] at h1
    have e : (⟨p, 0, none⟩ : Addr).add j = ⟨p, j, none⟩ := by unfold Addr.add; split <;> simp_all
    rw [e]; exact h1)⟩
/-- the cell of a list, and of what stands there -/
theorem St.at_ (h : St w wr R q r m k Sk us ns V G C) {j : Nat} (hj : j < k) : wr.cell? ⟨r, j, none⟩ = some (V j) := (h.gs.cell j).trans (h.cell j hj)
theorem St.spot (h : St w wr R q r m k Sk us ns V G C) {j : Nat} (hj : j < m) : (∃ u, wr.cell? ⟨r, j, none⟩ = some u) ∧ wr.frozen? ⟨r, j, none⟩ = false :=
  ⟨⟨_, (h.gs.cell j).trans (Array.getElem?_eq_getElem (by rw [h.size]; exact hj))⟩, h.gs.frozen j⟩
theorem mark_at {l : List Int} {k n i : Nat} (h : l.take n = mks k n) (hi : i < n) : (ivz l)[i]? = some (.int .i64 (mk k i)) := by
  rw [← mks_get k n i hi, ← h, ← ivz_take, List.getElem?_take_of_lt hi]
theorem row_at (h : St w wr R q r m k Sk us ns V G C) {j i g c : Nat} (hj : j < m) (hu : us j = .slice (some ⟨g, 0, none⟩) (ns j) c) (hi : i < ns j) : wr.cell? ⟨g, i, none⟩ = some (.int .i64 (mk j i)) := by
  have h1 := h.rows.own j hj
  rw [hu] at h1
  exact (own_cell h1 i hi).1.trans (mks_get j _ i hi)
end Go.Proofs.Ytfppddnfdinipaa.ApI
end
section
namespace Go.Proofs.Ytfppddnfdinipaa.ApI
open Go Go.RowKit
set_option maxRecDepth 100000 in
set_option maxHeartbeats 4000000 in
theorem flatInts_any (R q m cap : Nat) (us : Nat → Value) (ns : Nat → Nat) (L0 : Nat → List Int) (hm : m ≤ 1000) (w : World) (hR : R ≤ w.heap.size) (hq : q < w.heap.size) (hr0 : Rows8 w R q m us ns L0) (hp : Parted q m us ns) :
    Calls Try.prog 99 #[.slice (some ⟨q, 0, none⟩) m cap] w fun e w' => e = .returned (.bool true) ∧ Turned (RS m us) w w' := by
  obtain ⟨i8, hi, hz0, hz1, hz2'⟩ := info_parts info_int8
  obtain ⟨ir, hir, rz0, rz1, rz2⟩ := info_parts info_rowI
  have HR0 := hide hr0
  have HP := hide hp
  clear hr0 hp
  go_enter Try.func99, Try.ntmps99
  go_wp2_with fail
  go_loopw [3] (fun v wr => ∃ (k : Nat) (L : Nat → List Int), k ≤ m ∧ v = .int .i64 (k : Int) ∧ Rows8 wr R q m us ns L ∧ (∀ j, j < k → L j = mks j (ns j)) ∧ Turned (RS m us) w wr) (fun v _ => m - (intOf v).toNat)
  case atStart => exact ⟨0, L0, by omega, rfl, HR0.out, fun j hj => absurd hj (by omega), Turned.refl _ _⟩
  case round =>
    obtain ⟨k, L, hk, rfl, hrow, hdone, ht⟩ := hrel
    have HX := hide (And.intro hrow (And.intro hdone ht))
    clear hrow hdone ht
    by_cases hkm : k < m
    · have n1 : (0 : Int) ≤ (k : Int) := by omega
      have n2 : (k : Int) < (m : Int) := by omega
      obtain ⟨A, c, hu⟩ := owned_slice (HX.out.1.own k hkm)
      have cq := HX.out.1.cell k hkm
      rw [hu] at cq
      have HU := hide hu
      have hnk : ns k ≤ 1000000 := HP.out.small k hkm
      clear hu
      go_wp2_with fail
      clear cq
      go_loopw [4] (fun v wr2 => ∃ (i : Nat) (L' : Nat → List Int), i ≤ ns k ∧ v = .int .i64 (i : Int) ∧ Rows8 wr2 R q m us ns L' ∧ (∀ j, j < k → L' j = mks j (ns j)) ∧ (L' k).take i = mks k i ∧ Turned (RS m us) w wr2) (fun v _ => ns k - (intOf v).toNat)
      case atStart => exact ⟨0, L, by omega, rfl, HX.out.1, HX.out.2.1, by simp [mks], HX.out.2.2⟩
      case round =>
        obtain ⟨i, L', hi2, rfl, hrow, hdone, htk, ht⟩ := hrel
        have HY := hide (And.intro hrow (And.intro hdone (And.intro htk ht)))
        have cq := HY.out.1.cell k hkm
        rw [HU.out] at cq
        clear hrow hdone htk ht
        by_cases hin : i < ns k
        · obtain ⟨g, c2, hu2, hg2⟩ := own_place (HY.out.1.own k hkm) (by omega)
          obtain ⟨rfl, rfl⟩ : A = some ⟨g, 0, none⟩ ∧ c = c2 := by
            rw [HU.out] at hu2
            injection hu2 with e1 _ e3
            exact ⟨e1, e3⟩
          have hown := HY.out.1.own k hkm
          rw [HU.out] at hown
          have hlen := HY.out.1.len k hkm
          obtain ⟨cg, fg⟩ := own_cell hown i hin
          obtain ⟨u0, hu0⟩ : ∃ u, (ivz (L' k))[i]? = some u := ⟨_, List.getElem?_eq_getElem (by rw [ivzL]; omega)⟩
          rw [hu0] at cg
          have hlt := (owned_lt hown rfl).2
          have i1 : (0 : Int) ≤ (i : Int) := by omega
          have i2 : (i : Int) < (ns k : Int) := by omega
          have hib : i ≤ 1000000000 := by omega
          have hkb : k ≤ 1000000000 := by omega
          clear hown hg2 hu2 hu0
          go_wp2_with fail
          refine wp_quiet_tail_drewN 9 (by kernel_rfl) (by kernel_rfl) ?_
          simp only [List.take_succ_cons, List.take_zero, List.drop_succ_cons, List.drop_zero]
          repeat (go_big_quiet_step ((go_at_call 56; exact Calls.quiet_of_same (mk_any k i hkb hib _))))
          refine wpQuiet_nil ?_
          intro nq
          go_wp2_with fail
          go_roundw
          case rel =>
            refine ⟨i + 1, (fun j => if j = k then (L' k).set i (mk k i) else L' j), by omega, by go_num, (HY.out.1.drewN nq).set HP.out hkm HU.out, fun j hj => ?_, ?_, (HY.out.2.2.2.drewN nq).setCell (fun _ => ⟨k, hkm, by rw [HU.out]; rfl⟩) _⟩
            · show (if j = k then _ else _) = _
              rw [if_neg (by omega)]
              exact HY.out.2.1 j hj
            · simp only [if_true]
              rw [mks_succ, ← HY.out.2.2.1, List.take_add_one, List.take_set_of_le (Nat.le_refl _)]
              rw [List.getElem?_set_self (by omega)]
              rfl
          case measure => simp [intOf]; omega
        · obtain rfl : i = ns k := by omega
          go_wp2_with fail
          go_roundw
          case rel =>
            refine ⟨k + 1, L', by omega, by go_num, HY.out.1, fun j hj => ?_, HY.out.2.2.2⟩
            by_cases hjk : j = k
            · subst hjk
              have h := HY.out.2.2.1
              rw [List.take_of_length_le (Nat.le_of_eq (HY.out.1.len _ hkm))] at h
              exact h
            · exact HY.out.2.1 j (by omega)
          case measure => simp [intOf]; omega
    · obtain rfl : m = k := by omega
      have hr1 : Rows8 wr R q m us ns (fun j => mks j (ns j)) := ⟨fun j hj => by have := HX.out.1.own j hj; rw [HX.out.2.1 j hj] at this; exact this, HX.out.1.cell⟩
      have ht1 := HX.out.2.2
      obtain ⟨r, hr⟩ : ∃ r, r = wr.heap.size := ⟨_, rfl⟩
      obtain ⟨w1, hw1⟩ : ∃ w1, w1 = wr.alloc (.cells (madeCells #[.slice none 0 0] m) 33) := ⟨_, rfl⟩
      have hsz1 : w1.heap.size = r + 1 := by rw [hw1, hr, size_alloc]
      have hst0 : St w w1 R q r m 0 (r + 1) us ns us (madeCells #[.slice none 0 0] m) (fun _ => []) := by
        have hal : Below wr.heap.size wr w1 := by rw [hw1]; exact (Below.refl _ _).alloc (Nat.le_refl _) _
        refine ⟨hr1.keep fun b hlt _ => hal.block b hlt, by rw [hw1, hr]; exact Blk.new _ _ _, by simp [madeCells], fun j hj => absurd hj (by omega), fun j hj => absurd hj (by omega), fun j hj => absurd hj (by omega), fun j hj => absurd hj (by omega), fun j hj => absurd hj (by omega), by rw [hw1]; exact ht1.alloc _, by omega, by omega⟩
      have he : Env w q r m us ns := ⟨HP.out, fun j hj g hg => by rw [hr]; exact (owned_lt (hr1.own j hj) hg).2, by have := ht1.size; omega, by have := ht1.size; omega⟩
      have HE := hide he
      have HS0 := hide hst0
      have HSZ := hide hsz1
      have HR := hide (And.intro hr hw1)
      clear HX hr1 ht1 HR0 he hst0 hsz1 hr hw1
      go_wp2_with (at_make; refine wpList_make_row _ rfl _ _ 44 rfl 33 ir (.slice none 0 0) Try.underlying44 hir rz0 rz1 rfl _ _ m rfl rfl ?e0 ?e1 ?_)
      case e0 => rw [rz2]; omega
      case e1 => omega
      rw [← HR.out.2, ← HR.out.1]
      go_wp2_with fail
      go_loopw [6] (fun v wr2 => ∃ (k : Nat) (Sk : Nat) (V : Nat → Value) (G : Array Value), k ≤ m ∧ v = .int .i64 (k : Int) ∧ St w wr2 R q r m k Sk us ns V G (fun j => mks j (ns j + 64))) (fun v _ => m - (intOf v).toNat)
      case atStart => exact ⟨0, r + 1, us, _, by omega, rfl, ⟨HS0.out.rows, HS0.out.gs, HS0.out.size, fun j hj => absurd hj (by omega), fun j hj => absurd hj (by omega), fun j hj => absurd hj (by omega), fun j hj => absurd hj (by omega), fun j hj => absurd hj (by omega), HS0.out.ht, HS0.out.hs, HS0.out.rs⟩⟩
      case round =>
        obtain ⟨k, Sk, V, G, hk, rfl, hst⟩ := hrel
        have HST := hide hst
        clear hst
        by_cases hkm : k < m
        · have n1 : (0 : Int) ≤ (k : Int) := by omega
          have n2 : (k : Int) < (m : Int) := by omega
          obtain ⟨A, c, hu⟩ := owned_slice (HST.out.rows.own k hkm)
          have cq := HST.out.rows.cell k hkm
          rw [hu] at cq
          have HU := hide hu
          have hnk : ns k ≤ 1000000 := HP.out.small k hkm
          clear hu HS0
          go_wp2_with fail
          clear cq
          go_loopw [7, 8] (fun g v wr3 => ∃ (i : Nat) (A' : Option Addr) (c' : Nat), i ≤ 64 ∧ v = .int .i64 (i : Int) ∧ g = .slice A' (ns k + i) c' ∧ wr3.ownsRow R 3 1 g (ns k + i) (ivz (mks k (ns k + i))) ∧ ((A' = A ∧ c' = c) ∨ ∃ h, A' = some ⟨h, 0, none⟩ ∧ Sk ≤ h) ∧ St w wr3 R q r m k Sk us ns V G (fun j => mks j (ns j + 64))) (fun _ v _ => 64 - (intOf v).toNat)
          case atStart => exact ⟨0, A, c, by omega, rfl, rfl, by rw [← HU.out]; exact HST.out.rows.own k hkm, .inl ⟨rfl, rfl⟩, HST.out⟩
          case round =>
            obtain ⟨i, A', c', hi64, rfl, rfl, hown, hpl, hst3⟩ := hrel
            have cq := hst3.rows.cell k hkm
            rw [HU.out] at cq
            have HY := hide (And.intro hown (And.intro hpl hst3))
            clear hown hpl hst3
            by_cases h64 : i < 64
            · obtain ⟨z, hz⟩ : ∃ z : Nat, (ns k : Int) + (i : Int) = (z : Int) := ⟨ns k + i, by omega⟩
              have hz2 : z = ns k + i := by omega
              have HZ := hide hz2
              have hzb : z ≤ 1000000000 := by omega
              have hkb : k ≤ 1000000000 := by omega
              have hR3 : R ≤ wr.heap.size := by have := HY.out.2.2.ht.size; omega
              clear hz2
              go_wp2_with (first
                | (go_at_call 56; refine (mk_any k z hkb hzb _).mono ?_; rintro e w' ⟨rfl, rfl⟩)
                | (at_builtin; (refine wpList_app2 (o := ⟨some 68, _, _, _, _, _⟩) rfl (.tmp 57) (.tmp 67) 33 rfl R 3 i8 (.int .i64 0) 8 Try.underlying33 hi hz0 hz1 hz2' rfl (.slice A' (ns k + i) c') (ns k + i) (ivz (mks k (ns k + i))) (HY.out.1.alloc _) _ 1 1 [.int .i64 (mk k z)] (src_one _ _ _ rfl) ?hm ?h1 ?h2 ?h3 rfl rfl ?_)))
              case hm => omega
              case h1 => simp only [maxLen]; omega
              case h2 => omega
              case h3 => rw [size_alloc]; omega
              intro v5 w5 own5 gr5 grew5
              have hstA := HY.out.2.2.keep HE.out (HY.out.2.2.ht.alloc (.cells #[.int .i64 (mk k z)] 3)) (by rw [size_alloc]; omega) (fun b hlt _ => Below.heap_alloc _ _ b hlt)
              obtain ⟨hst5, A5, c5, rfl, hpl5⟩ := hstA.grow (ms := [mk k z]) HE.out hkm HU.out (mks_take k _ _ (by omega)) (by omega) (length_mks _ _) HY.out.2.1 own5 gr5 grew5
              have H5 := hide (And.intro own5 (And.intro hpl5 hst5))
              clear own5 gr5 grew5 hstA hst5 hpl5 cq
              go_wp2_with fail
              go_roundw
              case rel =>
                refine ⟨i + 1, A5, c5, by omega, by go_num, rfl, ?_, H5.out.2.1, H5.out.2.2⟩
                have h1 := H5.out.1
                rw [HZ.out] at h1
                rw [show ns k + (i + 1) = ns k + i + 1 from rfl, mks_succ, ivzA]
                exact h1
              case measure => simp [intOf]; omega
            · obtain rfl : i = 64 := by omega
              obtain ⟨⟨u1, cr⟩, fr⟩ := HY.out.2.2.spot hkm
              have hrl := HY.out.2.2.gs.lt
              go_wp2_with fail
              go_roundw
              case rel =>
                have e : (fun j => if j = k then mks k (ns k + 64) else mks j (ns j + 64)) = (fun j => mks j (ns j + 64)) := by
                  funext j
                  by_cases hj : j = k
                  · rw [if_pos hj, hj]
                  · rw [if_neg hj]
                have h1 := HY.out.2.2.put HE.out hkm HU.out (mks_take k _ _ (by omega)) HY.out.1 HY.out.2.1
                rw [e] at h1
                exact ⟨k + 1, _, _, _, by omega, by go_num, h1⟩
              case measure => simp [intOf]; omega
        · obtain rfl : m = k := by omega
          clear HS0
          go_wp2_with fail
          go_loopw [9] (fun v wr3 => ∃ k : Nat, k ≤ m ∧ v = .int .i64 (k : Int) ∧ St w wr3 R q r m m Sk us ns V G (fun j => mks j (ns j + 64))) (fun v _ => m - (intOf v).toNat)
          case atStart => exact ⟨0, by omega, rfl, HST.out⟩
          case round =>
            obtain ⟨k, hk, rfl, hst3⟩ := hrel
            have H3 := hide hst3
            clear hst3 HST
            by_cases hkm : k < m
            · have n1 : (0 : Int) ≤ (k : Int) := by omega
              have n2 : (k : Int) < (m : Int) := by omega
              obtain ⟨A, c, hu⟩ := owned_slice (H3.out.rows.own k hkm)
              obtain ⟨g2, c2, hV, _⟩ := own_place (H3.out.own k hkm) (by omega)
              have hnk : ns k ≤ 1000000 := HP.out.small k hkm
              have HU := hide (And.intro hu hV)
              clear hu hV
              go_wp2_with fail
              go_loopw [10] (fun v wr3 => ∃ i : Nat, i ≤ ns k + 64 ∧ v = .int .i64 (i : Int) ∧ St w wr3 R q r m m Sk us ns V G (fun j => mks j (ns j + 64))) (fun v _ => ns k + 64 - (intOf v).toNat)
              case atStart => exact ⟨0, by omega, rfl, H3.out⟩
              case round =>
                obtain ⟨i, hi6, rfl, hst4⟩ := hrel
                have cq := hst4.rows.cell k hkm
                have cr := hst4.at_ hkm
                rw [HU.out.1] at cq
                rw [HU.out.2] at cr
                have H4 := hide hst4
                clear hst4
                by_cases hin : i < ns k + 64
                · have i1 : (0 : Int) ≤ (i : Int) := by omega
                  have i2 : (i : Int) < (ns k : Int) + 64 := by omega
                  have hib : i ≤ 1000000000 := by omega
                  have hkb : k ≤ 1000000000 := by omega
                  have cg : wr.cell? ⟨g2, i, none⟩ = some (.int .i64 (mk k i)) := by
                    have h1 := H4.out.own k hkm
                    rw [HU.out.2] at h1
                    exact (own_cell h1 i hin).1.trans (mks_get k _ i hin)
                  by_cases hil : i < ns k
                  · obtain ⟨g1, c1, hu1, _⟩ := own_place (H4.out.rows.own k hkm) (by omega)
                    have cu := row_at H4.out hkm hu1 hil
                    obtain ⟨rfl, rfl⟩ : A = some ⟨g1, 0, none⟩ ∧ c = c1 := by
                      rw [HU.out.1] at hu1
                      injection hu1 with e1 _ e3
                      exact ⟨e1, e3⟩
                    have i3 : (i : Int) < (ns k : Int) := by omega
                    have d1 : decide ((i : Int) < (ns k : Int)) = true := decide_eq_true i3
                    clear hu1
                    go_wp2_with fail
                    go_quiet ((go_at_call 56; exact Calls.quiet_of_same (mk_any k i hkb hib _)))
                    go_wp2_with fail
                    go_roundw
                    case rel => exact ⟨i + 1, by omega, by go_num, H4.out.drewN HE.out _⟩
                    case measure => simp [intOf]; omega
                  · have i3 : ¬ (i : Int) < (ns k : Int) := by omega
                    have d1 : decide ((i : Int) < (ns k : Int)) = false := decide_eq_false i3
                    have d2 : decide (ns k ≤ i) = true := decide_eq_true (by omega)
                    have d3 : decide (i < ns k) = false := decide_eq_false (by omega)
                    go_wp2_with fail
                    go_quiet ((go_at_call 56; exact Calls.quiet_of_same (mk_any k i hkb hib _)))
                    go_wp2_with fail
                    go_roundw
                    case rel => exact ⟨i + 1, by omega, by go_num, H4.out.drewN HE.out _⟩
                    case measure => simp [intOf]; omega
                · obtain rfl : i = ns k + 64 := by omega
                  have i2 : ¬ (((ns k + 64 : Nat)) : Int) < (ns k : Int) + 64 := by omega
                  go_wp2_with fail
                  go_roundw
                  case rel => exact ⟨k + 1, by omega, by go_num, H4.out⟩
                  case measure => simp [intOf]; omega
            · obtain rfl : m = k := by omega
              have H6 := hide H3.out.zero
              clear H3
              go_wp2_with fail
              go_loopw [11] (fun v wr3 => ∃ (k : Nat) (Sk : Nat) (V : Nat → Value) (G : Array Value) (C : Nat → List Int), k ≤ m ∧ v = .int .i64 (k : Int) ∧ St w wr3 R q r m k Sk us ns V G C) (fun v _ => m - (intOf v).toNat)
              case atStart => exact ⟨0, Sk, V, G, _, by omega, rfl, H6.out⟩
              case round =>
                obtain ⟨k, Sk, V, G, C, hk, rfl, hst7⟩ := hrel
                have H7 := hide hst7
                clear hst7 H6
                by_cases hkm : k < m
                · have n1 : (0 : Int) ≤ (k : Int) := by omega
                  have n2 : (k : Int) < (m : Int) := by omega
                  obtain ⟨A, c, hu⟩ := owned_slice (H7.out.rows.own k hkm)
                  have hnk : ns k ≤ 1000000 := HP.out.small k hkm
                  have HU := hide hu
                  obtain ⟨p, hp⟩ : ∃ p, p = wr.heap.size := ⟨_, rfl⟩
                  obtain ⟨w1, hw1⟩ : ∃ w1, w1 = wr.alloc (.cells (madeCells #[.int .i64 0] 64) 3) := ⟨_, rfl⟩
                  have hst8 : St w w1 R q r m k Sk us ns V G C := by
                    rw [hw1]
                    exact H7.out.keep HE.out (H7.out.ht.alloc _) (by rw [size_alloc]; omega) (fun b hlt _ => Below.heap_alloc _ _ b hlt)
                  have hbk : Blk w1 p 3 (ivz (List.replicate 64 0)).toArray := by
                    rw [hw1, hp, ← made_ivz]
                    exact Blk.new _ _ _
                  have hps : Sk ≤ p := by rw [hp]; exact H7.out.hs
                  have hpw : w.heap.size ≤ p := by rw [hp]; exact H7.out.ht.size
                  have H8 := hide (And.intro hst8 hbk)
                  have HN := hide (And.intro hp hw1)
                  clear hu hst8 hbk hp hw1
                  go_wp2_with (at_make; refine wpList_make_row _ rfl _ _ 33 rfl 3 i8 (.int .i64 0) Try.underlying33 hi hz0 hz1 rfl _ _ 64 rfl rfl ?e0 ?e1 ?_)
                  case e0 => rw [hz2']; omega
                  case e1 => omega
                  rw [← HN.out.2, ← HN.out.1]
                  clear HN H7
                  go_wp2_with fail
                  go_loopw [13] (fun v wr3 => ∃ (t : Nat) (l : List Int), t ≤ 64 ∧ v = .int .i64 (t : Int) ∧ l.length = 64 ∧ Blk wr3 p 3 (ivz l).toArray ∧ St w wr3 R q r m k Sk us ns V G C) (fun v _ => 64 - (intOf v).toNat)
                  case atStart => exact ⟨0, _, by omega, rfl, List.length_replicate .., H8.out.2, H8.out.1⟩
                  case round =>
                    obtain ⟨t, l, ht6, rfl, hl, hbk, hst9⟩ := hrel
                    by_cases h64 : t < 64
                    · obtain ⟨z, hz⟩ : ∃ z : Nat, (k : Int) + (m : Int) = (z : Int) := ⟨k + m, by omega⟩
                      have hzb : z ≤ 1000000000 := by omega
                      have htb : t ≤ 1000000000 := by omega
                      have t1 : (0 : Int) ≤ (t : Int) := by omega
                      have cp := hbk.cell t
                      rw [List.getElem?_toArray, List.getElem?_eq_getElem (by rw [ivzL]; omega)] at cp
                      have fp := hbk.frozen t
                      have hpl := hbk.lt
                      have H9 := hide (And.intro hbk hst9)
                      clear hbk hst9 H8
                      go_wp2_with (go_at_call 56; refine (mk_any z t hzb htb _).mono ?_; rintro e w' ⟨rfl, rfl⟩)
                      go_roundw
                      case rel =>
                        refine ⟨t + 1, l.set t (mk z t), by omega, by go_num, by rw [List.length_set]; exact hl, ?_, ?_⟩
                        · have h1 := H9.out.1.set_ t (.int .i64 (mk z t))
                          rw [List.setIfInBounds_toArray, ivz_set'] at h1
                          exact h1
                        · exact H9.out.2.keep HE.out (H9.out.2.ht.setCell (fun hlt => by change p < w.heap.size at hlt; omega) _) (by simp [World.setCell]) (fun b _ hb => Below.heap_setCell _ _ _ b (by show b ≠ p; omega))
                      case measure => simp [intOf]; omega
                    · obtain rfl : t = 64 := by omega
                      have cq := hst9.rows.cell k hkm
                      rw [HU.out] at cq
                      have hlt := hbk.lt
                      have hsrc := src_blk hbk hl
                      have hR3 : R ≤ wr.heap.size := by have := hst9.ht.size; omega
                      have H9 := hide (And.intro hbk (And.intro hst9 hsrc))
                      clear hbk hst9 hsrc H8
                      go_wp2_with (at_builtin; (refine wpList_app2 (o := ⟨some 150, _, _, _, _, _⟩) rfl (.tmp 148) (.tmp 149) 33 rfl R 3 i8 (.int .i64 0) 8 Try.underlying33 hi hz0 hz1 hz2' rfl (.slice A (ns k) c) (ns k) (ivz (mks k (ns k))) (by rw [← HU.out]; exact H9.out.2.1.rows.own k hkm) (some ⟨p, 0, none⟩) 64 64 (ivz l) H9.out.2.2 ?hm ?h1 ?h2 ?h3 rfl rfl ?_))
                      case hm => omega
                      case h1 => simp only [maxLen]; omega
                      case h2 => omega
                      case h3 => exact hR3
                      intro v5 w5 own5 gr5 grew5
                      obtain ⟨hst5, A5, c5, rfl, hpl5⟩ := H9.out.2.1.grow HE.out hkm HU.out (mks_take k _ _ (Nat.le_refl _)) (Nat.le_refl _) (length_mks _ _) (.inl ⟨rfl, rfl⟩) own5 gr5 grew5
                      obtain ⟨⟨u1, cr⟩, fr⟩ := hst5.spot hkm
                      have hrl := hst5.gs.lt
                      rw [← ivzA] at own5
                      have H5 := hide (And.intro own5 (And.intro hpl5 hst5))
                      clear own5 gr5 grew5 hst5 hpl5 cq
                      go_wp2_with fail
                      go_roundw
                      case rel => exact ⟨k + 1, _, _, _, _, by omega, by go_num, H5.out.2.2.put HE.out hkm HU.out (by rw [List.take_append_of_le_length (by rw [length_mks]; omega), mks_take k _ _ (Nat.le_refl _)]) H5.out.1 H5.out.2.1⟩
                      case measure => simp [intOf]; omega
                · obtain rfl : m = k := by omega
                  go_wp2_with fail
                  go_loopw [14] (fun v wr3 => ∃ k : Nat, k ≤ m ∧ v = .int .i64 (k : Int) ∧ St w wr3 R q r m m Sk us ns V G C) (fun v _ => m - (intOf v).toNat)
                  case atStart => exact ⟨0, by omega, rfl, H7.out⟩
                  case round =>
                    obtain ⟨k, hk, rfl, hst3⟩ := hrel
                    have H3 := hide hst3
                    clear hst3 H7
                    by_cases hkm : k < m
                    · have n1 : (0 : Int) ≤ (k : Int) := by omega
                      have n2 : (k : Int) < (m : Int) := by omega
                      obtain ⟨A, c, hu⟩ := owned_slice (H3.out.rows.own k hkm)
                      obtain ⟨g2, c2, hV, _⟩ := own_place (H3.out.own k hkm) (by omega)
                      have hnk : ns k ≤ 1000000 := HP.out.small k hkm
                      have HU := hide (And.intro hu hV)
                      clear hu hV
                      go_wp2_with fail
                      go_loopw [15] (fun v wr3 => ∃ i : Nat, i ≤ ns k ∧ v = .int .i64 (i : Int) ∧ St w wr3 R q r m m Sk us ns V G C) (fun v _ => ns k - (intOf v).toNat)
                      case atStart => exact ⟨0, by omega, rfl, H3.out⟩
                      case round =>
                        obtain ⟨i, hi6, rfl, hst4⟩ := hrel
                        have cq := hst4.rows.cell k hkm
                        have cr := hst4.at_ hkm
                        rw [HU.out.1] at cq
                        rw [HU.out.2] at cr
                        have H4 := hide hst4
                        clear hst4
                        by_cases hin : i < ns k
                        · have i1 : (0 : Int) ≤ (i : Int) := by omega
                          have i2 : (i : Int) < (ns k : Int) + 64 := by omega
                          have i3 : (i : Int) < (ns k : Int) := by omega
                          have hib : i ≤ 1000000000 := by omega
                          have hkb : k ≤ 1000000000 := by omega
                          have cg : wr.cell? ⟨g2, i, none⟩ = some (.int .i64 (mk k i)) := by
                            have h1 := H4.out.own k hkm
                            rw [HU.out.2] at h1
                            exact (own_cell h1 i (by omega)).1.trans (mark_at (H4.out.take k hkm) hin)
                          obtain ⟨g1, c1, hu1, _⟩ := own_place (H4.out.rows.own k hkm) (by omega)
                          have cu := row_at H4.out hkm hu1 hin
                          obtain ⟨rfl, rfl⟩ : A = some ⟨g1, 0, none⟩ ∧ c = c1 := by
                            rw [HU.out.1] at hu1
                            injection hu1 with e1 _ e3
                            exact ⟨e1, e3⟩
                          clear hu1
                          go_wp2_with fail
                          go_quiet ((go_at_call 56; exact Calls.quiet_of_same (mk_any k i hkb hib _)))
                          go_wp2_with fail
                          go_roundw
                          case rel => exact ⟨i + 1, by omega, by go_num, H4.out.drewN HE.out _⟩
                          case measure => simp [intOf]; omega
                        · obtain rfl : i = ns k := by omega
                          go_wp2_with fail
                          go_roundw
                          case rel => exact ⟨k + 1, by omega, by go_num, H4.out⟩
                          case measure => simp [intOf]; omega
                    · obtain rfl : m = k := by omega
                      go_wp2_with fail
                      go_ret
                      exact ⟨rfl, H3.out.ht⟩
end Go.Proofs.Ytfppddnfdinipaa.ApI
end
section
namespace Go.Proofs.Ytfppddnfdinipaa
open Go Go.RowKit
theorem info_Limbs : (Try.prog.info? 232).map (fun i => (i.zero, i.size, i.bytes)) = some (some (.slice none 0 0), 1, 24) := by kernel_rfl
set_option maxRecDepth 100000 in
set_option maxHeartbeats 1000000 in
theorem flatLimbs_nil (w : World) : Calls Try.prog 97 #[.slice none 0 0] w fun e w' => e = .returned (.bool true) ∧ Below w.heap.size w w' := by
  obtain ⟨i, hi, hz0, hz1, hz2⟩ := info_parts info_Limbs
  go_enter Try.func97, Try.ntmps97
  go_wp2_with fail
  refine wp_loop_once ?_
  go_wp2_with (at_make; refine wpList_make_row _ rfl _ _ 111 rfl 232 i (.slice none 0 0) Try.underlying111 hi hz0 hz1 rfl _ _ 0 rfl rfl ?e0 ?e1 ?_)
  case e0 => rw [hz2]; omega
  case e1 => omega
  go_wp2_with fail
  refine wp_loop_once ?_
  go_wp2_with fail
  refine wp_loop_once ?_
  go_wp2_with fail
  refine wp_loop_once ?_
  go_wp2_with fail
  refine wp_loop_once ?_
  go_wp2_with fail
  go_ret
  exact ⟨rfl, (Below.refl _ _).alloc (Nat.le_refl _) _⟩
theorem info_Words : (Try.prog.info? 234).map (fun i => (i.zero, i.size, i.bytes)) = some (some (.slice none 0 0), 1, 24) := by kernel_rfl
set_option maxRecDepth 100000 in
set_option maxHeartbeats 1000000 in
theorem flatWords_nil (w : World) : Calls Try.prog 98 #[.slice none 0 0] w fun e w' => e = .returned (.bool true) ∧ Below w.heap.size w w' := by
  obtain ⟨i, hi, hz0, hz1, hz2⟩ := info_parts info_Words
  go_enter Try.func98, Try.ntmps98
  go_wp2_with fail
  refine wp_loop_once ?_
  go_wp2_with (at_make; refine wpList_make_row _ rfl _ _ 112 rfl 234 i (.slice none 0 0) Try.underlying112 hi hz0 hz1 rfl _ _ 0 rfl rfl ?e0 ?e1 ?_)
  case e0 => rw [hz2]; omega
  case e1 => omega
  go_wp2_with fail
  refine wp_loop_once ?_
  go_wp2_with fail
  refine wp_loop_once ?_
  go_wp2_with fail
  refine wp_loop_once ?_
  go_wp2_with fail
  refine wp_loop_once ?_
  go_wp2_with fail
  go_ret
  exact ⟨rfl, (Below.refl _ _).alloc (Nat.le_refl _) _⟩
theorem info_Ints : (Try.prog.info? 33).map (fun i => (i.zero, i.size, i.bytes)) = some (some (.slice none 0 0), 1, 24) := by kernel_rfl
set_option maxRecDepth 100000 in
set_option maxHeartbeats 1000000 in
theorem flatInts_nil (w : World) : Calls Try.prog 99 #[.slice none 0 0] w fun e w' => e = .returned (.bool true) ∧ Below w.heap.size w w' := by
  obtain ⟨i, hi, hz0, hz1, hz2⟩ := info_parts info_Ints
  go_enter Try.func99, Try.ntmps99
  go_wp2_with fail
  refine wp_loop_once ?_
  go_wp2_with (at_make; refine wpList_make_row _ rfl _ _ 44 rfl 33 i (.slice none 0 0) Try.underlying44 hi hz0 hz1 rfl _ _ 0 rfl rfl ?e0 ?e1 ?_)
  case e0 => rw [hz2]; omega
  case e1 => omega
  go_wp2_with fail
  refine wp_loop_once ?_
  go_wp2_with fail
  refine wp_loop_once ?_
  go_wp2_with fail
  refine wp_loop_once ?_
  go_wp2_with fail
  refine wp_loop_once ?_
  go_wp2_with fail
  go_ret
  exact ⟨rfl, (Below.refl _ _).alloc (Nat.le_refl _) _⟩
theorem info_Longs : (Try.prog.info? 235).map (fun i => (i.zero, i.size, i.bytes)) = some (some (.slice none 0 0), 1, 24) := by kernel_rfl
set_option maxRecDepth 100000 in
set_option maxHeartbeats 1000000 in
theorem flatLongs_nil (w : World) : Calls Try.prog 100 #[.slice none 0 0] w fun e w' => e = .returned (.bool true) ∧ Below w.heap.size w w' := by
  obtain ⟨i, hi, hz0, hz1, hz2⟩ := info_parts info_Longs
  go_enter Try.func100, Try.ntmps100
  go_wp2_with fail
  refine wp_loop_once ?_
  go_wp2_with (at_make; refine wpList_make_row _ rfl _ _ 113 rfl 235 i (.slice none 0 0) Try.underlying113 hi hz0 hz1 rfl _ _ 0 rfl rfl ?e0 ?e1 ?_)
  case e0 => rw [hz2]; omega
  case e1 => omega
  go_wp2_with fail
  refine wp_loop_once ?_
  go_wp2_with fail
  refine wp_loop_once ?_
  go_wp2_with fail
  refine wp_loop_once ?_
  go_wp2_with fail
  refine wp_loop_once ?_
  go_wp2_with fail
  go_ret
  exact ⟨rfl, (Below.refl _ _).alloc (Nat.le_refl _) _⟩
theorem info_Texts : (Try.prog.info? 236).map (fun i => (i.zero, i.size, i.bytes)) = some (some (.slice none 0 0), 1, 24) := by kernel_rfl
set_option maxRecDepth 100000 in
set_option maxHeartbeats 1000000 in
theorem flatTexts_nil (w : World) : Calls Try.prog 101 #[.slice none 0 0] w fun e w' => e = .returned (.bool true) ∧ Below w.heap.size w w' := by
  obtain ⟨i, hi, hz0, hz1, hz2⟩ := info_parts info_Texts
  go_enter Try.func101, Try.ntmps101
  go_wp2_with fail
  refine wp_loop_once ?_
  go_wp2_with (at_make; refine wpList_make_row _ rfl _ _ 114 rfl 236 i (.slice none 0 0) Try.underlying114 hi hz0 hz1 rfl _ _ 0 rfl rfl ?e0 ?e1 ?_)
  case e0 => rw [hz2]; omega
  case e1 => omega
  go_wp2_with fail
  refine wp_loop_once ?_
  go_wp2_with fail
  refine wp_loop_once ?_
  go_wp2_with fail
  refine wp_loop_once ?_
  go_wp2_with fail
  refine wp_loop_once ?_
  go_wp2_with fail
  go_ret
  exact ⟨rfl, (Below.refl _ _).alloc (Nat.le_refl _) _⟩
theorem info_Truths : (Try.prog.info? 220).map (fun i => (i.zero, i.size, i.bytes)) = some (some (.slice none 0 0), 1, 24) := by kernel_rfl
set_option maxRecDepth 100000 in
set_option maxHeartbeats 1000000 in
theorem flatTruths_nil (w : World) : Calls Try.prog 103 #[.slice none 0 0] w fun e w' => e = .returned (.bool true) ∧ Below w.heap.size w w' := by
  obtain ⟨i, hi, hz0, hz1, hz2⟩ := info_parts info_Truths
  go_enter Try.func103, Try.ntmps103
  go_wp2_with fail
  refine wp_loop_once ?_
  go_wp2_with (at_make; refine wpList_make_row _ rfl _ _ 115 rfl 220 i (.slice none 0 0) Try.underlying115 hi hz0 hz1 rfl _ _ 0 rfl rfl ?e0 ?e1 ?_)
  case e0 => rw [hz2]; omega
  case e1 => omega
  go_wp2_with fail
  refine wp_loop_once ?_
  go_wp2_with fail
  refine wp_loop_once ?_
  go_wp2_with fail
  refine wp_loop_once ?_
  go_wp2_with fail
  refine wp_loop_once ?_
  go_wp2_with fail
  go_ret
  exact ⟨rfl, (Below.refl _ _).alloc (Nat.le_refl _) _⟩
theorem info_Paths : (Try.prog.info? 24).map (fun i => (i.zero, i.size, i.bytes)) = some (some (.slice none 0 0), 1, 24) := by kernel_rfl
set_option maxRecDepth 100000 in
set_option maxHeartbeats 1000000 in
theorem flatPaths_nil (w : World) : Calls Try.prog 104 #[.slice none 0 0] w fun e w' => e = .returned (.bool true) ∧ Below w.heap.size w w' := by
  obtain ⟨i, hi, hz0, hz1, hz2⟩ := info_parts info_Paths
  go_enter Try.func104, Try.ntmps104
  go_wp2_with fail
  refine wp_loop_once ?_
  go_wp2_with (at_make; refine wpList_make_row _ rfl _ _ 116 rfl 24 i (.slice none 0 0) Try.underlying116 hi hz0 hz1 rfl _ _ 0 rfl rfl ?e0 ?e1 ?_)
  case e0 => rw [hz2]; omega
  case e1 => omega
  go_wp2_with fail
  refine wp_loop_once ?_
  go_wp2_with fail
  refine wp_loop_once ?_
  go_wp2_with fail
  refine wp_loop_once ?_
  go_wp2_with fail
  refine wp_loop_once ?_
  go_wp2_with fail
  go_ret
  exact ⟨rfl, (Below.refl _ _).alloc (Nat.le_refl _) _⟩
theorem info_Kids : (Try.prog.info? 237).map (fun i => (i.zero, i.size, i.bytes)) = some (some (.slice none 0 0), 1, 24) := by kernel_rfl
set_option maxRecDepth 100000 in
set_option maxHeartbeats 1000000 in
theorem flatKids_nil (w : World) : Calls Try.prog 105 #[.slice none 0 0] w fun e w' => e = .returned (.bool true) ∧ Below w.heap.size w w' := by
  obtain ⟨i, hi, hz0, hz1, hz2⟩ := info_parts info_Kids
  go_enter Try.func105, Try.ntmps105
  go_wp2_with fail
  refine wp_loop_once ?_
  go_wp2_with (at_make; refine wpList_make_row _ rfl _ _ 117 rfl 237 i (.slice none 0 0) Try.underlying117 hi hz0 hz1 rfl _ _ 0 rfl rfl ?e0 ?e1 ?_)
  case e0 => rw [hz2]; omega
  case e1 => omega
  go_wp2_with fail
  refine wp_loop_once ?_
  go_wp2_with fail
  refine wp_loop_once ?_
  go_wp2_with fail
  refine wp_loop_once ?_
  go_wp2_with fail
  refine wp_loop_once ?_
  go_wp2_with fail
  go_ret
  exact ⟨rfl, (Below.refl _ _).alloc (Nat.le_refl _) _⟩
theorem info_Nodes : (Try.prog.info? 245).map (fun i => (i.zero, i.size, i.bytes)) = some (some (.slice none 0 0), 1, 24) := by kernel_rfl
set_option maxRecDepth 100000 in
set_option maxHeartbeats 1000000 in
theorem flatNodes_nil (w : World) : Calls Try.prog 106 #[.slice none 0 0] w fun e w' => e = .returned (.bool true) ∧ Below w.heap.size w w' := by
  obtain ⟨i, hi, hz0, hz1, hz2⟩ := info_parts info_Nodes
  go_enter Try.func106, Try.ntmps106
  go_wp2_with fail
  refine wp_loop_once ?_
  go_wp2_with (at_make; refine wpList_make_row _ rfl _ _ 118 rfl 245 i (.slice none 0 0) Try.underlying118 hi hz0 hz1 rfl _ _ 0 rfl rfl ?e0 ?e1 ?_)
  case e0 => rw [hz2]; omega
  case e1 => omega
  go_wp2_with fail
  refine wp_loop_once ?_
  go_wp2_with fail
  refine wp_loop_once ?_
  go_wp2_with fail
  refine wp_loop_once ?_
  go_wp2_with fail
  refine wp_loop_once ?_
  go_wp2_with fail
  go_ret
  exact ⟨rfl, (Below.refl _ _).alloc (Nat.le_refl _) _⟩
theorem info_Lines : (Try.prog.info? 248).map (fun i => (i.zero, i.size, i.bytes)) = some (some (.slice none 0 0), 1, 24) := by kernel_rfl
set_option maxRecDepth 100000 in
set_option maxHeartbeats 1000000 in
theorem flatLines_nil (w : World) : Calls Try.prog 107 #[.slice none 0 0] w fun e w' => e = .returned (.bool true) ∧ Below w.heap.size w w' := by
  obtain ⟨i, hi, hz0, hz1, hz2⟩ := info_parts info_Lines
  go_enter Try.func107, Try.ntmps107
  go_wp2_with fail
  refine wp_loop_once ?_
  go_wp2_with (at_make; refine wpList_make_row _ rfl _ _ 119 rfl 248 i (.slice none 0 0) Try.underlying119 hi hz0 hz1 rfl _ _ 0 rfl rfl ?e0 ?e1 ?_)
  case e0 => rw [hz2]; omega
  case e1 => omega
  go_wp2_with fail
  refine wp_loop_once ?_
  go_wp2_with fail
  refine wp_loop_once ?_
  go_wp2_with fail
  refine wp_loop_once ?_
  go_wp2_with fail
  refine wp_loop_once ?_
  go_wp2_with fail
  go_ret
  exact ⟨rfl, (Below.refl _ _).alloc (Nat.le_refl _) _⟩
theorem info_Changes : (Try.prog.info? 253).map (fun i => (i.zero, i.size, i.bytes)) = some (some (.slice none 0 0), 1, 24) := by kernel_rfl
set_option maxRecDepth 100000 in
set_option maxHeartbeats 1000000 in
theorem flatChanges_nil (w : World) : Calls Try.prog 108 #[.slice none 0 0] w fun e w' => e = .returned (.bool true) ∧ Below w.heap.size w w' := by
  obtain ⟨i, hi, hz0, hz1, hz2⟩ := info_parts info_Changes
  go_enter Try.func108, Try.ntmps108
  go_wp2_with fail
  refine wp_loop_once ?_
  go_wp2_with (at_make; refine wpList_make_row _ rfl _ _ 120 rfl 253 i (.slice none 0 0) Try.underlying120 hi hz0 hz1 rfl _ _ 0 rfl rfl ?e0 ?e1 ?_)
  case e0 => rw [hz2]; omega
  case e1 => omega
  go_wp2_with fail
  refine wp_loop_once ?_
  go_wp2_with fail
  refine wp_loop_once ?_
  go_wp2_with fail
  refine wp_loop_once ?_
  go_wp2_with fail
  refine wp_loop_once ?_
  go_wp2_with fail
  go_ret
  exact ⟨rfl, (Below.refl _ _).alloc (Nat.le_refl _) _⟩
theorem info_Runs : (Try.prog.info? 73).map (fun i => (i.zero, i.size, i.bytes)) = some (some (.slice none 0 0), 1, 24) := by kernel_rfl
set_option maxRecDepth 100000 in
set_option maxHeartbeats 1000000 in
theorem flatRuns_nil (w : World) : Calls Try.prog 109 #[.slice none 0 0] w fun e w' => e = .returned (.bool true) ∧ Below w.heap.size w w' := by
  obtain ⟨i, hi, hz0, hz1, hz2⟩ := info_parts info_Runs
  go_enter Try.func109, Try.ntmps109
  go_wp2_with fail
  refine wp_loop_once ?_
  go_wp2_with (at_make; refine wpList_make_row _ rfl _ _ 72 rfl 73 i (.slice none 0 0) Try.underlying72 hi hz0 hz1 rfl _ _ 0 rfl rfl ?e0 ?e1 ?_)
  case e0 => rw [hz2]; omega
  case e1 => omega
  go_wp2_with fail
  refine wp_loop_once ?_
  go_wp2_with fail
  refine wp_loop_once ?_
  go_wp2_with fail
  refine wp_loop_once ?_
  go_wp2_with fail
  refine wp_loop_once ?_
  go_wp2_with fail
  go_ret
  exact ⟨rfl, (Below.refl _ _).alloc (Nat.le_refl _) _⟩
theorem info_Objects : (Try.prog.info? 259).map (fun i => (i.zero, i.size, i.bytes)) = some (some (.slice none 0 0), 1, 24) := by kernel_rfl
set_option maxRecDepth 100000 in
set_option maxHeartbeats 1000000 in
theorem flatObjects_nil (w : World) : Calls Try.prog 110 #[.slice none 0 0] w fun e w' => e = .returned (.bool true) ∧ Below w.heap.size w w' := by
  obtain ⟨i, hi, hz0, hz1, hz2⟩ := info_parts info_Objects
  go_enter Try.func110, Try.ntmps110
  go_wp2_with fail
  refine wp_loop_once ?_
  go_wp2_with (at_make; refine wpList_make_row _ rfl _ _ 121 rfl 259 i (.slice none 0 0) Try.underlying121 hi hz0 hz1 rfl _ _ 0 rfl rfl ?e0 ?e1 ?_)
  case e0 => rw [hz2]; omega
  case e1 => omega
  go_wp2_with fail
  refine wp_loop_once ?_
  go_wp2_with fail
  refine wp_loop_once ?_
  go_wp2_with fail
  refine wp_loop_once ?_
  go_wp2_with fail
  refine wp_loop_once ?_
  go_wp2_with fail
  go_ret
  exact ⟨rfl, (Below.refl _ _).alloc (Nat.le_refl _) _⟩
theorem info_Quotas : (Try.prog.info? 264).map (fun i => (i.zero, i.size, i.bytes)) = some (some (.slice none 0 0), 1, 24) := by kernel_rfl
set_option maxRecDepth 100000 in
set_option maxHeartbeats 1000000 in
theorem flatQuotas_nil (w : World) : Calls Try.prog 111 #[.slice none 0 0] w fun e w' => e = .returned (.bool true) ∧ Below w.heap.size w w' := by
  obtain ⟨i, hi, hz0, hz1, hz2⟩ := info_parts info_Quotas
  go_enter Try.func111, Try.ntmps111
  go_wp2_with fail
  refine wp_loop_once ?_
  go_wp2_with (at_make; refine wpList_make_row _ rfl _ _ 122 rfl 264 i (.slice none 0 0) Try.underlying122 hi hz0 hz1 rfl _ _ 0 rfl rfl ?e0 ?e1 ?_)
  case e0 => rw [hz2]; omega
  case e1 => omega
  go_wp2_with fail
  refine wp_loop_once ?_
  go_wp2_with fail
  refine wp_loop_once ?_
  go_wp2_with fail
  refine wp_loop_once ?_
  go_wp2_with fail
  refine wp_loop_once ?_
  go_wp2_with fail
  go_ret
  exact ⟨rfl, (Below.refl _ _).alloc (Nat.le_refl _) _⟩
theorem info_Nameds : (Try.prog.info? 268).map (fun i => (i.zero, i.size, i.bytes)) = some (some (.slice none 0 0), 1, 24) := by kernel_rfl
set_option maxRecDepth 100000 in
set_option maxHeartbeats 1000000 in
theorem flatNameds_nil (w : World) : Calls Try.prog 112 #[.slice none 0 0] w fun e w' => e = .returned (.bool true) ∧ Below w.heap.size w w' := by
  obtain ⟨i, hi, hz0, hz1, hz2⟩ := info_parts info_Nameds
  go_enter Try.func112, Try.ntmps112
  go_wp2_with fail
  refine wp_loop_once ?_
  go_wp2_with (at_make; refine wpList_make_row _ rfl _ _ 123 rfl 268 i (.slice none 0 0) Try.underlying123 hi hz0 hz1 rfl _ _ 0 rfl rfl ?e0 ?e1 ?_)
  case e0 => rw [hz2]; omega
  case e1 => omega
  go_wp2_with fail
  refine wp_loop_once ?_
  go_wp2_with fail
  refine wp_loop_once ?_
  go_wp2_with fail
  refine wp_loop_once ?_
  go_wp2_with fail
  refine wp_loop_once ?_
  go_wp2_with fail
  go_ret
  exact ⟨rfl, (Below.refl _ _).alloc (Nat.le_refl _) _⟩
theorem info_Drvs : (Try.prog.info? 274).map (fun i => (i.zero, i.size, i.bytes)) = some (some (.slice none 0 0), 1, 24) := by kernel_rfl
set_option maxRecDepth 100000 in
set_option maxHeartbeats 1000000 in
theorem flatDrvs_nil (w : World) : Calls Try.prog 113 #[.slice none 0 0] w fun e w' => e = .returned (.bool true) ∧ Below w.heap.size w w' := by
  obtain ⟨i, hi, hz0, hz1, hz2⟩ := info_parts info_Drvs
  go_enter Try.func113, Try.ntmps113
  go_wp2_with fail
  refine wp_loop_once ?_
  go_wp2_with (at_make; refine wpList_make_row _ rfl _ _ 124 rfl 274 i (.slice none 0 0) Try.underlying124 hi hz0 hz1 rfl _ _ 0 rfl rfl ?e0 ?e1 ?_)
  case e0 => rw [hz2]; omega
  case e1 => omega
  go_wp2_with fail
  refine wp_loop_once ?_
  go_wp2_with fail
  refine wp_loop_once ?_
  go_wp2_with fail
  refine wp_loop_once ?_
  go_wp2_with fail
  refine wp_loop_once ?_
  go_wp2_with fail
  go_ret
  exact ⟨rfl, (Below.refl _ _).alloc (Nat.le_refl _) _⟩
theorem info_Mades : (Try.prog.info? 27).map (fun i => (i.zero, i.size, i.bytes)) = some (some (.slice none 0 0), 1, 24) := by kernel_rfl
set_option maxRecDepth 100000 in
set_option maxHeartbeats 1000000 in
theorem flatMades_nil (w : World) : Calls Try.prog 114 #[.slice none 0 0] w fun e w' => e = .returned (.bool true) ∧ Below w.heap.size w w' := by
  obtain ⟨i, hi, hz0, hz1, hz2⟩ := info_parts info_Mades
  go_enter Try.func114, Try.ntmps114
  go_wp2_with fail
  refine wp_loop_once ?_
  go_wp2_with (at_make; refine wpList_make_row _ rfl _ _ 125 rfl 27 i (.slice none 0 0) Try.underlying125 hi hz0 hz1 rfl _ _ 0 rfl rfl ?e0 ?e1 ?_)
  case e0 => rw [hz2]; omega
  case e1 => omega
  go_wp2_with fail
  refine wp_loop_once ?_
  go_wp2_with fail
  refine wp_loop_once ?_
  go_wp2_with fail
  refine wp_loop_once ?_
  go_wp2_with fail
  refine wp_loop_once ?_
  go_wp2_with fail
  go_ret
  exact ⟨rfl, (Below.refl _ _).alloc (Nat.le_refl _) _⟩
theorem info_Builts : (Try.prog.info? 279).map (fun i => (i.zero, i.size, i.bytes)) = some (some (.slice none 0 0), 1, 24) := by kernel_rfl
set_option maxRecDepth 100000 in
set_option maxHeartbeats 1000000 in
theorem flatBuilts_nil (w : World) : Calls Try.prog 115 #[.slice none 0 0] w fun e w' => e = .returned (.bool true) ∧ Below w.heap.size w w' := by
  obtain ⟨i, hi, hz0, hz1, hz2⟩ := info_parts info_Builts
  go_enter Try.func115, Try.ntmps115
  go_wp2_with fail
  refine wp_loop_once ?_
  go_wp2_with (at_make; refine wpList_make_row _ rfl _ _ 126 rfl 279 i (.slice none 0 0) Try.underlying126 hi hz0 hz1 rfl _ _ 0 rfl rfl ?e0 ?e1 ?_)
  case e0 => rw [hz2]; omega
  case e1 => omega
  go_wp2_with fail
  refine wp_loop_once ?_
  go_wp2_with fail
  refine wp_loop_once ?_
  go_wp2_with fail
  refine wp_loop_once ?_
  go_wp2_with fail
  refine wp_loop_once ?_
  go_wp2_with fail
  go_ret
  exact ⟨rfl, (Below.refl _ _).alloc (Nat.le_refl _) _⟩
theorem info_Requests : (Try.prog.info? 284).map (fun i => (i.zero, i.size, i.bytes)) = some (some (.slice none 0 0), 1, 24) := by kernel_rfl
set_option maxRecDepth 100000 in
set_option maxHeartbeats 1000000 in
theorem flatRequests_nil (w : World) : Calls Try.prog 116 #[.slice none 0 0] w fun e w' => e = .returned (.bool true) ∧ Below w.heap.size w w' := by
  obtain ⟨i, hi, hz0, hz1, hz2⟩ := info_parts info_Requests
  go_enter Try.func116, Try.ntmps116
  go_wp2_with fail
  refine wp_loop_once ?_
  go_wp2_with (at_make; refine wpList_make_row _ rfl _ _ 127 rfl 284 i (.slice none 0 0) Try.underlying127 hi hz0 hz1 rfl _ _ 0 rfl rfl ?e0 ?e1 ?_)
  case e0 => rw [hz2]; omega
  case e1 => omega
  go_wp2_with fail
  refine wp_loop_once ?_
  go_wp2_with fail
  refine wp_loop_once ?_
  go_wp2_with fail
  refine wp_loop_once ?_
  go_wp2_with fail
  refine wp_loop_once ?_
  go_wp2_with fail
  go_ret
  exact ⟨rfl, (Below.refl _ _).alloc (Nat.le_refl _) _⟩
theorem info_Replies : (Try.prog.info? 290).map (fun i => (i.zero, i.size, i.bytes)) = some (some (.slice none 0 0), 1, 24) := by kernel_rfl
set_option maxRecDepth 100000 in
set_option maxHeartbeats 1000000 in
theorem flatReplies_nil (w : World) : Calls Try.prog 117 #[.slice none 0 0] w fun e w' => e = .returned (.bool true) ∧ Below w.heap.size w w' := by
  obtain ⟨i, hi, hz0, hz1, hz2⟩ := info_parts info_Replies
  go_enter Try.func117, Try.ntmps117
  go_wp2_with fail
  refine wp_loop_once ?_
  go_wp2_with (at_make; refine wpList_make_row _ rfl _ _ 128 rfl 290 i (.slice none 0 0) Try.underlying128 hi hz0 hz1 rfl _ _ 0 rfl rfl ?e0 ?e1 ?_)
  case e0 => rw [hz2]; omega
  case e1 => omega
  go_wp2_with fail
  refine wp_loop_once ?_
  go_wp2_with fail
  refine wp_loop_once ?_
  go_wp2_with fail
  refine wp_loop_once ?_
  go_wp2_with fail
  refine wp_loop_once ?_
  go_wp2_with fail
  go_ret
  exact ⟨rfl, (Below.refl _ _).alloc (Nat.le_refl _) _⟩
end Go.Proofs.Ytfppddnfdinipaa
end
section
namespace Go.Proofs.Ytfppddnfdinipaa.ApI
open Go Go.RowKit
theorem info_BytesI : (Try.prog.info? 66).map (fun i => (i.zero, i.size, i.bytes)) = some (some (.slice none 0 0), 1, 24) := by kernel_rfl
set_option maxRecDepth 100000 in
set_option maxHeartbeats 1000000 in
theorem flatBytes_nil (w : World) : Calls Try.prog 102 #[.slice none 0 0] w fun e w' => e = .returned (.bool true) ∧ Below w.heap.size w w' := by
  obtain ⟨i, hi, hz0, hz1, hz2⟩ := info_parts info_BytesI
  go_enter Try.func102, Try.ntmps102
  go_wp2_with fail
  refine wp_loop_once ?_
  go_wp2_with (at_make; refine wpList_make_row _ rfl _ _ 65 rfl 66 i (.slice none 0 0) Try.underlying65 hi hz0 hz1 rfl _ _ 0 rfl rfl ?e0 ?e1 ?_)
  case e0 => rw [hz2]; omega
  case e1 => omega
  go_wp2_with fail
  refine wp_loop_once ?_
  go_wp2_with fail
  refine wp_loop_once ?_
  go_wp2_with fail
  refine wp_loop_once ?_
  go_wp2_with fail
  refine wp_loop_once ?_
  go_wp2_with fail
  go_ret
  exact ⟨rfl, (Below.refl _ _).alloc (Nat.le_refl _) _⟩
def nl : Value := .slice none 0 0
/-- a bag of rows of bytes -/
def bagOf (v : Value) : Array Value := #[.slice none 0 0, .slice none 0 0, v, .slice none 0 0, .slice none 0 0, .slice none 0 0, .slice none 0 0, .slice none 0 0, .slice none 0 0, .slice none 0 0, .slice none 0 0, .slice none 0 0, .slice none 0 0, .slice none 0 0, .slice none 0 0, .slice none 0 0, .slice none 0 0, .slice none 0 0, .slice none 0 0, .slice none 0 0, .slice none 0 0]
theorem bag_five (v : Value) : (bagOf v)[2]? = some v := rfl
theorem bag_nil (v : Value) (i : Nat) (h : i < 21) (h5 : i ≠ 2) : (bagOf v)[i]? = some (.slice none 0 0) := by
  have h2 : i = 0 ∨ i = 1 ∨ i = 3 ∨ i = 4 ∨ i = 5 ∨ i = 6 ∨ i = 7 ∨ i = 8 ∨ i = 9 ∨ i = 10 ∨ i = 11 ∨ i = 12 ∨ i = 13 ∨ i = 14 ∨ i = 15 ∨ i = 16 ∨ i = 17 ∨ i = 18 ∨ i = 19 ∨ i = 20 := by omega
  rcases h2 with rfl | rfl | rfl | rfl | rfl | rfl | rfl | rfl | rfl | rfl | rfl | rfl | rfl | rfl | rfl | rfl | rfl | rfl | rfl | rfl <;> rfl
theorem bag_set (v u : Value) : (bagOf v).setIfInBounds 2 u = bagOf u := rfl
set_option maxRecDepth 100000 in
set_option maxHeartbeats 4000000 in
theorem bagApart_any (R q m cap g : Nat) (us : Nat → Value) (ns : Nat → Nat) (L0 : Nat → List Int) (hm0 : 0 < m) (hm : m ≤ 1000) (w : World) (hR : R ≤ w.heap.size) (hr0 : Rows8 w R q m us ns L0) (hp : Parted q m us ns) (hb : Blk w g 130 (bagOf (.slice (some ⟨q, 0, none⟩) m cap))) :
    Calls Try.prog 53 #[.pointer (some ⟨g, 0, none⟩)] w fun e w' => e = .returned (.bool true) ∧ Turned (RS m us) w w' := by
  have hnb : ¬ RS m us g := by
    rintro ⟨j, hj, hg⟩
    exact owned_ne (hr0.own j hj) hb (by decide) hg
  obtain ⟨w0, hw0⟩ : ∃ w0, w0 = w := ⟨_, rfl⟩
  have HT0 : Hid (Turned (RS m us) w w0) := hide (by rw [hw0]; exact Turned.refl _ _)
  have H0 : Hid (Rows8 w0 R q m us ns L0 ∧ Blk w0 g 130 (bagOf (.slice (some ⟨q, 0, none⟩) m cap))) := hide (by rw [hw0]; exact ⟨hr0, hb⟩)
  have HNB := hide hnb
  have HP := hide hp
  have c0 := (H0.out.2.cell 0).trans (bag_nil _ 0 (by decide) (by decide))
  have l0 := H0.out.2.lt
  rw [show Calls Try.prog 53 #[.pointer (some ⟨g, 0, none⟩)] w (fun e w' => e = .returned (.bool true) ∧ Turned (RS m us) w w') = Calls Try.prog 53 #[.pointer (some ⟨g, 0, none⟩)] w0 (fun e w' => e = .returned (.bool true) ∧ Turned (RS m us) w w') by rw [hw0]]
  clear hr0 hp hb hnb hw0
  go_enter Try.func53, Try.ntmps53
  go_wp2_with fail
  refine (flatLimbs_nil _).mono ?_
  rintro e w1 ⟨rfl, hb0⟩
  have H1 := hide (And.intro (H0.out.1.keep fun b hlt _ => hb0.block b hlt) (H0.out.2.below hb0 H0.out.2.lt))
  have HT1 := hide (HT0.out.trans (Turned.of_below hb0 _))
  clear hb0
  dsimp only
  have c1 := (H1.out.2.cell 1).trans (bag_nil _ 1 (by decide) (by decide))
  have l1 := H1.out.2.lt
  go_wp2_with fail
  refine (flatWords_nil _).mono ?_
  rintro e w2 ⟨rfl, hb1⟩
  have H2 := hide (And.intro (H1.out.1.keep fun b hlt _ => hb1.block b hlt) (H1.out.2.below hb1 H1.out.2.lt))
  have HT2 := hide (HT1.out.trans (Turned.of_below hb1 _))
  clear hb1
  dsimp only
  have HR5 : Hid (R ≤ w2.heap.size) := hide (by have := HT2.out.size; omega)
  have HQ5 : Hid (q < w2.heap.size) := hide (World.block_lt_of_cell? w2 _ (H2.out.1.cell 0 (by omega)))
  have c2 := (H2.out.2.cell 2).trans (bag_five _ )
  have l2 := H2.out.2.lt
  clear c1 l1
  go_wp2_with fail
  refine (flatInts_any R q m cap us ns L0 hm _ HR5.out HQ5.out H2.out.1 HP.out).mono ?_
  rintro e w3 ⟨rfl, ht2⟩
  have h3 := hide (And.intro ht2 (H2.out.2.turned ht2 HNB.out))
  clear ht2
  dsimp only
  have H3 : Hid (Turned (RS m us) w w3 ∧ Blk w3 g 130 (bagOf (.slice (some ⟨q, 0, none⟩) m cap))) := hide ⟨(HT2.out).trans h3.out.1, h3.out.2⟩
  clear h3
  have c3 := (H3.out.2.cell 3).trans (bag_nil _ 3 (by decide) (by decide))
  have l3 := H3.out.2.lt
  clear c2 l2
  go_wp2_with fail
  refine (flatLongs_nil _).mono ?_
  rintro e w4 ⟨rfl, hb3⟩
  have H4 := hide (And.intro (H3.out.1.trans (Turned.of_below hb3 _)) (H3.out.2.below hb3 H3.out.2.lt))
  clear hb3
  dsimp only
  have c4 := (H4.out.2.cell 4).trans (bag_nil _ 4 (by decide) (by decide))
  have l4 := H4.out.2.lt
  clear c3 l3
  go_wp2_with fail
  refine (flatTexts_nil _).mono ?_
  rintro e w5 ⟨rfl, hb4⟩
  have H5 := hide (And.intro (H4.out.1.trans (Turned.of_below hb4 _)) (H4.out.2.below hb4 H4.out.2.lt))
  clear hb4
  dsimp only
  have c5 := (H5.out.2.cell 5).trans (bag_nil _ 5 (by decide) (by decide))
  have l5 := H5.out.2.lt
  clear c4 l4
  go_wp2_with fail
  refine (flatBytes_nil _).mono ?_
  rintro e w6 ⟨rfl, hb5⟩
  have H6 := hide (And.intro (H5.out.1.trans (Turned.of_below hb5 _)) (H5.out.2.below hb5 H5.out.2.lt))
  clear hb5
  dsimp only
  have c6 := (H6.out.2.cell 6).trans (bag_nil _ 6 (by decide) (by decide))
  have l6 := H6.out.2.lt
  clear c5 l5
  go_wp2_with fail
  refine (flatTruths_nil _).mono ?_
  rintro e w7 ⟨rfl, hb6⟩
  have H7 := hide (And.intro (H6.out.1.trans (Turned.of_below hb6 _)) (H6.out.2.below hb6 H6.out.2.lt))
  clear hb6
  dsimp only
  have c7 := (H7.out.2.cell 7).trans (bag_nil _ 7 (by decide) (by decide))
  have l7 := H7.out.2.lt
  clear c6 l6
  go_wp2_with fail
  refine (flatPaths_nil _).mono ?_
  rintro e w8 ⟨rfl, hb7⟩
  have H8 := hide (And.intro (H7.out.1.trans (Turned.of_below hb7 _)) (H7.out.2.below hb7 H7.out.2.lt))
  clear hb7
  dsimp only
  have c8 := (H8.out.2.cell 8).trans (bag_nil _ 8 (by decide) (by decide))
  have l8 := H8.out.2.lt
  clear c7 l7
  go_wp2_with fail
  refine (flatKids_nil _).mono ?_
  rintro e w9 ⟨rfl, hb8⟩
  have H9 := hide (And.intro (H8.out.1.trans (Turned.of_below hb8 _)) (H8.out.2.below hb8 H8.out.2.lt))
  clear hb8
  dsimp only
  have c9 := (H9.out.2.cell 9).trans (bag_nil _ 9 (by decide) (by decide))
  have l9 := H9.out.2.lt
  clear c8 l8
  go_wp2_with fail
  refine (flatNodes_nil _).mono ?_
  rintro e w10 ⟨rfl, hb9⟩
  have H10 := hide (And.intro (H9.out.1.trans (Turned.of_below hb9 _)) (H9.out.2.below hb9 H9.out.2.lt))
  clear hb9
  dsimp only
  have c10 := (H10.out.2.cell 10).trans (bag_nil _ 10 (by decide) (by decide))
  have l10 := H10.out.2.lt
  clear c9 l9
  go_wp2_with fail
  refine (flatLines_nil _).mono ?_
  rintro e w11 ⟨rfl, hb10⟩
  have H11 := hide (And.intro (H10.out.1.trans (Turned.of_below hb10 _)) (H10.out.2.below hb10 H10.out.2.lt))
  clear hb10
  dsimp only
  have c11 := (H11.out.2.cell 11).trans (bag_nil _ 11 (by decide) (by decide))
  have l11 := H11.out.2.lt
  clear c10 l10
  go_wp2_with fail
  refine (flatChanges_nil _).mono ?_
  rintro e w12 ⟨rfl, hb11⟩
  have H12 := hide (And.intro (H11.out.1.trans (Turned.of_below hb11 _)) (H11.out.2.below hb11 H11.out.2.lt))
  clear hb11
  dsimp only
  have c12 := (H12.out.2.cell 12).trans (bag_nil _ 12 (by decide) (by decide))
  have l12 := H12.out.2.lt
  clear c11 l11
  go_wp2_with fail
  refine (flatRuns_nil _).mono ?_
  rintro e w13 ⟨rfl, hb12⟩
  have H13 := hide (And.intro (H12.out.1.trans (Turned.of_below hb12 _)) (H12.out.2.below hb12 H12.out.2.lt))
  clear hb12
  dsimp only
  have c13 := (H13.out.2.cell 13).trans (bag_nil _ 13 (by decide) (by decide))
  have l13 := H13.out.2.lt
  clear c12 l12
  go_wp2_with fail
  refine (flatObjects_nil _).mono ?_
  rintro e w14 ⟨rfl, hb13⟩
  have H14 := hide (And.intro (H13.out.1.trans (Turned.of_below hb13 _)) (H13.out.2.below hb13 H13.out.2.lt))
  clear hb13
  dsimp only
  have c14 := (H14.out.2.cell 14).trans (bag_nil _ 14 (by decide) (by decide))
  have l14 := H14.out.2.lt
  clear c13 l13
  go_wp2_with fail
  refine (flatQuotas_nil _).mono ?_
  rintro e w15 ⟨rfl, hb14⟩
  have H15 := hide (And.intro (H14.out.1.trans (Turned.of_below hb14 _)) (H14.out.2.below hb14 H14.out.2.lt))
  clear hb14
  dsimp only
  have c15 := (H15.out.2.cell 15).trans (bag_nil _ 15 (by decide) (by decide))
  have l15 := H15.out.2.lt
  clear c14 l14
  go_wp2_with fail
  refine (flatNameds_nil _).mono ?_
  rintro e w16 ⟨rfl, hb15⟩
  have H16 := hide (And.intro (H15.out.1.trans (Turned.of_below hb15 _)) (H15.out.2.below hb15 H15.out.2.lt))
  clear hb15
  dsimp only
  have c16 := (H16.out.2.cell 16).trans (bag_nil _ 16 (by decide) (by decide))
  have l16 := H16.out.2.lt
  clear c15 l15
  go_wp2_with fail
  refine (flatDrvs_nil _).mono ?_
  rintro e w17 ⟨rfl, hb16⟩
  have H17 := hide (And.intro (H16.out.1.trans (Turned.of_below hb16 _)) (H16.out.2.below hb16 H16.out.2.lt))
  clear hb16
  dsimp only
  have c17 := (H17.out.2.cell 17).trans (bag_nil _ 17 (by decide) (by decide))
  have l17 := H17.out.2.lt
  clear c16 l16
  go_wp2_with fail
  refine (flatMades_nil _).mono ?_
  rintro e w18 ⟨rfl, hb17⟩
  have H18 := hide (And.intro (H17.out.1.trans (Turned.of_below hb17 _)) (H17.out.2.below hb17 H17.out.2.lt))
  clear hb17
  dsimp only
  have c18 := (H18.out.2.cell 18).trans (bag_nil _ 18 (by decide) (by decide))
  have l18 := H18.out.2.lt
  clear c17 l17
  go_wp2_with fail
  refine (flatBuilts_nil _).mono ?_
  rintro e w19 ⟨rfl, hb18⟩
  have H19 := hide (And.intro (H18.out.1.trans (Turned.of_below hb18 _)) (H18.out.2.below hb18 H18.out.2.lt))
  clear hb18
  dsimp only
  have c19 := (H19.out.2.cell 19).trans (bag_nil _ 19 (by decide) (by decide))
  have l19 := H19.out.2.lt
  clear c18 l18
  go_wp2_with fail
  refine (flatRequests_nil _).mono ?_
  rintro e w20 ⟨rfl, hb19⟩
  have H20 := hide (And.intro (H19.out.1.trans (Turned.of_below hb19 _)) (H19.out.2.below hb19 H19.out.2.lt))
  clear hb19
  dsimp only
  have c20 := (H20.out.2.cell 20).trans (bag_nil _ 20 (by decide) (by decide))
  have l20 := H20.out.2.lt
  clear c19 l19
  go_wp2_with fail
  refine (flatReplies_nil _).mono ?_
  rintro e w21 ⟨rfl, hb20⟩
  have H21 := hide (And.intro (H20.out.1.trans (Turned.of_below hb20 _)) (H20.out.2.below hb20 H20.out.2.lt))
  clear hb20
  dsimp only
  clear c20 l20
  go_wp2_with fail
  go_ret
  exact ⟨rfl, H21.out.1⟩
end Go.Proofs.Ytfppddnfdinipaa.ApI
end
