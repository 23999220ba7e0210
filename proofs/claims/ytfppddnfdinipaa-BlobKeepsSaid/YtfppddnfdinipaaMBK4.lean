/- spencelaw04: both devices tell the same. package dev: where there is no device. spenceref05, package log: shapes. package log: how a shape lies. package blob: runs in memory; which sectors they have. package blob: a field's map. package blob: the iterator over the sectors of runs. package blob: the field of runs. package blob: which sectors are free, which are found: plain. package blob: Need, Apart, Free. package blob: Find. package blob: suits. -/
import Derived.Test.YtfppddnfdinipaaMBK3
import Derived.Test.YtfppddnfdinipaaMBK1
import Derived.LoopN
import Derived.Test.YtfppddnfdinipaaMBK2
import Derived.RangeFuncNested
import Derived.RangeFuncBound
import Derived.RangeFuncCalls
import Derived.RangeFuncLeaves
import Derived.Shelf.Abstract
import Derived.OwnWalkIn
import Derived.TacticsInMore
import Derived.LoopNIn
import Derived.LoopIn
import Derived.RegionIn
import Derived.Shelf.RegionOpen
section
namespace Go.Proofs.Ytfppddnfdinipaa
open Go Go.RowKit
set_option maxRecDepth 100000
theorem stat_neq (a b c : Int) (d : Bool) (w : World) : (binOp .neq 181 (.agg #[.int .i64 a, .int .i64 b, .int .i64 c, .bool d]) (.agg #[.int .i64 a, .int .i64 b, .int .i64 c, .bool d])).run Try.prog w = .ok (.bool false) w := by
  have hu := Try.underlying181
  have h1 := Try.underlying3
  have h2 := Try.underlying4
  go_simp
section
variable {D : Dv} {F : Nat → Prop} {g : Nat}
set_option maxHeartbeats 400000 in
theorem read_down (x : Int) (w : World) (h : DevAt w F g D) (hdn : D.dn = true) : Calls Try.prog 72 #[.pointer (some ⟨g, 0, none⟩), .int .i64 x] w fun e w' => e = .returned (.tuple #[.slice none 0 0, .int .i64 10]) ∧ Below w.heap.size w w' := by
  obtain ⟨rk, c, vp, rfl, hb, hk, hp, hok⟩ := h
  rw [hdn] at hb
  have hB0 : Below w.heap.size w (((w.alloc (.cells #[.int .i64 x] 3)).alloc (.cells #[.slice none 0 0] 66)).alloc (.cells #[.int .i64 0] 34)) := (((Below.refl _ w).alloc (Nat.le_refl _) _).alloc (by simp) _).alloc (by simp; omega) _
  have hdv := hb.below hB0 hb.lt
  have HH := hide (And.intro hdv hB0)
  have hlt := hb.lt
  clear hb hk hp hok hdv hB0
  go_enter Try.func72, Try.ntmps72
  go_wp2_with fail
  refine (able_any _ HH.out.1).mono ?_
  rintro e w' ⟨rfl, rfl⟩
  rw [if_pos rfl]
  dsimp only
  go_wp2_with fail
  refine bodyPost_ret (v := .tuple #[.slice none 0 0, .int .i64 10]) ?_ rfl ⟨rfl, ((((Below.refl _ w).alloc (Nat.le_refl _) _).alloc (by simp) _).alloc (by simp; omega) _)⟩
  simp [results, Try.f72, go_sem]
set_option maxHeartbeats 400000 in
theorem read_out (x : Int) (hx : -9223372036854775808 ≤ x ∧ x ≤ 9223372036854775807) (ho : ¬ (0 ≤ x ∧ x < (D.kept.length : Int))) (w : World) (h : DevAt w F g D) (hdn : D.dn = false) : Calls Try.prog 72 #[.pointer (some ⟨g, 0, none⟩), .int .i64 x] w fun e w' => e = .returned (.tuple #[.slice none 0 0, .int .i64 2]) ∧ Below w.heap.size w w' := by
  obtain ⟨rk, c, vp, rfl, hb, hk, hp, hok⟩ := h
  rw [hdn] at hb
  have hB0 : Below w.heap.size w (((w.alloc (.cells #[.int .i64 x] 3)).alloc (.cells #[.slice none 0 0] 66)).alloc (.cells #[.int .i64 0] 34)) := (((Below.refl _ w).alloc (Nat.le_refl _) _).alloc (by simp) _).alloc (by simp; omega) _
  have hdv := hb.below hB0 hb.lt
  have hnk := hok.n2
  have hd : decide (0 ≤ x ∧ x < (D.kept.length : Int)) = false := decide_eq_false ho
  have HH := hide (And.intro hdv hB0)
  have hlt := hb.lt
  clear hb hk hp hok hdv hB0 ho
  go_enter Try.func72, Try.ntmps72
  go_wp2_with fail
  refine (able_any _ HH.out.1).mono ?_
  rintro e w' ⟨rfl, rfl⟩
  rw [if_neg (by simp)]
  dsimp only
  go_wp2_with fail
  refine (has_any _ hnk x hx HH.out.1).mono ?_
  rintro e w' ⟨rfl, rfl⟩
  rw [hd]
  dsimp only
  go_wp2_with fail
  refine bodyPost_ret (v := .tuple #[.slice none 0 0, .int .i64 2]) ?_ rfl ⟨rfl, ((((Below.refl _ w).alloc (Nat.le_refl _) _).alloc (by simp) _).alloc (by simp; omega) _)⟩
  simp [results, Try.f72, go_sem]
end
theorem read_len {D : Dv} (hok : D.Ok) (x : Nat) (hx : x < D.kept.length) : (D.read x).length = 64 := by
  obtain ⟨b0, hkb⟩ : ∃ b, D.kept[x]? = some b := ⟨D.kept[x]'hx, List.getElem?_eq_getElem _⟩
  have h : D.read x = seenL D.pend (x : Int) b0 := by
    unfold Dv.read readL seenL
    rw [last_fold]
    simp [List.getD, hkb]
  rw [h]
  exact seen_len _ _ _ (fun p hp => (hok.p64 p hp).1) (hok.k64 b0 (List.mem_of_getElem? hkb))
theorem nil_bytes (w : World) : BytesAt w w.heap.size (.slice none 0 0) [] := ⟨none, 0, rfl, Nat.le_refl _, fun h => absurd h (by simp)⟩
theorem below_turned {R : Nat} {w0 w w' : World} {v : Value} (hb : Below R w0 w) (hR : R ≤ w0.heap.size) (ht : Turned (fun k => v.ownBlock = some k) w w') (hv : ∀ k, v.ownBlock = some k → R ≤ k) : Below R w0 w' :=
  ⟨ht.os.trans hb.os, ht.tape.trans hb.tape, ht.output.trans hb.output, Nat.le_trans hb.size ht.size, fun k hk => (ht.block k (by have := hb.size; omega) (fun e => by have := hv k e; omega)).trans (hb.block k hk)⟩
section
variable {D : Dv} {Fd Fr : Nat → Prop} {g r : Nat}
end
end Go.Proofs.Ytfppddnfdinipaa
end
section
namespace Go.Proofs.Ytfppddnfdinipaa
open Go Go.RowKit
/-- no device: nil, or one that has no sectors -/
def NoDev (w : World) (p : Option Addr) : Prop := p = none ∨ ∃ g, p = some ⟨g, 0, none⟩ ∧ Blk w g 150 (dv 0 0 false (.slice none 0 0) (.slice none 0 0))
theorem NoDev.below {w w' : World} {p : Option Addr} (h : NoDev w p) (hb : Below w.heap.size w w') : NoDev w' p := by
  rcases h with h | ⟨g, h1, h2⟩
  · exact .inl h
  · exact .inr ⟨g, h1, h2.below hb h2.lt⟩
set_option maxRecDepth 100000
theorem dnone_no (p : Option Addr) (w : World) (h : NoDev w p) : Calls Try.prog 126 #[.pointer p] w fun e w' => e = .returned (.bool true) ∧ w' = w := by
  rcases h with rfl | ⟨g, rfl, hb⟩
  · go_enter Try.func126, Try.ntmps126
    go_wp2
    go_ret
    exact ⟨rfl, rfl⟩
  · have c3 := (hb.cell 3).trans (dv3 ..)
    have hlt := hb.lt
    have hq := fun (w : World) (a : Option Addr) (n c : Nat) => Lib.run_eql_slice_nil (P := Try.prog) w 145 213 a n c 0 0 Try.underlying145
    clear hb
    go_enter Try.func126, Try.ntmps126
    go_wp2
    go_ret
    exact ⟨rfl, rfl⟩
theorem able_no (p : Option Addr) (w : World) (h : NoDev w p) : Calls Try.prog 69 #[.pointer p] w fun e w' => e = .returned (.int .i64 1) ∧ w' = w := by
  go_enter Try.func69, Try.ntmps69
  go_wp2_with fail
  refine (dnone_no _ _ h).mono ?_
  rintro e w' ⟨rfl, rfl⟩
  dsimp only
  go_wp2_with fail
  go_ret
  exact ⟨rfl, rfl⟩
theorem write_no (p : Option Addr) (x : Int) (v : Value) (w : World) (h : NoDev w p) : Calls Try.prog 67 #[.pointer p, .int .i64 x, v] w fun e w' => e = .returned (.int .i64 1) ∧ w' = w := by
  go_enter Try.func67, Try.ntmps67
  go_wp2_with fail
  refine (able_no _ _ h).mono ?_
  rintro e w' ⟨rfl, rfl⟩
  dsimp only
  go_wp2_with fail
  go_ret
  exact ⟨rfl, rfl⟩
theorem flush_no (p : Option Addr) (w : World) (h : NoDev w p) : Calls Try.prog 68 #[.pointer p] w fun e w' => e = .returned (.int .i64 1) ∧ w' = w := by
  go_enter Try.func68, Try.ntmps68
  go_wp2_with fail
  refine (able_no _ _ h).mono ?_
  rintro e w' ⟨rfl, rfl⟩
  dsimp only
  go_wp2_with fail
  go_ret
  exact ⟨rfl, rfl⟩
theorem fuse_no (p : Option Addr) (x : Int) (w : World) (h : NoDev w p) : Calls Try.prog 80 #[.pointer p, .int .i64 x] w fun e w' => e = .returned (.int .i64 1) ∧ w' = w := by
  go_enter Try.func80, Try.ntmps80
  go_wp2_with fail
  refine (able_no _ _ h).mono ?_
  rintro e w' ⟨rfl, rfl⟩
  dsimp only
  go_wp2_with fail
  go_ret
  exact ⟨rfl, rfl⟩
theorem crash_no (p : Option Addr) (w : World) (h : NoDev w p) : Calls Try.prog 37 #[.pointer p] w fun e w' => e = .returned (.int .i64 1) ∧ w' = w := by
  go_enter Try.func37, Try.ntmps37
  go_wp2_with fail
  refine (able_no _ _ h).mono ?_
  rintro e w' ⟨rfl, rfl⟩
  dsimp only
  go_wp2_with fail
  go_ret
  exact ⟨rfl, rfl⟩
theorem wake_no (p : Option Addr) (x : Int) (w : World) (h : NoDev w p) : Calls Try.prog 38 #[.pointer p, .int .i64 x] w fun e w' => e = .returned (.int .i64 1) ∧ w' = w := by
  go_enter Try.func38, Try.ntmps38
  go_wp2_with fail
  refine (able_no _ _ h).mono ?_
  rintro e w' ⟨rfl, rfl⟩
  dsimp only
  go_wp2_with fail
  go_ret
  exact ⟨rfl, rfl⟩
theorem kept_no (p : Option Addr) (w : World) (h : NoDev w p) : Calls Try.prog 86 #[.pointer p] w fun e w' => e = .returned (.slice none 0 0) ∧ w' = w := by
  go_enter Try.func86, Try.ntmps86
  go_wp2_with fail
  refine (dnone_no _ _ h).mono ?_
  rintro e w' ⟨rfl, rfl⟩
  dsimp only
  go_wp2_with fail
  go_ret
  exact ⟨rfl, rfl⟩
theorem read_no (p : Option Addr) (x : Int) (w : World) (h : NoDev w p) : Calls Try.prog 72 #[.pointer p, .int .i64 x] w fun e w' => e = .returned (.tuple #[.slice none 0 0, .int .i64 1]) ∧ Below w.heap.size w w' := by
  have hB0 : Below w.heap.size w (((w.alloc (.cells #[.int .i64 x] 3)).alloc (.cells #[.slice none 0 0] 66)).alloc (.cells #[.int .i64 0] 34)) := (((Below.refl _ w).alloc (Nat.le_refl _) _).alloc (by simp) _).alloc (by simp; omega) _
  have HH := hide (h.below hB0)
  clear hB0
  go_enter Try.func72, Try.ntmps72
  go_wp2_with fail
  refine (able_no _ _ HH.out).mono ?_
  rintro e w' ⟨rfl, rfl⟩
  dsimp only
  go_wp2_with fail
  refine bodyPost_ret (v := .tuple #[.slice none 0 0, .int .i64 1]) ?_ rfl ⟨rfl, ((((Below.refl _ w).alloc (Nat.le_refl _) _).alloc (by simp) _).alloc (by simp; omega) _)⟩
  simp [results, Try.f72, go_sem]
theorem stat_no (p : Option Addr) (w : World) (h : NoDev w p) : Calls Try.prog 87 #[.pointer p] w fun e w' => e = .returned (.agg #[.int .i64 0, .int .i64 0, .int .i64 0, .bool false]) ∧ Below w.heap.size w w' := by
  have hB0 : Below w.heap.size w (w.alloc (.cells #[.int .i64 0, .int .i64 0, .int .i64 0, .bool false] 181)) := (Below.refl _ w).alloc (Nat.le_refl _) _
  have HH := hide (And.intro (h.below hB0) hB0)
  clear hB0
  go_enter Try.func87, Try.ntmps87
  go_wp2_with fail
  refine (dnone_no _ _ HH.out.1).mono ?_
  rintro e w' ⟨rfl, rfl⟩
  dsimp only
  go_wp2_with fail
  refine bodyPost_ret (results_cell_row rfl _ _ w.heap.size 181 #[.int .i64 0, .int .i64 0, .int .i64 0, .bool false] (0, 0) _ rfl (Blk.new _ _ _) Try.underlying181 rfl (by kernel_rfl)) rfl ⟨rfl, HH.out.2⟩
end Go.Proofs.Ytfppddnfdinipaa
end
section
namespace Go.Proofs.Ytfppddnfdinipaa
open Go Go.RowKit
set_option maxRecDepth 100000
def inW (n : Int) : Prop := 1 ≤ n ∧ n ≤ 8192
instance (n : Int) : Decidable (inW n) := by unfold inW; exact inferInstance
def rightP (l a d : Int) : Prop := inW l ∧ inW a ∧ inW d ∧ 1 + l + 2 * a + d ≤ 8192
instance (l a d : Int) : Decidable (rightP l a d) := by unfold rightP; exact inferInstance
theorem within_any (n : Int) (w : World) : Calls Try.prog 163 #[.int .i64 n] w fun e w' => e = .returned (.bool (decide (inW n))) ∧ w' = w := by
  by_cases h1 : 1 ≤ n
  · by_cases h2 : n ≤ 8192
    · rw [decide_eq_true (show inW n from ⟨h1, h2⟩)]
      go_enter Try.func163, Try.ntmps163
      go_wp2
      go_ret
      exact ⟨rfl, rfl⟩
    · rw [decide_eq_false (show ¬ inW n from fun h => h2 h.2)]
      go_enter Try.func163, Try.ntmps163
      go_wp2
      go_ret
      exact ⟨rfl, rfl⟩
  · rw [decide_eq_false (show ¬ inW n from fun h => h1 h.1)]
    go_enter Try.func163, Try.ntmps163
    go_wp2
    go_ret
    exact ⟨rfl, rfl⟩
theorem within_yes {n : Int} (h : inW n) (w : World) : Calls Try.prog 163 #[.int .i64 n] w fun e w' => e = .returned (.bool true) ∧ w' = w := by
  have := within_any n w
  rwa [decide_eq_true h] at this
theorem within_no {n : Int} (h : ¬ inW n) (w : World) : Calls Try.prog 163 #[.int .i64 n] w fun e w' => e = .returned (.bool false) ∧ w' = w := by
  have := within_any n w
  rwa [decide_eq_false h] at this
theorem rright_any (l a d : Int) (w : World) : Calls Try.prog 129 #[.agg #[.int .i64 l, .int .i64 a, .int .i64 d]] w fun e w' => e = .returned (.bool (decide (rightP l a d))) ∧ w' = w.alloc (.cells #[.int .i64 l, .int .i64 a, .int .i64 d] 64) := by
  by_cases h1 : inW l
  · by_cases h2 : inW a
    · by_cases h3 : inW d
      · obtain ⟨a1, a2⟩ := h1
        obtain ⟨b1, b2⟩ := h2
        obtain ⟨c1, c2⟩ := h3
        by_cases h4 : 1 + l + 2 * a + d ≤ 8192
        · rw [decide_eq_true (show rightP l a d from ⟨⟨a1, a2⟩, ⟨b1, b2⟩, ⟨c1, c2⟩, h4⟩)]
          go_enter Try.func129, Try.ntmps129
          go_wp2_with fail
          refine (within_yes ⟨a1, a2⟩ _).mono ?_
          rintro e w' ⟨rfl, rfl⟩
          dsimp only
          go_wp2_with fail
          refine (within_yes ⟨b1, b2⟩ _).mono ?_
          rintro e w' ⟨rfl, rfl⟩
          dsimp only
          go_wp2_with fail
          refine (within_yes ⟨c1, c2⟩ _).mono ?_
          rintro e w' ⟨rfl, rfl⟩
          dsimp only
          go_wp2_with fail
          go_ret
          exact ⟨rfl, rfl⟩
        · rw [decide_eq_false (show ¬ rightP l a d from fun h => h4 h.2.2.2)]
          go_enter Try.func129, Try.ntmps129
          go_wp2_with fail
          refine (within_yes ⟨a1, a2⟩ _).mono ?_
          rintro e w' ⟨rfl, rfl⟩
          dsimp only
          go_wp2_with fail
          refine (within_yes ⟨b1, b2⟩ _).mono ?_
          rintro e w' ⟨rfl, rfl⟩
          dsimp only
          go_wp2_with fail
          refine (within_yes ⟨c1, c2⟩ _).mono ?_
          rintro e w' ⟨rfl, rfl⟩
          dsimp only
          go_wp2_with fail
          go_ret
          exact ⟨(congrArg (fun b => Ending.returned (Value.bool b)) (decide_eq_false (show ¬ (1 + l + 2 * a + d ≤ 8192) by omega)) :), rfl⟩
      · rw [decide_eq_false (show ¬ rightP l a d from fun h => h3 h.2.2.1)]
        go_enter Try.func129, Try.ntmps129
        go_wp2_with fail
        refine (within_yes h1 _).mono ?_
        rintro e w' ⟨rfl, rfl⟩
        dsimp only
        go_wp2_with fail
        refine (within_yes h2 _).mono ?_
        rintro e w' ⟨rfl, rfl⟩
        dsimp only
        go_wp2_with fail
        refine (within_no h3 _).mono ?_
        rintro e w' ⟨rfl, rfl⟩
        dsimp only
        go_wp2_with fail
        go_ret
        exact ⟨rfl, rfl⟩
    · rw [decide_eq_false (show ¬ rightP l a d from fun h => h2 h.2.1)]
      go_enter Try.func129, Try.ntmps129
      go_wp2_with fail
      refine (within_yes h1 _).mono ?_
      rintro e w' ⟨rfl, rfl⟩
      dsimp only
      go_wp2_with fail
      refine (within_no h2 _).mono ?_
      rintro e w' ⟨rfl, rfl⟩
      dsimp only
      go_wp2_with fail
      go_ret
      exact ⟨rfl, rfl⟩
  · rw [decide_eq_false (show ¬ rightP l a d from fun h => h1 h.1)]
    go_enter Try.func129, Try.ntmps129
    go_wp2_with fail
    refine (within_no h1 _).mono ?_
    rintro e w' ⟨rfl, rfl⟩
    dsimp only
    go_wp2_with fail
    go_ret
    exact ⟨rfl, rfl⟩
/-- how many sectors; where the data begins -/
def secs (l a d : Int) : Int := if rightP l a d then 1 + l + 2 * a + d else 0
def firstS (l a d : Int) : Int := if rightP l a d then 1 + l + 2 * a else 0
theorem rsecs_any (l a d : Int) (w : World) : Calls Try.prog 73 #[.agg #[.int .i64 l, .int .i64 a, .int .i64 d]] w fun e w' => e = .returned (.int .i64 (secs l a d)) ∧ Below w.heap.size w w' := by
  by_cases h : rightP l a d
  · have hr := decide_eq_true h
    rw [secs, if_pos h]
    obtain ⟨⟨a1, a2⟩, ⟨b1, b2⟩, ⟨c1, c2⟩, h4⟩ := h
    go_enter Try.func73, Try.ntmps73
    go_wp2_with fail
    refine (rright_any l a d _).mono ?_
    rintro e w' ⟨rfl, rfl⟩
    rw [hr]
    dsimp only
    go_wp2_with fail
    go_ret
    exact ⟨rfl, ((Below.refl _ w).alloc (Nat.le_refl _) _).alloc (by rw [size_alloc]; omega) _⟩
  · have hr := decide_eq_false h
    rw [secs, if_neg h]
    go_enter Try.func73, Try.ntmps73
    go_wp2_with fail
    refine (rright_any l a d _).mono ?_
    rintro e w' ⟨rfl, rfl⟩
    rw [hr]
    dsimp only
    go_wp2_with fail
    go_ret
    exact ⟨rfl, ((Below.refl _ w).alloc (Nat.le_refl _) _).alloc (by rw [size_alloc]; omega) _⟩
theorem ix4 (p q r s : Int) (w : World) : (Instr.index 137 (.agg #[.int .i64 p, .int .i64 q, .int .i64 r, .int .i64 s]) (.int .i64 0)).run Try.prog w = .ok (.int .i64 p) w ∧ (Instr.index 137 (.agg #[.int .i64 p, .int .i64 q, .int .i64 r, .int .i64 s]) (.int .i64 1)).run Try.prog w = .ok (.int .i64 q) w ∧
    (Instr.index 137 (.agg #[.int .i64 p, .int .i64 q, .int .i64 r, .int .i64 s]) (.int .i64 2)).run Try.prog w = .ok (.int .i64 r) w ∧ (Instr.index 137 (.agg #[.int .i64 p, .int .i64 q, .int .i64 r, .int .i64 s]) (.int .i64 3)).run Try.prog w = .ok (.int .i64 s) w := ⟨by kernel_rfl, by kernel_rfl, by kernel_rfl, by kernel_rfl⟩
set_option maxHeartbeats 2000000 in
theorem lright_any (l a d : Int) (w : World) : Calls Try.prog 29 #[.agg #[.int .i64 l, .int .i64 a, .int .i64 d]] w fun e w' => e = .returned (.bool (decide (rightP l a d))) ∧ w' = w.alloc (.cells #[.int .i64 l, .int .i64 a, .int .i64 d] 64) := by
  have i0 := fun w => (ix4 l a a d w).1
  have i1 := fun w => (ix4 l a a d w).2.1
  have i2 := fun w => (ix4 l a a d w).2.2.1
  have i3 := fun w => (ix4 l a a d w).2.2.2
  by_cases hl : 1 ≤ l
  · by_cases hl2 : l ≤ 8192
    · by_cases ha : 1 ≤ a
      · by_cases ha2 : a ≤ 8192
        · by_cases hd : 1 ≤ d
          · by_cases hd2 : d ≤ 8192
            · by_cases h4 : 1 + l + 2 * a + d ≤ 8192
              · have h5 : 1 + l + a + a + d ≤ 8192 := by omega
                rw [decide_eq_true (show rightP l a d from ⟨⟨hl, hl2⟩, ⟨ha, ha2⟩, ⟨hd, hd2⟩, h4⟩)]
                go_enter Try.func29, Try.ntmps29
                go_wp2_with fail
                refine wp_loop_rounds 5 ?_
                rw [rounds_succ]; go_wp2
                rw [rounds_succ]; go_wp2
                rw [rounds_succ]; go_wp2
                rw [rounds_succ]; go_wp2
                rw [rounds_succ]; go_wp2
                go_ret
                exact ⟨by simp, rfl⟩
              · have h5 : ¬ 1 + l + a + a + d ≤ 8192 := by omega
                rw [decide_eq_false (show ¬ rightP l a d from fun h => h4 h.2.2.2)]
                go_enter Try.func29, Try.ntmps29
                go_wp2_with fail
                refine wp_loop_rounds 5 ?_
                rw [rounds_succ]; go_wp2
                rw [rounds_succ]; go_wp2
                rw [rounds_succ]; go_wp2
                rw [rounds_succ]; go_wp2
                rw [rounds_succ]; go_wp2
                go_ret
                exact ⟨by simp [h5], rfl⟩
            · rw [decide_eq_false (show ¬ rightP l a d from fun h => hd2 h.2.2.1.2)]
              go_enter Try.func29, Try.ntmps29
              go_wp2_with fail
              refine wp_loop_rounds 5 ?_
              rw [rounds_succ]; go_wp2
              rw [rounds_succ]; go_wp2
              rw [rounds_succ]; go_wp2
              rw [rounds_succ]; go_wp2
              go_ret
              exact ⟨rfl, rfl⟩
          · rw [decide_eq_false (show ¬ rightP l a d from fun h => hd h.2.2.1.1)]
            go_enter Try.func29, Try.ntmps29
            go_wp2_with fail
            refine wp_loop_rounds 5 ?_
            rw [rounds_succ]; go_wp2
            rw [rounds_succ]; go_wp2
            rw [rounds_succ]; go_wp2
            rw [rounds_succ]; go_wp2
            go_ret
            exact ⟨rfl, rfl⟩
        · rw [decide_eq_false (show ¬ rightP l a d from fun h => ha2 h.2.1.2)]
          go_enter Try.func29, Try.ntmps29
          go_wp2_with fail
          refine wp_loop_rounds 5 ?_
          rw [rounds_succ]; go_wp2
          rw [rounds_succ]; go_wp2
          go_ret
          exact ⟨rfl, rfl⟩
      · rw [decide_eq_false (show ¬ rightP l a d from fun h => ha h.2.1.1)]
        go_enter Try.func29, Try.ntmps29
        go_wp2_with fail
        refine wp_loop_rounds 5 ?_
        rw [rounds_succ]; go_wp2
        rw [rounds_succ]; go_wp2
        go_ret
        exact ⟨rfl, rfl⟩
    · rw [decide_eq_false (show ¬ rightP l a d from fun h => hl2 h.1.2)]
      go_enter Try.func29, Try.ntmps29
      go_wp2_with fail
      refine wp_loop_rounds 5 ?_
      rw [rounds_succ]; go_wp2
      go_ret
      exact ⟨rfl, rfl⟩
  · rw [decide_eq_false (show ¬ rightP l a d from fun h => hl h.1.1)]
    go_enter Try.func29, Try.ntmps29
    go_wp2_with fail
    refine wp_loop_rounds 5 ?_
    rw [rounds_succ]; go_wp2
    go_ret
    exact ⟨rfl, rfl⟩
end Go.Proofs.Ytfppddnfdinipaa
end
section
namespace Go.Proofs.Ytfppddnfdinipaa
open Go Go.RowKit
theorem _root_.Go.RowKit.Below.al {w0 w : World} (h : Below w0.heap.size w0 w) (o : Obj) : Below w0.heap.size w0 (w.alloc o) := h.alloc h.size o
theorem _root_.Go.RowKit.Below.next {w0 w w' : World} (h : Below w0.heap.size w0 w) (k : Below w.heap.size w w') : Below w0.heap.size w0 w' := h.trans (Below.mono k h.size)
set_option maxRecDepth 100000
theorem behind_any (f m n : Int) (hf : 0 ≤ f ∧ f ≤ 100000) (hm : 0 ≤ m ∧ m ≤ 100000) (w : World) : Calls Try.prog 61 #[.agg #[.int .i64 f, .int .i64 m], .int .i64 n] w fun e w' => e = .returned (.agg #[.int .i64 (f + m), .int .i64 n]) ∧ w' = (w.alloc (.cells #[.int .i64 f, .int .i64 m] 139)).alloc (.cells #[.int .i64 (f + m), .int .i64 n] 139) := by
  obtain ⟨f1, f2⟩ := hf
  obtain ⟨m1, m2⟩ := hm
  go_enter Try.func61, Try.ntmps61
  go_wp2
  exact bodyPost_ret (results_cell_row rfl _ _ (w.heap.size + 1) 139 #[.int .i64 (f + m), .int .i64 n] (0, 0) _ rfl (Blk.new1 _ _ _ _) Try.underlying139 rfl (by kernel_rfl)) rfl ⟨rfl, rfl⟩
theorem laid_any (l a d : Int) (hl : 0 ≤ l ∧ l ≤ 10000) (ha : 0 ≤ a ∧ a ≤ 10000) (w : World) : Calls Try.prog 60 #[.agg #[.int .i64 l, .int .i64 a, .int .i64 d]] w fun e w' => e = .returned (.agg #[.int .i64 1, .int .i64 l, .int .i64 (1 + l), .int .i64 a, .int .i64 (1 + l + a), .int .i64 a, .int .i64 (1 + l + a + a), .int .i64 d]) ∧ Below w.heap.size w w' := by
  obtain ⟨l1, l2⟩ := hl
  obtain ⟨a1, a2⟩ := ha
  go_enter Try.func60, Try.ntmps60
  go_wp2_with fail
  refine (behind_any 1 l a ⟨by omega, by omega⟩ ⟨by omega, by omega⟩ _).mono ?_
  rintro e w' ⟨rfl, rfl⟩
  dsimp only
  go_wp2_with fail
  refine (behind_any (1 + l) a a ⟨by omega, by omega⟩ ⟨by omega, by omega⟩ _).mono ?_
  rintro e w' ⟨rfl, rfl⟩
  dsimp only
  go_wp2_with fail
  refine (behind_any (1 + l + a) a d ⟨by omega, by omega⟩ ⟨by omega, by omega⟩ _).mono ?_
  rintro e w' ⟨rfl, rfl⟩
  dsimp only
  go_wp2_with fail
  refine bodyPost_ret (results_cell_row rfl _ _ (w.heap.size + 1) 142 #[.int .i64 1, .int .i64 l, .int .i64 (1 + l), .int .i64 a, .int .i64 (1 + l + a), .int .i64 a, .int .i64 (1 + l + a + a), .int .i64 d] (0, 0) _ rfl (((((((Blk.new1 _ _ _ _).alloc _).alloc _).alloc _).alloc _).alloc _).alloc _) Try.underlying142 rfl (by kernel_rfl)) rfl ⟨rfl, ?_⟩
  exact (((((((((Below.refl _ w).alloc (Nat.le_refl _) _).al _).al _).al _).al _).al _).al _).al _)
theorem field_data (p q r s t u x y : Int) (w : World) : (Instr.field 142 (.agg #[.int .i64 p, .int .i64 q, .int .i64 r, .int .i64 s, .int .i64 t, .int .i64 u, .int .i64 x, .int .i64 y]) 2).run Try.prog w = .ok (.agg #[.int .i64 x, .int .i64 y]) w := by kernel_rfl
theorem field_first (x y : Int) (w : World) : (Instr.field 139 (.agg #[.int .i64 x, .int .i64 y]) 0).run Try.prog w = .ok (.int .i64 x) w := by kernel_rfl
theorem lsecs_any (l a d : Int) (w : World) : Calls Try.prog 30 #[.agg #[.int .i64 l, .int .i64 a, .int .i64 d]] w fun e w' => e = .returned (.int .i64 (secs l a d)) ∧ Below w.heap.size w w' := by
  by_cases h : rightP l a d
  · have hr := decide_eq_true h
    rw [secs, if_pos h]
    obtain ⟨⟨a1, a2⟩, ⟨b1, b2⟩, ⟨c1, c2⟩, h4⟩ := h
    have f1 := field_data 1 l (1 + l) a (1 + l + a) a (1 + l + a + a) d
    have f2 := fun x y => field_first x y
    go_enter Try.func30, Try.ntmps30
    go_wp2_with fail
    refine (lright_any l a d _).mono ?_
    rintro e w' ⟨rfl, rfl⟩
    rw [hr]
    dsimp only
    go_wp2_with fail
    refine (laid_any l a d ⟨by omega, by omega⟩ ⟨by omega, by omega⟩ _).mono ?_
    rintro e w2 ⟨rfl, hb2⟩
    have H2 := hide (((Below.refl _ w).alloc (Nat.le_refl _) (.cells #[.int .i64 l, .int .i64 a, .int .i64 d] 64)).al (.cells #[.int .i64 l, .int .i64 a, .int .i64 d] 64) |>.next hb2)
    clear hb2
    dsimp only
    go_wp2_with fail
    refine (behind_any (1 + l + a + a) d 0 ⟨by omega, by omega⟩ ⟨by omega, by omega⟩ _).mono ?_
    rintro e w3 ⟨rfl, hw3⟩
    have H3 := hide (H2.out.next (show Below w2.heap.size w2 w3 by rw [hw3]; exact ((Below.refl _ w2).alloc (Nat.le_refl _) _).al _))
    clear hw3
    dsimp only
    go_wp2_with fail
    go_ret
    exact ⟨by rw [show 1 + l + 2 * a + d = 1 + l + a + a + d by omega]; rfl, H3.out⟩
  · have hr := decide_eq_false h
    rw [secs, if_neg h]
    go_enter Try.func30, Try.ntmps30
    go_wp2_with fail
    refine (lright_any l a d _).mono ?_
    rintro e w' ⟨rfl, rfl⟩
    rw [hr]
    dsimp only
    go_wp2_with fail
    go_ret
    exact ⟨rfl, ((Below.refl _ w).alloc (Nat.le_refl _) _).al _⟩
theorem lfirst_any (l a d : Int) (w : World) : Calls Try.prog 65 #[.agg #[.int .i64 l, .int .i64 a, .int .i64 d]] w fun e w' => e = .returned (.int .i64 (firstS l a d)) ∧ Below w.heap.size w w' := by
  by_cases h : rightP l a d
  · have hr := decide_eq_true h
    rw [firstS, if_pos h]
    obtain ⟨⟨a1, a2⟩, ⟨b1, b2⟩, ⟨c1, c2⟩, h4⟩ := h
    have f1 := field_data 1 l (1 + l) a (1 + l + a) a (1 + l + a + a) d
    have f2 := fun x y => field_first x y
    go_enter Try.func65, Try.ntmps65
    go_wp2_with fail
    refine (lright_any l a d _).mono ?_
    rintro e w' ⟨rfl, rfl⟩
    rw [hr]
    dsimp only
    go_wp2_with fail
    refine (laid_any l a d ⟨by omega, by omega⟩ ⟨by omega, by omega⟩ _).mono ?_
    rintro e w2 ⟨rfl, hb2⟩
    have H2 := hide (((Below.refl _ w).alloc (Nat.le_refl _) (.cells #[.int .i64 l, .int .i64 a, .int .i64 d] 64)).al (.cells #[.int .i64 l, .int .i64 a, .int .i64 d] 64) |>.next hb2)
    clear hb2
    dsimp only
    go_wp2_with fail
    go_ret
    exact ⟨by rw [show 1 + l + 2 * a = 1 + l + a + a by omega]; rfl, H2.out⟩
  · have hr := decide_eq_false h
    rw [firstS, if_neg h]
    go_enter Try.func65, Try.ntmps65
    go_wp2_with fail
    refine (lright_any l a d _).mono ?_
    rintro e w' ⟨rfl, rfl⟩
    rw [hr]
    dsimp only
    go_wp2_with fail
    go_ret
    exact ⟨rfl, ((Below.refl _ w).alloc (Nat.le_refl _) _).al _⟩
theorem rfirst_any (l a d : Int) (w : World) : Calls Try.prog 166 #[.agg #[.int .i64 l, .int .i64 a, .int .i64 d]] w fun e w' => e = .returned (.int .i64 (firstS l a d)) ∧ Below w.heap.size w w' := by
  by_cases h : rightP l a d
  · have hr := decide_eq_true h
    rw [firstS, if_pos h]
    obtain ⟨⟨a1, a2⟩, ⟨b1, b2⟩, ⟨c1, c2⟩, h4⟩ := h
    go_enter Try.func166, Try.ntmps166
    go_wp2_with fail
    refine (rright_any l a d _).mono ?_
    rintro e w' ⟨rfl, rfl⟩
    rw [hr]
    dsimp only
    go_wp2_with fail
    go_ret
    exact ⟨rfl, ((Below.refl _ w).alloc (Nat.le_refl _) _).al _⟩
  · have hr := decide_eq_false h
    rw [firstS, if_neg h]
    go_enter Try.func166, Try.ntmps166
    go_wp2_with fail
    refine (rright_any l a d _).mono ?_
    rintro e w' ⟨rfl, rfl⟩
    rw [hr]
    dsimp only
    go_wp2_with fail
    go_ret
    exact ⟨rfl, ((Below.refl _ w).alloc (Nat.le_refl _) _).al _⟩
end Go.Proofs.Ytfppddnfdinipaa
end
section
namespace Go.Proofs.Ytfppddnfdinipaa
open Go Go.RowKit
abbrev Run := Int × Int
def runCells (l : List Run) : List Value := l.flatMap fun r => [.int .i64 r.1, .int .i64 r.2]
theorem runCells_len (l : List Run) : (runCells l).length = l.length * 2 := by
  induction l with
  | nil => rfl
  | cons p l ih =>
    show ([Value.int .i64 p.1, .int .i64 p.2] ++ runCells l).length = _
    rw [List.length_append, ih]
    show 2 + l.length * 2 = (l.length + 1) * 2
    omega
theorem runCells_app (a b : List Run) : runCells (a ++ b) = runCells a ++ runCells b := by simp [runCells]
theorem runCells_one (l : List Run) : ∀ u ∈ runCells l, u.oneCell' = true := by
  intro u hu
  obtain ⟨p, hp, hu⟩ := List.mem_flatMap.1 hu
  simp only [List.mem_cons, List.not_mem_nil, or_false] at hu
  rcases hu with rfl | rfl <;> rfl
theorem runCells_at : ∀ (l : List Run) (j : Nat) (p : Run), l[j]? = some p → (runCells l)[j * 2]? = some (.int .i64 p.1) ∧ (runCells l)[j * 2 + 1]? = some (.int .i64 p.2)
  | [], j, p, h => by simp at h
  | q :: l, 0, p, h => by
    simp only [List.getElem?_cons_zero, Option.some.injEq] at h
    subst h
    exact ⟨rfl, rfl⟩
  | q :: l, j + 1, p, h => by
    have ih := runCells_at l j p (by simpa using h)
    show ([Value.int .i64 q.1, .int .i64 q.2] ++ runCells l)[(j + 1) * 2]? = _ ∧ ([Value.int .i64 q.1, .int .i64 q.2] ++ runCells l)[(j + 1) * 2 + 1]? = _
    rw [List.getElem?_append_right (by show 2 ≤ _; omega), List.getElem?_append_right (by show 2 ≤ _; omega)]
    have e : (j + 1) * 2 - [Value.int .i64 q.1, .int .i64 q.2].length = j * 2 := by show (j + 1) * 2 - 2 = _; omega
    have e2 : (j + 1) * 2 + 1 - [Value.int .i64 q.1, .int .i64 q.2].length = j * 2 + 1 := by show (j + 1) * 2 + 1 - 2 = _; omega
    rw [e, e2]
    exact ih
def r64 (r : Run) : Prop := (-9223372036854775808 ≤ r.1 ∧ r.1 ≤ 9223372036854775807) ∧ (-9223372036854775808 ≤ r.2 ∧ r.2 ≤ 9223372036854775807)
/-- runs that lie below block B -/
def RunsM (w : World) (B : Nat) (v : Value) (l : List Run) : Prop :=
  ∃ A cap, v = .slice A l.length cap ∧ l.length ≤ cap ∧ (A = none → cap = 0) ∧ (0 < l.length → ∃ b off, A = some ⟨b, off, none⟩ ∧ b < B ∧ ∀ j r, l[j]? = some r → w.cell? ⟨b, off + j * 2, none⟩ = some (.int .i64 r.1) ∧ w.cell? ⟨b, off + j * 2 + 1, none⟩ = some (.int .i64 r.2)) ∧ ∀ r ∈ l, r64 r
theorem RunsM.alike {w w' : World} {B : Nat} {v : Value} {l : List Run} (h : RunsM w B v l) (ha : Alike B w w') : RunsM w' B v l := by
  obtain ⟨A, cap, hv, hc, hn, hA, hr⟩ := h
  exact ⟨A, cap, hv, hc, hn, fun h0 => by
    obtain ⟨b, off, h1, h2, h3⟩ := hA h0
    exact ⟨b, off, h1, h2, fun j r hj => ⟨(ha.cell (p := ⟨b, off + j * 2, none⟩) h2).trans (h3 j r hj).1, (ha.cell (p := ⟨b, off + j * 2 + 1, none⟩) h2).trans (h3 j r hj).2⟩⟩, hr⟩
theorem RunsM.widen {w : World} {B B' : Nat} {v : Value} {l : List Run} (h : RunsM w B v l) (hB : B ≤ B') : RunsM w B' v l := by
  obtain ⟨A, cap, hv, hc, hn, hA, hr⟩ := h
  exact ⟨A, cap, hv, hc, hn, fun h0 => by
    obtain ⟨b, off, h1, h2, h3⟩ := hA h0
    exact ⟨b, off, h1, by omega, h3⟩, hr⟩
theorem RunsM.src {w : World} {B cap : Nat} {A : Option Addr} {l : List Run} (h : RunsM w B (.slice A l.length cap) l) : (A = none → l.length = 0 ∧ cap = 0) ∧ ∀ ad, A = some ad → ad.block < B ∨ l = [] := by
  obtain ⟨A', cap', hv, hc, hn, hA, hr⟩ := h
  injection hv with e1 e2 e3
  subst e1 e3
  refine ⟨fun h0 => ⟨by have := hn h0; omega, hn h0⟩, fun ad had => ?_⟩
  rcases Nat.eq_zero_or_pos l.length with hl | hl
  · exact .inr (List.length_eq_zero_iff.1 hl)
  · obtain ⟨b, off, h1, h2, _⟩ := hA hl
    rw [h1] at had
    obtain rfl := Option.some.inj had
    exact .inl h2
theorem info_run : (Try.prog.info? 88).map (fun i => (i.zero, i.size, i.bytes)) = some (some (.agg #[.int .i64 0, .int .i64 0]), 2, 16) := by kernel_rfl
theorem runs_new (w : World) (l : List Run) (hr : ∀ r ∈ l, r64 r) : RunsM (w.alloc (.cells (runCells l).toArray 88)) (w.heap.size + 1) (.slice (some ⟨w.heap.size, 0, none⟩) l.length l.length) l := by
  refine ⟨_, l.length, rfl, Nat.le_refl _, (fun h => by cases h), fun _ => ⟨w.heap.size, 0, rfl, by omega, fun j r hj => ?_⟩, hr⟩
  have hb := Blk.new w 88 (runCells l).toArray
  have h := runCells_at l j r hj
  rw [Nat.zero_add, hb.cell, hb.cell]
  exact ⟨by simpa using h.1, by simpa using h.2⟩
theorem runs_nil (w : World) (B : Nat) : RunsM w B (.slice none 0 0) [] := ⟨none, 0, rfl, Nat.le_refl _, fun _ => rfl, (fun h => by cases h), fun r hr => by cases hr⟩
/-- a row of runs of one's own -/
def OwnRuns (base : Nat) (w : World) (v : Value) (l : List Run) : Prop := w.ownsRow base 88 2 v l.length (runCells l) ∧ ∀ r ∈ l, r64 r
theorem OwnRuns.below {base : Nat} {w w' : World} {v : Value} {l : List Run} (h : OwnRuns base w v l) (hb : Below w.heap.size w w') : OwnRuns base w' v l :=
  ⟨owned_keepN h.1 fun k _ hl => hb.block k hl, h.2⟩
theorem OwnRuns.m {base : Nat} {w : World} {v : Value} {l : List Run} (h : OwnRuns base w v l) : ∃ A cap, v = .slice A l.length cap ∧ RunsM w w.heap.size (.slice A l.length cap) l := by
  rcases owned_formN h.1 with ⟨rfl, h0, _⟩ | ⟨g, cap, cur, rfl, hg, hc, hcs, hb, hsz, ht, hlt⟩
  · exact ⟨none, 0, by rw [h0], none, 0, rfl, by omega, fun _ => rfl, (fun h => by omega), h.2⟩
  · refine ⟨_, cap, rfl, _, cap, rfl, hc, (fun h => by cases h), fun _ => ⟨g, 0, rfl, hlt, fun j r hj => ?_⟩, h.2⟩
    have hj2 := (List.getElem?_eq_some_iff.1 hj).1
    have h2 := runCells_at l j r hj
    rw [← ht, List.getElem?_take_of_lt (by omega), List.getElem?_take_of_lt (by omega)] at h2
    rw [Nat.zero_add, hb.cell, hb.cell, ← Array.getElem?_toList, ← Array.getElem?_toList]
    exact h2
/-- more runs behind a row of one's own -/
theorem OwnRuns.app {base : Nat} {w wm : World} {v : Value} {l news : List Run} (h : OwnRuns base w v l) (hbase : base ≤ w.heap.size) (hw : Below w.heap.size w wm) (hm : 0 < news.length) (hl : l.length + news.length ≤ 100000) (g off : Nat) (hc : ∀ j r, news[j]? = some r → wm.cell? ⟨g, off + j * 2, none⟩ = some (.int .i64 r.1) ∧ wm.cell? ⟨g, off + j * 2 + 1, none⟩ = some (.int .i64 r.2)) (hn : ∀ r ∈ news, r64 r) (c : Nat) :
    ∃ v' w', (Builtin.append_ #[73, 73] 73 #[v, .slice (some ⟨g, off, none⟩) news.length c]).run Try.prog wm = .ok v' w' ∧ OwnRuns base w' v' (l ++ news) ∧ wm.grownBy w' v.ownBlock ∧ Below base w w' := by
  obtain ⟨i, hi, hz⟩ := Option.map_eq_some_iff.1 info_run
  injection hz with hz0 hz
  injection hz with hz1 hz2
  have hr := h.below hw
  have hs := hw.size
  have hcells : ∀ j u, (runCells news)[j]? = some u → wm.cell? ((⟨g, off, none⟩ : Addr).add j) = some u := by
    intro j u hu
    rw [Addr.add_mid]
    have hj : j < news.length * 2 := by
      have := (List.getElem?_eq_some_iff.1 hu).1
      rwa [runCells_len] at this
    have hq : news[j / 2]? = some news[j / 2] := List.getElem?_eq_getElem (by omega)
    have h1 := hc _ _ hq
    have h2 := runCells_at news _ _ hq
    rcases Nat.mod_two_eq_zero_or_one j with hz | hz
    · rw [show j = j / 2 * 2 by omega] at hu ⊢
      rw [h2.1] at hu
      rw [h1.1, hu]
    · rw [show j = j / 2 * 2 + 1 by omega] at hu ⊢
      rw [h2.2] at hu
      rw [← Nat.add_assoc, h1.2, hu]
  obtain ⟨v', w', h1, h2, h3, h4⟩ := run_appG (P := Try.prog) (w := wm) base 73 73 88 i _ 2 16 Try.underlying73 hi hz0 hz1 hz2 rfl (by omega) v l.length (runCells l) hr.1 ⟨g, off, none⟩ news.length c (runCells news) (runCells_len _) hcells (runCells_one news) hm (by simp only [maxLen]; omega) (by omega) (by omega)
  refine ⟨v', w', h1, ⟨by rw [List.length_append, runCells_app]; exact h2, fun p hp => ?_⟩, h3, (Below.mono hw hbase).grown h3 (by omega) fun k hk => (owned_ltN hr.1 hk).1⟩
  rcases List.mem_append.1 hp with hp | hp
  · exact h.2 p hp
  · exact hn p hp
/-- which sectors a run has -/
def posR (r : Run) : List Nat := (List.range r.2.toNat).map (r.1.toNat + ·)
def pos (l : List Run) : List Nat := l.flatMap posR
def okRun (d : Int) (r : Run) : Prop := 0 ≤ r.1 ∧ r.1 < d ∧ 1 ≤ r.2 ∧ r.2 ≤ d - r.1
instance (d : Int) (r : Run) : Decidable (okRun d r) := by unfold okRun; exact inferInstance
def apartP (l a d : Int) (rs : List Run) : Prop := rightP l a d ∧ (∀ r ∈ rs, okRun d r) ∧ (pos rs).Nodup
instance (l a d : Int) (rs : List Run) : Decidable (apartP l a d rs) := by unfold apartP; exact inferInstance
theorem posR_lt {d : Int} {r : Run} (h : okRun d r) : ∀ x ∈ posR r, (x : Int) < d := by
  intro x hx
  obtain ⟨k, hk, rfl⟩ := List.mem_map.1 hx
  have := List.mem_range.1 hk
  obtain ⟨h1, h2, h3, h4⟩ := h
  omega
theorem pos_lt {d : Int} {rs : List Run} (h : ∀ r ∈ rs, okRun d r) : ∀ x ∈ pos rs, (x : Int) < d := by
  intro x hx
  obtain ⟨r, hr, hx⟩ := List.mem_flatMap.1 hx
  exact posR_lt (h r hr) x hx
theorem nodup_short : ∀ {n : Nat} {l : List Nat}, l.Nodup → (∀ x ∈ l, x < n) → l.length ≤ n
  | 0, l, _, hl => by
    cases l with
    | nil => exact Nat.le_refl _
    | cons a l => exact absurd (hl a (by simp)) (by omega)
  | n + 1, l, h, hl => by
    have h1 : (l.erase n).length ≤ n := nodup_short (h.erase n) fun x hx => by
      have h2 := (List.Nodup.mem_erase_iff h).1 hx
      have := hl x h2.2
      have := h2.1
      omega
    have h3 := List.length_erase (a := n) (l := l)
    split at h3 <;> omega
theorem pos_len_le (rs : List Run) (h : ∀ r ∈ rs, 1 ≤ r.2) : rs.length ≤ (pos rs).length := by
  induction rs with
  | nil => exact Nat.le_refl _
  | cons r rs ih =>
    show rs.length + 1 ≤ (posR r ++ pos rs).length
    rw [List.length_append]
    have h1 := h r (by simp)
    have h2 := ih fun r hr => h r (by simp [hr])
    have h3 : (posR r).length = r.2.toNat := by simp [posR]
    omega
end Go.Proofs.Ytfppddnfdinipaa
end
section
namespace Go.Proofs.Ytfppddnfdinipaa
open Go Go.RowKit
set_option maxRecDepth 100000
def mapObj : Option Nat → Obj
  | none => .map #[] 0
  | some x => .map #[⟨.int .i64 0, .int .u64 (x : Int), 0⟩] 1
theorem look0 {w : World} {b : Nat} {m : Option Nat} (h : w.heap[b]? = some (mapObj m)) : (Instr.lookup 153 (.map (some b)) (.int .i64 0) false).run Try.prog w = .ok (.int .u64 ((m.getD 0 : Nat) : Int)) w := by
  have hu := Try.underlying153
  cases m with
  | none =>
    have hg : (getObj b).run Try.prog w = .ok (.map #[] 0) w := by
      simp [getObj, Sem.run, show w.heap[b]? = some (.map #[] 0) from h]
    have hc : (Instr.checkKey true 10000 3 (.int .i64 0)).run Try.prog w = .ok () w := by kernel_rfl
    have hf : (Instr.findKey 3 (.int .i64 0) []).run Try.prog w = .ok none w := by kernel_rfl
    have hz : (zeroValue 163).run Try.prog w = .ok (.int .u64 0) w := by kernel_rfl
    unfold Instr.lookup
    go_simp
  | some x =>
    have hg : (getObj b).run Try.prog w = .ok (.map #[⟨.int .i64 0, .int .u64 (x : Int), 0⟩] 1) w := by
      simp [getObj, Sem.run, show w.heap[b]? = some (.map #[⟨.int .i64 0, .int .u64 (x : Int), 0⟩] 1) from h]
    have hc : (Instr.checkKey false 10000 3 (.int .i64 0)).run Try.prog w = .ok () w := by kernel_rfl
    have hf : (Instr.findKey 3 (.int .i64 0) [⟨.int .i64 0, .int .u64 (x : Int), 0⟩]).run Try.prog w = .ok (some (0, .int .u64 (x : Int))) w := by kernel_rfl
    unfold Instr.lookup
    go_simp
theorem upd0 {w : World} {b : Nat} {m : Option Nat} (h : w.heap[b]? = some (mapObj m)) (y : Nat) : (Instr.mapUpdate 153 (.map (some b)) (.int .i64 0) (.int .u64 (y : Int))).run Try.prog w = .ok () (w.putObj b (mapObj (some y))) := by
  have hu := Try.underlying153
  have hc : (Instr.checkKey false 10000 3 (.int .i64 0)).run Try.prog w = .ok () w := by kernel_rfl
  cases m with
  | none =>
    have hg : (getObj b).run Try.prog w = .ok (.map #[] 0) w := by
      simp [getObj, Sem.run, show w.heap[b]? = some (.map #[] 0) from h]
    have hf : (Instr.findKey 3 (.int .i64 0) []).run Try.prog w = .ok none w := by kernel_rfl
    have hs : (setObj b (.map #[⟨.int .i64 0, .int .u64 (y : Int), 0⟩] 1)).run Try.prog w = .ok () (w.putObj b (mapObj (some y))) := by
      simp [setObj, Sem.run, show w.heap[b]? = some (.map #[] 0) from h, World.putObj]
      rfl
    unfold Instr.mapUpdate
    go_simp
  | some x =>
    have hg : (getObj b).run Try.prog w = .ok (.map #[⟨.int .i64 0, .int .u64 (x : Int), 0⟩] 1) w := by
      simp [getObj, Sem.run, show w.heap[b]? = some (.map #[⟨.int .i64 0, .int .u64 (x : Int), 0⟩] 1) from h]
    have hf : (Instr.findKey 3 (.int .i64 0) [⟨.int .i64 0, .int .u64 (x : Int), 0⟩]).run Try.prog w = .ok (some (0, .int .u64 (x : Int))) w := by kernel_rfl
    have hk : (Instr.keyThatStays (.int .i64 0) (.int .i64 0)).run Try.prog w = .ok (.int .i64 0) w := by kernel_rfl
    have hs : (setObj b (.map #[⟨.int .i64 0, .int .u64 (y : Int), 0⟩] 1)).run Try.prog w = .ok () (w.putObj b (mapObj (some y))) := by
      simp [setObj, Sem.run, show w.heap[b]? = some (.map #[⟨.int .i64 0, .int .u64 (x : Int), 0⟩] 1) from h, World.putObj]
      rfl
    unfold Instr.mapUpdate
    go_simp
/-- a field of sectors that are held: m: the map's only word, if it has one -/
structure FieldAt (w : World) (g b : Nat) (many held : Nat) (m : Option Nat) : Prop where
  blk : Blk w g 155 #[.map (some b), .int .i64 (many : Int), .int .i64 (held : Int)]
  map : w.heap[b]? = some (mapObj m)
theorem bits_and63 (a : Nat) (h : a < 64) : bits .and .i64 (a : Int) 63 = (a : Int) := by
  have key : ∀ a : Fin 64, bits .and .i64 ((a : Nat) : Int) 63 = ((a : Nat) : Int) := by decide +kernel
  exact key ⟨a, h⟩
theorem natu (X : Nat) (h : X < 18446744073709551616) : (BitVec.ofInt 64 (X : Int)).toNat = X := by
  rw [BitVec.toNat_ofInt, show ((2 ^ 64 : Nat) : Int) = 18446744073709551616 by decide]
  omega
theorem bits_and_u64 (X Y : Nat) (hX : X < 18446744073709551616) (hY : Y < 18446744073709551616) : bits .and .u64 (X : Int) (Y : Int) = ((X &&& Y : Nat) : Int) := by
  show IntKind.u64.wrap ((BitVec.ofInt 64 (X : Int) &&& BitVec.ofInt 64 (Y : Int)).toNat : Int) = _
  rw [BitVec.toNat_and, natu X hX, natu Y hY]
  have h : X &&& Y < 18446744073709551616 := Nat.lt_of_le_of_lt Nat.and_le_left hX
  generalize X &&& Y = t at h
  simp [IntKind.wrap, IntKind.signed, IntKind.bits]
  omega
theorem bits_or_u64 (X Y : Nat) (hX : X < 18446744073709551616) (hY : Y < 18446744073709551616) : bits .or .u64 (X : Int) (Y : Int) = ((X ||| Y : Nat) : Int) := by
  show IntKind.u64.wrap ((BitVec.ofInt 64 (X : Int) ||| BitVec.ofInt 64 (Y : Int)).toNat : Int) = _
  rw [BitVec.toNat_or, natu X hX, natu Y hY]
  have h : X ||| Y < 18446744073709551616 := Nat.or_lt_two_pow (n := 64) hX hY
  generalize X ||| Y = t at h
  simp [IntKind.wrap, IntKind.signed, IntKind.bits]
  omega
theorem has_law (x a : Nat) (hx : x < 18446744073709551616) : (bits .and .u64 ((x : Int) / 2 ^ a) 1 == 1) = x.testBit a := by
  have e : (x : Int) / 2 ^ a = ((x / 2 ^ a : Nat) : Int) := by
    rw [Int.natCast_ediv]
    simp
  have h := bits_and_u64 (x / 2 ^ a) 1 (Nat.lt_of_le_of_lt (Nat.div_le_self _ _) hx) (by omega)
  have h' : bits .and .u64 ((x : Int) / 2 ^ a) 1 = ((x / 2 ^ a &&& 1 : Nat) : Int) := by rw [e]; exact h
  rw [h', Nat.and_one_is_mod, Nat.testBit_eq_decide_div_mod_eq, Bool.eq_iff_iff, beq_iff_eq, decide_eq_true_iff]
  omega
theorem fhas_any (a : Nat) (ha : a < 64) {g b many held : Nat} {m : Option Nat} (w : World) (h : FieldAt w g b many held m) (hm : m.getD 0 < 18446744073709551616) :
    Calls Try.prog 63 #[.pointer (some ⟨g, 0, none⟩), .int .i64 (a : Int)] w fun e w' => e = .returned (.bool ((m.getD 0).testBit a)) ∧ w' = w := by
  have c0 := h.blk.cell 0
  have hl := look0 h.map
  have hlt := h.blk.lt
  have hd : (a : Int) / 64 = 0 := by omega
  have h63 := bits_and63 a ha
  have n1 : (0 : Int) ≤ (a : Int) := by omega
  have n2 : (a : Int) < 64 := by omega
  obtain ⟨x, hx⟩ : ∃ x, x = m.getD 0 := ⟨_, rfl⟩
  rw [← hx] at hl hm ⊢
  clear h hx
  go_enter Try.func63, Try.ntmps63
  go_wp2_with fail
  rw [has_law x a hm]
  go_ret
  exact ⟨rfl, rfl⟩
/-- two blocks at most are turned, and new ones made -/
def setBit (x a : Nat) : Nat := x ||| 2 ^ a
theorem or_law (x a : Nat) (hx : x < 18446744073709551616) (ha : a < 64) : bits .or .u64 (x : Int) (IntKind.u64.wrap (2 ^ a)) = ((setBit x a : Nat) : Int) := by
  have hp : 2 ^ a < 18446744073709551616 := by
    have : 2 ^ a < 2 ^ 64 := Nat.pow_lt_pow_right (by omega) ha
    exact this
  have e : IntKind.u64.wrap ((2 : Int) ^ a) = ((2 ^ a : Nat) : Int) := by
    rw [show ((2 : Int) ^ a) = ((2 ^ a : Nat) : Int) by simp]
    generalize 2 ^ a = t at hp
    simp [IntKind.wrap, IntKind.signed, IntKind.bits]
    omega
  rw [e, bits_or_u64 x (2 ^ a) hx hp]
  rfl
theorem setBit_lt (x a : Nat) (hx : x < 18446744073709551616) (ha : a < 64) : setBit x a < 18446744073709551616 := Nat.or_lt_two_pow (n := 64) hx (Nat.pow_lt_pow_right (by omega) ha)
theorem wpList_upd0 {ops : Array Oper} {rest : List Oper} {o : Oper} {a : Act} {Q : Exit → Act → World → Prop} {w : World} (hg : o.guard = none) (m x v : Operand) (hop : o.op = Op.mapUpdate 153 m x v) (b : Nat) (mm : Option Nat) (h : w.heap[b]? = some (mapObj mm)) (y : Nat)
    (hm : a.eval m = .map (some b)) (hx : a.eval x = .int .i64 0) (hv : a.eval v = .int .u64 (y : Int)) (hK : wpList Try.prog ops Q rest (a.put o.dst undef) (w.putObj b (mapObj (some y)))) : wpList Try.prog ops Q (o :: rest) a w := by
  refine wpList_plain hg fun K' hK' => ?_
  have hrun := upd0 h y
  unfold Oper.wp
  simp [execOp, hop, hm, hx, hv, hrun, Result.andThen]
  exact hK' _ _ hK
theorem FieldAt.ne {w : World} {g b many held : Nat} {m : Option Nat} (h : FieldAt w g b many held m) : g ≠ b := by
  rintro rfl
  have h1 : w.heap[g]? = some (.cells #[.map (some g), .int .i64 (many : Int), .int .i64 (held : Int)] 155 (0, 0)) := h.blk
  rw [h.map] at h1
  cases m <;> cases h1
theorem hold_yes (a : Nat) (ha : a < 64) {g b many held : Nat} {m : Option Nat} (w : World) (h : FieldAt w g b many held m) (hm : m.getD 0 < 18446744073709551616) (hh : held < 1000000) (ht : (m.getD 0).testBit a = false) :
    Calls Try.prog 121 #[.pointer (some ⟨g, 0, none⟩), .int .i64 (a : Int)] w fun e w' => e = .returned (.bool true) ∧ FieldAt w' g b many (held + 1) (some (setBit (m.getD 0) a)) ∧ w'.heap.size = w.heap.size ∧ (∀ k, k ≠ g → k ≠ b → w'.heap[k]? = w.heap[k]?) ∧ Below 0 w w' := by
  have HF := hide (And.intro h hm)
  have c0 := h.blk.cell 0
  have c2 := h.blk.cell 2
  have hl2 : ∀ n, (Instr.lookup 153 (.map (some b)) (.int .i64 0) false).run Try.prog (w.drewN n) = .ok (.int .u64 ((m.getD 0 : Nat) : Int)) (w.drewN n) := fun n => look0 (w := w.drewN n) h.map
  have hlt := h.blk.lt
  have hd : (a : Int) / 64 = 0 := by omega
  have h63 := bits_and63 a ha
  have n1 : (0 : Int) ≤ (a : Int) := by omega
  have n2 : (a : Int) < 64 := by omega
  clear h hm
  go_enter Try.func121, Try.ntmps121
  go_wp2_with fail
  refine (fhas_any a ha w HF.out.1 HF.out.2).mono ?_
  rintro e w' ⟨rfl, rfl⟩
  rw [ht]
  dsimp only
  go_wp2_with fail
  refine wp_quiet_tail_drewN 11 (by kernel_rfl) (by kernel_rfl) ?_
  simp only [List.take_succ_cons, List.take_zero, List.drop_succ_cons, List.drop_zero]
  repeat (go_big_quiet_step (fail))
  refine wpQuiet_nil ?_
  intro nq
  rw [or_law _ a HF.out.2 ha]
  refine wpList_upd0 (o := ⟨none, _, _, _, _, _⟩) rfl _ _ _ rfl b m (show (w'.drewN nq).heap[b]? = _ from HF.out.1.map) (setBit (m.getD 0) a) rfl rfl rfl ?_
  obtain ⟨w1, hw1⟩ : ∃ w1, w1 = (w'.drewN nq).putObj b (mapObj (some (setBit (m.getD 0) a))) := ⟨_, rfl⟩
  have hne := HF.out.1.ne
  have hb1 : Blk w1 g 155 #[.map (some b), .int .i64 (many : Int), .int .i64 (held : Int)] := by
    rw [hw1]
    exact (World.putObj_heap_other hne).trans HF.out.1.blk
  have hlb : b < w'.heap.size := (Array.getElem?_eq_some_iff.1 HF.out.1.map).1
  have hm1 : w1.heap[b]? = some (mapObj (some (setBit (m.getD 0) a))) := by
    rw [hw1]
    exact World.putObj_heap_same hlb
  have hs1 : w1.heap.size = w'.heap.size := by rw [hw1, World.putObj_size]; rfl
  have ho1 : ∀ k, k ≠ b → w1.heap[k]? = w'.heap[k]? := fun k hk => by rw [hw1]; exact World.putObj_heap_other hk
  have hbel : Below 0 w' w1 := by
    refine ⟨?_, ?_, ?_, by omega, fun k hk => absurd hk (by omega)⟩ <;> rw [hw1] <;> rfl
  rw [← hw1]
  have H1 := hide (And.intro hb1 (And.intro hm1 (And.intro hs1 (And.intro ho1 hbel))))
  have c2 := hb1.cell 2
  have f2 := hb1.frozen 2
  have hlt1 := hb1.lt
  have n3 : (held : Int) < 1000000 := by omega
  clear hw1 hb1 hm1 hs1 ho1 c0 hl2 hlb hbel
  simp only [Act.put]
  go_wp2_with fail
  go_ret
  obtain ⟨hb1, hm1, hs1, ho1, hbel⟩ := H1.out
  have hset := hb1.set_ 2 (.int .i64 ((held : Int) + 1))
  have hsz : (w1.setCell ⟨g, 2, none⟩ (.int .i64 ((held : Int) + 1))).heap.size = w1.heap.size := by simp
  refine ⟨rfl, ⟨?_, (Below.heap_setCell w1 ⟨g, 2, none⟩ _ b (fun e => hne e.symm)).trans hm1⟩, hsz.trans hs1, (fun k hk hk2 => (Below.heap_setCell w1 ⟨g, 2, none⟩ _ k hk).trans (ho1 k hk2)), hbel.setCell (by omega) _⟩
  rw [show ((held + 1 : Nat) : Int) = (held : Int) + 1 by omega]
  exact hset
theorem hold_no (a : Nat) (ha : a < 64) {g b many held : Nat} {m : Option Nat} (w : World) (h : FieldAt w g b many held m) (hm : m.getD 0 < 18446744073709551616) (ht : (m.getD 0).testBit a = true) :
    Calls Try.prog 121 #[.pointer (some ⟨g, 0, none⟩), .int .i64 (a : Int)] w fun e w' => e = .returned (.bool false) ∧ w' = w := by
  go_enter Try.func121, Try.ntmps121
  go_wp2_with fail
  refine (fhas_any a ha w h hm).mono ?_
  rintro e w' ⟨rfl, rfl⟩
  rw [ht]
  dsimp only
  go_wp2_with fail
  go_ret
  exact ⟨rfl, rfl⟩
/-- a set of sectors, as the word's bits -/
def Bits (x : Nat) (l : List Nat) : Prop := x < 18446744073709551616 ∧ ∀ a, a < 64 → x.testBit a = l.contains a
theorem Bits.nil : Bits 0 [] := ⟨by omega, fun a _ => by simp⟩
theorem Bits.add {x a : Nat} {l : List Nat} (h : Bits x l) (ha : a < 64) : Bits (setBit x a) (l ++ [a]) := by
  refine ⟨setBit_lt x a h.1 ha, fun k hk => ?_⟩
  unfold setBit
  rw [Nat.testBit_or, h.2 k hk, Nat.testBit_two_pow, Bool.eq_iff_iff]
  simp only [Bool.or_eq_true, List.contains_iff_mem, decide_eq_true_iff, List.mem_append, List.mem_singleton]
  constructor
  · rintro (h | h)
    · exact .inl h
    · exact .inr h.symm
  · rintro (h | h)
    · exact .inl h
    · exact .inr h.symm
end Go.Proofs.Ytfppddnfdinipaa
end
section
namespace Go.Proofs.Ytfppddnfdinipaa
open Go Go.RowKit Go.Shelf
attribute [local go_sem] Oper.semAt_some
/-- what a round leaves alone: what lay ahead, but for S; what the iterator has made -/
structure KeepsI (S : Nat → Prop) (n₀ : Nat) (W W' : World) : Prop where
  size : W.heap.size ≤ W'.heap.size
  old : ∀ k o, k < n₀ → ¬ S k → W.heap[k]? = some o → o.isCells = true → W'.heap[k]? = some o
  run : ∀ k cs fr, n₀ ≤ k → W.heap[k]? = some (.cells cs 88 fr) → W'.heap[k]? = some (.cells cs 88 fr)
variable {S : Nat → Prop} {n₀ : Nat}
theorem KeepsI.refl (W : World) : KeepsI S n₀ W W := ⟨Nat.le_refl _, fun _ _ _ _ h _ => h, fun _ _ _ _ h => h⟩
theorem KeepsI.trans {A B C : World} (h : KeepsI S n₀ A B) (k : KeepsI S n₀ B C) : KeepsI S n₀ A C :=
  ⟨Nat.le_trans h.size k.size, fun i o h1 h2 h3 h4 => k.old i o h1 h2 (h.old i o h1 h2 h3 h4) h4, fun i cs fr h1 h2 => k.run i cs fr h1 (h.run i cs fr h1 h2)⟩
theorem KeepsI.alloc (W : World) (o : Obj) : KeepsI S n₀ W (W.alloc o) :=
  ⟨by simp, fun k _ _ _ h _ => (Below.heap_alloc W o k (Array.getElem?_eq_some_iff.1 h).1).trans h, fun k _ _ _ h => (Below.heap_alloc W o k (Array.getElem?_eq_some_iff.1 h).1).trans h⟩
theorem KeepsI.below {W W' : World} (h : Below W.heap.size W W') : KeepsI S n₀ W W' :=
  ⟨h.size, fun k _ _ _ hk _ => (h.block k (Array.getElem?_eq_some_iff.1 hk).1).trans hk, fun k _ _ _ hk => (h.block k (Array.getElem?_eq_some_iff.1 hk).1).trans hk⟩
theorem KeepsI.putObj {w : World} (hn : n₀ ≤ w.heap.size) (W : World) (l : Nat) (o o' : Obj) (hl : w.heap.size ≤ l) (h : W.heap[l]? = some o) (hc : o.isCells = false) (_ : o.isWalk = false) : KeepsI S n₀ W (W.putObj l o') :=
  ⟨by simp, fun k _ h1 _ hk _ => (World.putObj_heap_other (by omega)).trans hk, fun k cs fr _ hk => (World.putObj_heap_other (fun e => by
    subst e
    rw [h] at hk
    injection hk with hk
    subst hk
    cases hc)).trans hk⟩
theorem KeepsI.cell {W W' : World} (h : KeepsI S n₀ W W') {b i : Nat} {v : Value} (hb : b < n₀) (hs : ¬ S b) (hc : W.cell? ⟨b, i, none⟩ = some v) : W'.cell? ⟨b, i, none⟩ = some v := by
  have hlt := World.block_lt_of_cell? W _ hc
  have ho : W.heap[b]? = some W.heap[b] := Array.getElem?_eq_getElem hlt
  have h2 : W'.heap[b]? = W.heap[b]? := by
    rw [ho]
    refine h.old b _ hb hs ho ?_
    cases hob : W.heap[b] with
    | cells => rfl
    | _ => (rw [World.cell?] at hc; simp only [ho, hob] at hc; cases hc)
  exact (World.cell?_of_block h2).trans hc
theorem KeepsI.blk {W W' : World} (h : KeepsI S n₀ W W') {g : Nat} {cs : Array Value} (hg : n₀ ≤ g) (hb : Blk W g 88 cs) : Blk W' g 88 cs := h.run g cs (0, 0) hg hb
theorem pos_at : ∀ (rs : List Run) (i : Nat) (r : Run) (k : Nat), rs[i]? = some r → k < r.2.toNat → (pos rs)[(pos (rs.take i)).length + k]? = some (r.1.toNat + k)
  | [], i, r, k, h, _ => by simp at h
  | q :: rs, 0, r, k, h, hk => by
    simp only [List.getElem?_cons_zero, Option.some.injEq] at h
    subst h
    show (posR q ++ pos rs)[0 + k]? = _
    rw [Nat.zero_add, List.getElem?_append_left (by simpa [posR] using hk)]
    simp [posR, hk]
  | q :: rs, i + 1, r, k, h, hk => by
    show (posR q ++ pos rs)[(posR q ++ pos (rs.take i)).length + k]? = _
    rw [List.length_append, List.getElem?_append_right (by omega), show (posR q).length + (pos (rs.take i)).length + k - (posR q).length = (pos (rs.take i)).length + k by omega]
    exact pos_at rs i r k (by simpa using h) hk
theorem pos_take (rs : List Run) (i : Nat) (r : Run) (h : rs[i]? = some r) : (pos (rs.take (i + 1))).length = (pos (rs.take i)).length + r.2.toNat := by
  obtain ⟨hi, he⟩ := List.getElem?_eq_some_iff.1 h
  rw [List.take_succ_eq_append_getElem hi, he]
  simp [pos, posR]
theorem pos_take_le (rs : List Run) (i : Nat) : (pos (rs.take i)).length ≤ (pos rs).length := by
  have : pos rs = pos (rs.take i) ++ pos (rs.drop i) := by
    unfold pos
    rw [← List.flatMap_append, List.take_append_drop]
  rw [this, List.length_append]
  omega
def posE (rs : List Run) (x : Nat) : Array Value := #[.int .i64 (((pos rs).getD x 0 : Nat) : Int)]
set_option maxRecDepth 100000 in
set_option maxHeartbeats 2000000 in
theorem each1_in (F : Fence) (n : Nat) (h1 : F.fn 122) (hro : F.round = none) (hn : 1 ≤ n) (l Bd cp : Nat) (A : Option Addr) (rs : List Run) (hlen : rs.length ≤ 1000000) (hd : ∀ r ∈ rs, 0 ≤ r.1 ∧ 0 ≤ r.2 ∧ r.1 + r.2 ≤ 1000000) (J Jx : List Nat → World → Prop)
    (hJ : ∀ s W o, J s W → n₀ ≤ W.heap.size → J s (W.alloc o))
    (hY : ∀ pre x W, J pre W → pre.length < (pos rs).length → YieldAt F (n - 1) Try.prog l (posE rs x) W fun e W' =>
      (e = .returned (.bool true) ∧ J (pre ++ [x]) W' ∧ KeepsI S n₀ W W') ∨ (e = .returned (.bool false) ∧ Jx (pre ++ [x]) W'))
    (W : World) (hW : n₀ ≤ W.heap.size) (hb : W.cell? ⟨Bd, 0, none⟩ = some (.slice A rs.length cp)) (hr : 0 < rs.length → ∃ b off, A = some ⟨b, off, none⟩ ∧ b < n₀ ∧ ¬ S b ∧ ∀ j r, rs[j]? = some r → W.cell? ⟨b, off + j * 2, none⟩ = some (.int .i64 r.1) ∧ W.cell? ⟨b, off + j * 2 + 1, none⟩ = some (.int .i64 r.2)) (h0 : J [] W) :
    CallsIn F n Try.prog 122 #[.func (.yield l) #[] #[], .pointer (some ⟨Bd, 0, none⟩)] W fun e W' => (∃ v, e = .returned v) ∧
      ((∃ ys, ys = List.range (pos rs).length ∧ J ys W') ∨ (∃ pre, (∃ k, k < (pos rs).length ∧ pre = List.range (k + 1)) ∧ Jx pre W')) := by
  have HR := hide hr
  have HY := hide hY
  have HD := hide hd
  have HJ := hide hJ
  clear hr hY hd hJ
  refine callsIn_of_wp Try.func122 rfl h1 ?_ hro
  simp only [Try.ntmps122, List.size_toArray, List.length_cons, List.length_nil, Nat.reduceAdd, Nat.reduceSub, Array.replicate_succ, Array.replicate_zero, List.push_toArray, List.append_toArray, List.nil_append, List.cons_append]
  gi_wp2
  gi_loopw [8] (fun i wr => ∃ k : Nat, k ≤ rs.length ∧ i = .int .i64 (k : Int) ∧ J (List.range (pos (rs.take k)).length) wr ∧ KeepsI S n₀ W wr)
    (fun i _ => rs.length - (intOf i).toNat)
  case atStart => exact ⟨0, by omega, rfl, h0, KeepsI.refl _⟩
  case round =>
    obtain ⟨k, hk, rfl, hJs, hnx⟩ := hrel
    have HJs := hide hJs
    have HN := hide hnx
    clear hJs hnx
    by_cases hk2 : k < rs.length
    · obtain ⟨r, hrk⟩ : ∃ r, rs[k]? = some r := ⟨_, List.getElem?_eq_getElem hk2⟩
      obtain ⟨b, off, hA, hbn, hSb, hcs⟩ := HR.out (by omega)
      subst hA
      have c1 := HN.out.cell hbn hSb (hcs k r hrk).1
      have c2 := HN.out.cell hbn hSb (hcs k r hrk).2
      have n1 : (k : Int) < (rs.length : Int) := by omega
      have n2 : (0 : Int) ≤ (k : Int) := by omega
      have hpt := pos_take rs k r hrk
      have hrl := HD.out r (List.mem_of_getElem? hrk)
      obtain ⟨d1, d2, d3⟩ := hrl
      obtain ⟨q, hq⟩ : ∃ q, q = (pos (rs.take k)).length := ⟨_, rfl⟩
      have hJ0 := HJs.out
      rw [← hq] at hpt hJ0
      have HQ := hide (And.intro hpt (And.intro hq hrk))
      clear hpt hq hrk HJs hcs
      gi_wp2
      have hwn : n₀ ≤ wr.heap.size := Nat.le_trans hW HN.out.size
      have hJ1 := HJ.out _ wr (.cells #[.int .i64 r.1, .int .i64 r.2] 88) hJ0 hwn
      have hK1 := HN.out.trans (KeepsI.alloc wr (.cells #[.int .i64 r.1, .int .i64 r.2] 88))
      have hb1 := Blk.new wr 88 #[.int .i64 r.1, .int .i64 r.2]
      generalize wr.alloc (.cells #[.int .i64 r.1, .int .i64 r.2] 88) = w1 at hJ1 hK1 hb1 ⊢
      generalize wr.heap.size = g1 at hwn hb1 ⊢
      have H1 := hide (And.intro hJ1 (And.intro hK1 (And.intro hb1 hwn)))
      clear hJ0 hJ1 hK1 hb1 hwn HN c1 c2
      gi_loopw [5] (fun v w2 => ∃ j : Nat, j ≤ r.2.toNat ∧ v = .int .i64 (r.1 + (j : Int)) ∧ J (List.range (q + j)) w2 ∧ KeepsI S n₀ w1 w2) (fun v _ => r.2.toNat - (intOf v - r.1).toNat)
      case atStart => exact ⟨0, by omega, by simp, H1.out.1, KeepsI.refl _⟩
      case round =>
        obtain ⟨j, hj, rfl, hJs, hnx⟩ := hrel
        have hb2 := hnx.blk H1.out.2.2.2 H1.out.2.2.1
        have c1 := hb2.cell 0
        have c2 := hb2.cell 1
        have hlt2 := hb2.lt
        have HJs := hide hJs
        have HN := hide hnx
        clear hJs hnx hb2
        by_cases hj2 : j < r.2.toNat
        · have n3 : r.1 + (j : Int) < r.1 + r.2 := by omega
          have hle := pos_take_le rs (k + 1)
          have hpe : posE rs (q + j) = #[.int .i64 (r.1 + (j : Int))] := by
            unfold posE
            have h := pos_at rs k r j HQ.out.2.2 hj2
            rw [← HQ.out.2.1] at h
            rw [List.getD, h]
            show #[Value.int .i64 ((r.1.toNat + j : Nat) : Int)] = _
            rw [show ((r.1.toNat + j : Nat) : Int) = r.1 + (j : Int) by omega]
          obtain ⟨fn, tmps, assign, body, hy, hR⟩ := HY.out (List.range (q + j)) (q + j) wr HJs.out (by rw [List.length_range]; have := HQ.out.1; omega)
          rw [hpe] at hy
          gi_wp2
          refine hR.mono ?_
          rintro e W3 (⟨rfl, hJ3, hk3⟩ | ⟨rfl, hJx3⟩)
          · have H3 := hide (And.intro hJ3 hk3)
            clear hJ3 hk3
            gi_wp2
            exact ⟨⟨j + 1, by omega, by go_num, by rw [← Nat.add_assoc, List.range_succ]; exact H3.out.1, HN.out.trans H3.out.2⟩, by simp [intOf]; omega⟩
          · have H3 := hide hJx3
            clear hJx3
            gi_wp2
            refine bodyPost_ret (results_none rfl _ _ _) rfl ?_
            exact ⟨⟨_, rfl⟩, .inr ⟨_, ⟨q + j, by have := HQ.out.1; omega, (List.range_succ).symm⟩, H3.out⟩⟩
        · have n3 : ¬ (r.1 + (j : Int) < r.1 + r.2) := by omega
          obtain rfl : j = r.2.toNat := by omega
          gi_wp2
          refine ⟨⟨k + 1, by omega, by go_num, ?_, H1.out.2.1.trans HN.out⟩, by simp [intOf]; omega⟩
          rw [HQ.out.1]
          exact HJs.out
    · obtain rfl : k = rs.length := by omega
      have hJs := HJs.out
      rw [List.take_length] at hJs
      have HJ2 := hide hJs
      clear hJs
      gi_wp2
      go_end0
      exact ⟨⟨_, rfl⟩, .inl ⟨_, rfl, HJ2.out⟩⟩
theorem each_any (A : Option Addr) (n cp : Nat) (w : World) : Calls Try.prog 66 #[.slice A n cp] w fun e w' => e = .returned (.func (.func 122) #[] #[.pointer (some ⟨w.heap.size, 0, none⟩)]) ∧ w' = w.alloc (.cells #[.slice A n cp] 73) := by
  go_enter Try.func66, Try.ntmps66
  go_wp2
  go_ret
  exact ⟨rfl, rfl⟩
/-- the sectors of runs, as a loop is owed them -/
theorem each_stops (F : Fence) (n : Nat) (h1 : F.fn 122) (hro : F.round = none) (hn : 1 ≤ n) (Bd cp : Nat) (A : Option Addr) (rs : List Run) (hlen : rs.length ≤ 1000000) (hd : ∀ r ∈ rs, 0 ≤ r.1 ∧ 0 ≤ r.2 ∧ r.1 + r.2 ≤ 1000000) (w : World) (hw : n₀ ≤ w.heap.size) (hBd : Bd < w.heap.size)
    (hb : w.cell? ⟨Bd, 0, none⟩ = some (.slice A rs.length cp)) (hr : 0 < rs.length → ∃ b off, A = some ⟨b, off, none⟩ ∧ b < n₀ ∧ ¬ S b ∧ ∀ j r, rs[j]? = some r → w.cell? ⟨b, off + j * 2, none⟩ = some (.int .i64 r.1) ∧ w.cell? ⟨b, off + j * 2 + 1, none⟩ = some (.int .i64 r.2)) :
    SeqStopsK F n Try.prog 122 #[.pointer (some ⟨Bd, 0, none⟩)] (posE rs) (KeepsI S n₀) (fun ys => ys = List.range (pos rs).length) (fun pre => ∃ k, k < (pos rs).length ∧ pre = List.range (k + 1)) (pos rs).length w := fun l J Jx W hW hJ _ hY h0 =>
  each1_in F n h1 hro hn l Bd cp A rs hlen hd J Jx (fun s W1 o hs _ => hJ s W1 _ none hs (World.grownBy_alloc W1 o none) (fun r e => by cases e)) hY W (Nat.le_trans hw hW.size) ((hW.cell (p := ⟨Bd, 0, none⟩) hBd).trans hb) (fun h => by
    obtain ⟨b, off, e1, e2, e3, e4⟩ := hr h
    exact ⟨b, off, e1, e2, e3, fun j r hj => ⟨(hW.cell (p := ⟨b, off + j * 2, none⟩) (by show b < _; omega)).trans (e4 j r hj).1, (hW.cell (p := ⟨b, off + j * 2 + 1, none⟩) (by show b < _; omega)).trans (e4 j r hj).2⟩⟩) h0
end Go.Proofs.Ytfppddnfdinipaa
end
section
namespace Go.Proofs.Ytfppddnfdinipaa
open Go Go.RowKit Go.Shelf
attribute [local go_sem] Oper.semAt_some
theorem FieldAt.up {w w' : World} {g b many held : Nat} {m : Option Nat} (h : FieldAt w g b many held m) (hg : w'.heap[g]? = w.heap[g]?) (hb : w'.heap[b]? = w.heap[b]?) : FieldAt w' g b many held m := ⟨hg.trans h.blk, hb.trans h.map⟩
theorem FieldAt.lt {w : World} {g b many held : Nat} {m : Option Nat} (h : FieldAt w g b many held m) : g < w.heap.size ∧ b < w.heap.size := ⟨h.blk.lt, (Array.getElem?_eq_some_iff.1 h.map).1⟩
theorem FieldAt.below {w w' : World} {g b many held : Nat} {m : Option Nat} (h : FieldAt w g b many held m) (hb : Below w.heap.size w w') : FieldAt w' g b many held m := h.up (hb.block g h.lt.1) (hb.block b h.lt.2)
set_option maxRecDepth 100000
theorem made_not (l a d : Int) (h : ¬ rightP l a d) (v : Value) (w : World) : Calls Try.prog 62 #[.agg #[.int .i64 l, .int .i64 a, .int .i64 d], v] w fun e w' => e = .returned (.pointer none) ∧ Below w.heap.size w w' := by
  have hr := decide_eq_false h
  go_enter Try.func62, Try.ntmps62
  go_wp2_with fail
  refine (lright_any l a d _).mono ?_
  rintro e w' ⟨rfl, rfl⟩
  rw [hr]
  dsimp only
  go_wp2_with fail
  refine bodyPost_ret (v := .pointer none) (by simp [results, Try.f62, go_sem]) rfl ⟨rfl, ?_⟩
  exact (((Below.refl _ w).alloc (Nat.le_refl _) _).al _).al _
theorem u64_neg (x : Int) (h1 : -9223372036854775808 ≤ x) (h2 : x < 0) : IntKind.u64.wrap x = x + 18446744073709551616 := by
  simp [IntKind.wrap, IntKind.signed, IntKind.bits]
  omega
theorem u64_pos (x : Int) (h1 : 0 ≤ x) (h2 : x < 9223372036854775808) : IntKind.u64.wrap x = x := by
  simp [IntKind.wrap, IntKind.signed, IntKind.bits]
  omega
theorem made_fin {tmps : Array Value} {B : Nat} {W : World} {v : Value} {R : Ending → World → Prop} (h4 : tmps.getD 4 undef = .pointer (some ⟨B, 0, none⟩)) (hc : W.cell? ⟨B, 0, none⟩ = some v) (hR : R (.returned v) W) :
    bodyPostM Fence.wide 5 Try.prog Try.f62 R .ret { tmps := tmps, defers := [] } W := by
  have h4' : tmps[4]?.getD undef = .pointer (some ⟨B, 0, none⟩) := by simpa using h4
  exact ⟨v, by simp [results, Try.f62, go_sem, h4', hc], hR⟩
theorem made_finD {tmps : Array Value} {B D : Nat} {W : World} {v : Value} {R : Ending → World → Prop} (h4 : tmps.getD 4 undef = .pointer (some ⟨B, 0, none⟩)) (hc : W.cell? ⟨B, 0, none⟩ = some v) (hK : W.heap[D]? = some (.deferred (some []))) (hR : R (.returned v) (W.putObj D (.deferred none))) :
    bodyPostM Fence.wide 5 Try.prog Try.f62 R .ret { tmps := tmps, defers := [{ target := .collected D, args := #[] }] } W := by
  have h4' : tmps[4]?.getD undef = .pointer (some ⟨B, 0, none⟩) := by simpa using h4
  have hc' := cell_kept hc (grownBy_putObj' _ D (.deferred none)) (fun r e => by cases e; exact ⟨_, hK, rfl⟩)
  exact ⟨by simp, .inl ⟨_, _, rfl, run_takeDeferred hK, v, by simp [results, Try.f62, go_sem, h4', hc'], hR⟩⟩
/-- the sector that is told as the x'th -/
def secF (rs : List Run) (x : Nat) : Nat := (pos rs).getD x 0
theorem secF_range (rs : List Run) (k : Nat) (hk : k ≤ (pos rs).length) : (List.range k).map (secF rs) = (pos rs).take k := by
  apply List.ext_getElem
  · simp; omega
  · intro i h1 h2
    have hi : i < (pos rs).length := by simp at h1; omega
    simp [secF, List.getD, hi]
theorem secF_lt {rs : List Run} {d : Int} (h : ∀ r ∈ rs, okRun d r) (h64 : d ≤ 64) (x : Nat) : secF rs x < 64 := by
  unfold secF
  rw [List.getD]
  cases hx : (pos rs)[x]? with
  | none => show 0 < 64; omega
  | some y =>
    have := pos_lt h y (List.mem_of_getElem? hx)
    show y < 64
    omega
def MadeQ (l a d : Int) (rs : List Run) (w : World) (e : Ending) (w' : World) : Prop :=
  Below w.heap.size w w' ∧
      ((∃ g b m, e = .returned (.pointer (some ⟨g, 0, none⟩)) ∧ w.heap.size ≤ g ∧ w.heap.size ≤ b ∧ FieldAt w' g b d.toNat (pos rs).length m ∧ Bits (m.getD 0) (pos rs) ∧ apartP l a d rs) ∨ (e = .returned (.pointer none) ∧ ¬ apartP l a d rs))
set_option maxHeartbeats 2000000 in
theorem made_any (l a d : Int) (hR : rightP l a d) (h64 : d ≤ 64) (A : Option Addr) (cp : Nat) (rs : List Run) (hlen : rs.length ≤ 1000000) (w : World) (hrs : RunsM w w.heap.size (.slice A rs.length cp) rs) :
    Calls Try.prog 62 #[.agg #[.int .i64 l, .int .i64 a, .int .i64 d], .slice A rs.length cp] w (MadeQ l a d rs w) := by
  have hr := decide_eq_true hR
  have HR := hide hR
  have HRS := hide hrs
  have d1 : 1 ≤ d := hR.2.2.1.1
  clear hR hrs
  refine (callsIn_wide (n := 5)).1 ?_
  refine callsIn_of_wp_marks Try.func62 rfl trivial ?_ rfl
  simp only [Try.ntmps62, List.size_toArray, List.length_cons, List.length_nil, Nat.reduceAdd, Nat.reduceSub, Array.replicate_succ, Array.replicate_zero, List.push_toArray, List.append_toArray, List.nil_append, List.cons_append]
  refine wpIn_wide.2 ?_
  go_wp2_with fail
  refine (lright_any l a d _).mono ?_
  rintro e w' ⟨rfl, hw'⟩
  rw [hr]
  dsimp only
  have hb1 : Blk w' w.heap.size 64 #[.int .i64 l, .int .i64 a, .int .i64 d] := by
    rw [hw']
    exact ((Blk.new w _ _).alloc _).alloc _
  have hb2 : Blk w' (w.heap.size + 1) 151 #[.pointer none] := by
    rw [hw']
    have := (Blk.new (w.alloc (.cells #[.int .i64 l, .int .i64 a, .int .i64 d] 64)) 151 #[.pointer none]).alloc (.cells #[.int .i64 l, .int .i64 a, .int .i64 d] 64)
    rwa [size_alloc] at this
  have hB : Below w.heap.size w w' := by
    rw [hw']
    exact (((Below.refl _ w).alloc (Nat.le_refl _) _).al _).al _
  have c0 := hb1.cell 0
  have c1 := hb1.cell 1
  have c2 := hb1.cell 2
  have hlt1 := hb1.lt
  have H1 := hide (And.intro hb1 (And.intro hb2 hB))
  have hmm := @run_makeMap Try.prog
  clear hw' hb1 hb2 hB
  go_wp2_with fail
  have hb3 : FieldAt (((w'.alloc (.map #[] 0)).alloc (.cells #[.map (some w'.heap.size), .int .i64 d, .int .i64 0] 155)).alloc (.cells #[.pointer (some ⟨w'.heap.size + 1, 0, none⟩)] 151)) (w'.heap.size + 1) w'.heap.size d.toNat 0 none := by
    refine ⟨?_, ?_⟩
    · have := (Blk.new (w'.alloc (.map #[] 0)) 155 #[.map (some w'.heap.size), .int .i64 d, .int .i64 0]).alloc (.cells #[.pointer (some ⟨w'.heap.size + 1, 0, none⟩)] 151)
      rw [size_alloc] at this
      rw [show ((d.toNat : Nat) : Int) = d by omega]
      exact this
    · refine (Below.heap_alloc _ _ _ (by simp; omega)).trans ((Below.heap_alloc _ _ _ (by simp)).trans (World.alloc_heap_new w' _))
  have hb4 := Blk.new ((w'.alloc (.map #[] 0)).alloc (.cells #[.map (some w'.heap.size), .int .i64 d, .int .i64 0] 155)) 151 #[.pointer (some ⟨w'.heap.size + 1, 0, none⟩)]
  rw [size_alloc, size_alloc] at hb4
  have hbb : Below w'.heap.size w' (((w'.alloc (.map #[] 0)).alloc (.cells #[.map (some w'.heap.size), .int .i64 d, .int .i64 0] 155)).alloc (.cells #[.pointer (some ⟨w'.heap.size + 1, 0, none⟩)] 151)) := (((Below.refl _ _).alloc (Nat.le_refl _) _).al _).al _
  have hge : w.heap.size + 1 < w'.heap.size := H1.out.2.1.lt
  generalize ((w'.alloc (.map #[] 0)).alloc (.cells #[.map (some w'.heap.size), .int .i64 d, .int .i64 0] 155)).alloc (.cells #[.pointer (some ⟨w'.heap.size + 1, 0, none⟩)] 151) = W0 at hb3 hb4 hbb ⊢
  have h1 := H1.out
  have hbS := h1.1.below hbb h1.1.lt
  have hbR := h1.2.1.below hbb h1.2.1.lt
  have hB0 := h1.2.2.next hbb
  clear hbb h1 H1 c0 c1 c2 hlt1
  generalize w'.heap.size = s at hb3 hb4 hge ⊢
  have H0 := hide (And.intro hbS (And.intro hbR (And.intro hB0 (And.intro hb3 (And.intro hb4 hge)))))
  clear hbS hbR hB0 hb3 hb4 hge hmm
  obtain ⟨A', cp', hv, hcp, hnil, hrow, hr64⟩ := HRS.out
  injection hv with e1 e2 e3
  subst e1 e3
  have HROW := hide (And.intro hrow hr64)
  clear hrow hr64 HRS hnil hcp
  go_loopw [19] (fun i wr => ∃ k : Nat, k ≤ rs.length ∧ i = .int .i64 (k : Int) ∧ (∀ j r, j < k → rs[j]? = some r → okRun d r) ∧ Below W0.heap.size W0 wr) (fun i _ => rs.length - (intOf i).toNat)
  case atStart => exact ⟨0, by omega, rfl, (fun j r h => by omega), Below.refl _ _⟩
  case round =>
    obtain ⟨k, hk, rfl, hok, hB⟩ := hrel
    have h0 := H0.out
    have hbS := h0.1.below hB h0.1.lt
    have hbR := h0.2.1.below hB h0.2.1.lt
    have c2 := hbS.cell 2
    have hltS := hbS.lt
    have HOK := hide hok
    have HB := hide hB
    have HSR := hide (And.intro hbS hbR)
    by_cases hk2 : k < rs.length
    · obtain ⟨r, hrk⟩ : ∃ r, rs[k]? = some r := ⟨_, List.getElem?_eq_getElem hk2⟩
      obtain ⟨bb, off, hA, hbn, hcs⟩ := HROW.out.1 (by omega)
      subst hA
      have hbs : bb < W0.heap.size := by have := h0.2.2.1.size; omega
      have e1 := (hB.cell (p := ⟨bb, off + k * 2, none⟩) hbs).trans ((h0.2.2.1.cell (p := ⟨bb, off + k * 2, none⟩) hbn).trans (hcs k r hrk).1)
      have e2 := (hB.cell (p := ⟨bb, off + k * 2 + 1, none⟩) hbs).trans ((h0.2.2.1.cell (p := ⟨bb, off + k * 2 + 1, none⟩) hbn).trans (hcs k r hrk).2)
      have n1 : (k : Int) < (rs.length : Int) := by omega
      have n2 : (0 : Int) ≤ (k : Int) := by omega
      have hr := HROW.out.2 r (List.mem_of_getElem? hrk)
      have HRK := hide hrk
      clear hrk hcs hbs h0 hB hok hbS hbR
      obtain ⟨⟨r1, r2⟩, r3, r4⟩ := hr
      have cR := HSR.out.2.cell 0
      have fR := HSR.out.2.frozen 0
      have ltR := HSR.out.2.lt
      have fin : ∀ (tmps : Array Value) (X : Obj), ¬ okRun d r → tmps.getD 4 undef = .pointer (some ⟨w.heap.size + 1, 0, none⟩) → bodyPostM Fence.wide 5 Try.prog Try.f62 (MadeQ l a d rs w) .ret { tmps := tmps, defers := [] } ((wr.setCell ⟨w.heap.size + 1, 0, none⟩ (.pointer none)).alloc X) := by
        intro tmps X hno h4
        refine made_fin h4 (((HSR.out.2.set_ 0 (.pointer none)).alloc X).cell 0) ⟨?_, .inr ⟨rfl, fun h => hno (h.2.1 r (List.mem_of_getElem? HRK.out))⟩⟩
        exact ((H0.out.2.2.1.next HB.out).setCell (p := ⟨w.heap.size + 1, 0, none⟩) (by show w.heap.size ≤ w.heap.size + 1; omega) _).al X
      have FIN := hide fin
      have ud := u64_pos d (by omega) (by omega)
      clear fin
      by_cases q1 : r.1 < 0
      · have u1 := u64_neg r.1 r1 q1
        have q2 : d ≤ r.1 + 18446744073709551616 := by omega
        go_wp2
        refine FIN.out _ _ (fun h => by have := h.1; omega) ?_
        rfl
      · have u1 := u64_pos r.1 (by omega) (by omega)
        by_cases q2 : d ≤ r.1
        · go_wp2
          refine FIN.out _ _ (fun h => by have := h.2.1; omega) ?_
          rfl
        · by_cases q3 : r.2 < 1
          · go_wp2
            refine FIN.out _ _ (fun h => by have := h.2.2.1; omega) ?_
            rfl
          · by_cases q4 : d - r.1 < r.2
            · go_wp2
              refine FIN.out _ _ (fun h => by have := h.2.2.2; omega) ?_
              rfl
            · go_wp2
              refine ⟨⟨k + 1, by omega, by go_num, fun j q hj hq => ?_, HB.out.al _⟩, by simp [intOf]; omega⟩
              by_cases hjk : j = k
              · subst hjk
                rw [HRK.out] at hq
                injection hq with hq
                subst hq
                exact ⟨by omega, by omega, by omega, by omega⟩
              · exact HOK.out j q (by omega) hq
    · obtain rfl : k = rs.length := by omega
      clear hbS hbR hok h0 hB
      go_wp2_with fail
      refine (each_any _ _ _ _).mono ?_
      rintro e w2 ⟨rfl, hw2⟩
      have hb1 : Below wr.heap.size wr w2 := by rw [hw2]; exact (Below.refl _ wr).alloc (Nat.le_refl _) _
      have hBd : Blk w2 wr.heap.size 73 #[.slice A rs.length cp] := by rw [hw2]; exact Blk.new _ _ _
      have hF : FieldAt w2 (s + 1) s d.toNat 0 none := (H0.out.2.2.2.1.below HB.out).below hb1
      have h5 : Blk w2 (s + 1 + 1) 151 #[.pointer (some ⟨s + 1, 0, none⟩)] := (H0.out.2.2.2.2.1.below HB.out H0.out.2.2.2.2.1.lt).below hb1 ((H0.out.2.2.2.2.1.below HB.out H0.out.2.2.2.2.1.lt)).lt
      have h4 : Blk w2 (w.heap.size + 1) 151 #[.pointer none] := HSR.out.2.below hb1 HSR.out.2.lt
      have hBw : Below w.heap.size w w2 := (H0.out.2.2.1.next HB.out).next hb1
      have hsz : s + 1 + 1 < w2.heap.size := h5.lt
      have hall : ∀ r ∈ rs, okRun d r := fun r hr => by
        obtain ⟨j, hj, e⟩ := List.getElem_of_mem hr
        exact HOK.out j r hj (by rw [List.getElem?_eq_getElem hj, e])
      have hws : wr.heap.size < w2.heap.size := hBd.lt
      have hge : w.heap.size + 1 < s := H0.out.2.2.2.2.2
      have hI0 : ∃ m, FieldAt w2 (s + 1) s d.toNat ([] : List Nat).length m ∧ Bits (m.getD 0) (([] : List Nat).map (secF rs)) ∧ (([] : List Nat).map (secF rs)).Nodup ∧ w2.cell? ⟨s + 1 + 1, 0, none⟩ = some (.pointer (some ⟨s + 1, 0, none⟩)) ∧ (w2.cell? ⟨w.heap.size + 1, 0, none⟩ = some (.pointer none) ∧ w2.frozen? ⟨w.heap.size + 1, 0, none⟩ = false) :=
        ⟨none, hF, Bits.nil, List.nodup_nil, h5.cell 0, h4.cell 0, h4.frozen 0⟩
      have cells : 0 < rs.length → ∃ b off, A = some ⟨b, off, none⟩ ∧ b < w2.heap.size ∧ ¬ b = s + 1 ∧ ∀ j r, rs[j]? = some r → w2.cell? ⟨b, off + j * 2, none⟩ = some (.int .i64 r.1) ∧ w2.cell? ⟨b, off + j * 2 + 1, none⟩ = some (.int .i64 r.2) := by
        intro h
        obtain ⟨b, off, e1, e2, e3⟩ := HROW.out.1 h
        exact ⟨b, off, e1, by omega, by omega, fun j r hj => ⟨(hBw.cell (p := ⟨b, off + j * 2, none⟩) e2).trans (e3 j r hj).1, (hBw.cell (p := ⟨b, off + j * 2 + 1, none⟩) e2).trans (e3 j r hj).2⟩⟩
      have HI := hide (And.intro hI0 hBw)
      have HC := hide (And.intro cells (And.intro hall (hBd.cell 0)))
      have HZ := hide (And.intro hsz (And.intro hws hge))
      clear hb1 hBd hF h5 h4 hBw hsz hall hws hge hI0 cells HB HSR HOK HROW hw2
      dsimp only
      go_wp2_with fail
      refine (wpIn_wide (n := 5)).1 ?_
      refine wpIn_rangeFunc_ownG (F := Fence.wide) (n := 5) (α := Nat) rfl (by omega) (gf := 122) (lb := #[.pointer (some ⟨wr.heap.size, 0, none⟩)]) rfl trivial (enters_of Try.func122 (by kernel_rfl) rfl)
        (each_stops (n₀ := w2.heap.size) (S := fun k => k = s + 1) Fence.wide 4 trivial rfl (by omega) wr.heap.size cp A rs hlen (fun r hr => by have := HC.out.2.1 r hr; unfold okRun at this; omega) w2 (Nat.le_refl _) HZ.out.2.1 HC.out.2.2 HC.out.1) KeepsI.trans (KeepsI.putObj (Nat.le_refl _)) (Below.refl _ _) (fun _ => rfl)
        (fun pre W => (∃ m, FieldAt W (s + 1) s d.toNat pre.length m ∧ Bits (m.getD 0) (pre.map (secF rs)) ∧ (pre.map (secF rs)).Nodup ∧ W.cell? ⟨s + 1 + 1, 0, none⟩ = some (.pointer (some ⟨s + 1, 0, none⟩)) ∧ (W.cell? ⟨w.heap.size + 1, 0, none⟩ = some (.pointer none) ∧ W.frozen? ⟨w.heap.size + 1, 0, none⟩ = false)) ∧ Below w.heap.size w W)
        (fun c pre W => (c = .ret ∧ ¬ (pre.map (secF rs)).Nodup ∧ W.cell? ⟨w.heap.size + 1, 0, none⟩ = some (.pointer none)) ∧ Below w.heap.size w W)
        (OwnFrom.and (fun pre X Y row hs hg hr => by
          obtain ⟨m, h1, h2, h3, h4, h5, h6⟩ := hs
          have hr' : ∀ r, row = some r → ∃ o : Obj, X.heap[r]? = some o ∧ o.isCells = false := fun r e => (hr r e).2
          exact ⟨m, h1.up (hg.block _ h1.lt.1 fun e => by have := (hr _ e.symm).1; have := HZ.out.1; omega) (hg.block _ h1.lt.2 fun e => by have := (hr _ e.symm).1; have := HZ.out.1; omega), h2, h3, cell_kept h4 hg hr', cell_kept h5 hg hr', (frozen_kept h5 hg hr').trans h6⟩) (ownFrom_below (Nat.le_refl _) (by have := HZ.out; omega)))
        (fun c => OwnFrom.and (Own.from (fun s A B row hs hg hr => ⟨hs.1, hs.2.1, cell_kept hs.2.2 hg hr⟩) _) (ownFrom_below (Nat.le_refl _) (by have := HZ.out; omega)))
        HI.out
        (fun x => { tmps := #[Value.agg #[Value.int .i64 l, Value.int .i64 a, Value.int .i64 d], Value.slice A rs.length cp, Value.pointer (some ⟨w.heap.size, 0, none⟩), undef, Value.pointer (some ⟨w.heap.size + 1, 0, none⟩), Value.pointer (some ⟨s + 1 + 1, 0, none⟩), undef, u7, Value.int .i64 ((secF rs x : Nat) : Int), Value.agg #[Value.int .i64 l, Value.int .i64 a, Value.int .i64 d], Value.bool true, Value.bool false, Value.map (some s), Value.pointer (some ⟨w.heap.size, 2, none⟩), Value.int .i64 d, Value.agg #[Value.map (some s), Value.int .i64 d, Value.int .i64 0], Value.pointer (some ⟨s + 1, 0, none⟩), Value.slice A rs.length cp, Value.int .i64 (rs.length : Int), Value.int .i64 (rs.length : Int), Value.bool false, u21, u22, u23, u24, u25, u26, u27, u28, u29, u30, u31, u32, u33, u34, u35, u36, u37, u38, u39, u40, u41, u42, u43, u44, u45, Value.slice A rs.length cp, Value.func (.func 122) #[] #[.pointer (some ⟨wr.heap.size, 0, none⟩)], Value.int .i64 ((secF rs x : Nat) : Int), undef, undef, undef, undef, undef], defers := [] }) ?assign ?body ?done ?stop
      case assign =>
        intro l y W K hK
        dsimp only [posE]
        gi_wp2
        exact hK
      case body =>
        rintro l0 pre x W ⟨⟨m, hF, hBt, hN, h5, h4, f4⟩, hB⟩ hlen2
        have hx := secF_lt HC.out.2.1 h64 x
        have hne := hF.ne
        have HW := hide (And.intro hF (And.intro hBt (And.intro hN (And.intro h5 (And.intro h4 (And.intro f4 hB))))))
        clear hF hBt hN hB f4
        by_cases ht : (m.getD 0).testBit (secF rs x) = true
        · have hdup : ¬ ((pre ++ [x]).map (secF rs)).Nodup := by
            have h := HW.out.2.1.2 _ hx
            rw [ht] at h
            have hmem := List.contains_iff_mem.1 h.symm
            rw [List.map_append, List.nodup_append]
            intro hn
            exact hn.2.2 _ hmem _ (by simp) rfl
          gi_wp2_with fail
          refine ⟨trivial, (CallsIn.inRound l0 (callsIn_wide.2 (hold_no (secF rs x) hx W HW.out.1 HW.out.2.1.1 ht))).mono ?_⟩
          rintro e W1 ⟨rfl, rfl⟩
          have h4 := HW.out.2.2.2.2.1
          have f4 := HW.out.2.2.2.2.2.1
          dsimp only
          gi_wp2_with fail
          refine ⟨(KeepsOthers.setCell _ _ _).from _, ⟨rfl, hdup, World.cell?_setCell_same' _ _ _ (by rw [h4]; rfl)⟩, ?_⟩
          exact HW.out.2.2.2.2.2.2.setCell (p := ⟨w.heap.size + 1, 0, none⟩) (by show w.heap.size ≤ w.heap.size + 1; omega) _
        · have ht : (m.getD 0).testBit (secF rs x) = false := by simpa using ht
          have hnd : ((pre ++ [x]).map (secF rs)).Nodup := by
            have h := HW.out.2.1.2 _ hx
            rw [ht] at h
            rw [List.map_append, List.nodup_append]
            refine ⟨HW.out.2.2.1, by simp, fun u hu v hv e => ?_⟩
            subst e
            have hv : u = secF rs x := by simpa using hv
            subst hv
            rw [List.contains_iff_mem.2 hu] at h
            cases h
          have hpl : pre.length ≤ 64 := by
            have := nodup_short (n := 64) HW.out.2.2.1 (fun y hy => by obtain ⟨z, _, rfl⟩ := List.mem_map.1 hy; exact secF_lt HC.out.2.1 h64 z)
            rwa [List.length_map] at this
          gi_wp2_with fail
          refine ⟨trivial, (CallsIn.inRound l0 (callsIn_wide.2 (hold_yes (secF rs x) hx W HW.out.1 HW.out.2.1.1 (by omega) ht))).mono ?_⟩
          rintro e W1 ⟨rfl, hF1, hs1, ho1, hbel⟩
          have H1 := hide (And.intro hF1 (And.intro hs1 (And.intro ho1 hbel)))
          clear hF1 hs1 ho1 hbel
          dsimp only
          gi_wp2_with fail
          obtain ⟨hF1, hs1, ho1, hbel⟩ := H1.out
          obtain ⟨hF, hBt, hN, h5, h4, f4, hB⟩ := HW.out
          have hz := HZ.out
          have e5 : W1.heap[s + 1 + 1]? = W.heap[s + 1 + 1]? := ho1 _ (by omega) (by omega)
          have e4 : W1.heap[w.heap.size + 1]? = W.heap[w.heap.size + 1]? := ho1 _ (by omega) (by omega)
          have hm : (mapObj m).isCells = false := by cases m <;> rfl
          refine ⟨⟨by omega, fun k o hk ho _ => (ho1 k (by omega) (by omega)).trans ho⟩, ⟨by omega, fun k o hk hS ho hc => ?_, fun k cs fr hk ho => (ho1 k (by omega) (by omega)).trans ho⟩, ⟨some (setBit (m.getD 0) (secF rs x)), ?_, ?_, hnd, (World.cell?_of_block e5).trans h5, (World.cell?_of_block e4).trans h4, (World.frozen?_of_block e4).trans f4⟩, ?_⟩
          · by_cases hks : k = s
            · subst hks
              rw [hF.map] at ho
              injection ho with ho
              subst ho
              rw [hm] at hc
              cases hc
            · exact (ho1 k hS hks).trans ho
          · rw [List.length_append]
            exact hF1
          · rw [List.map_append]
            exact hBt.add hx
          · exact ⟨hbel.os.trans hB.os, hbel.tape.trans hB.tape, hbel.output.trans hB.output, by have := hB.size; omega, fun k hk => (ho1 k (by omega) (by omega)).trans (hB.block k hk)⟩
      case done =>
        rintro D ys W hD rfl ⟨⟨m, hF, hBt, hN, h5, h4, f4⟩, hB⟩ hK
        rw [secF_range rs _ (Nat.le_refl _), List.take_length] at hBt hN
        rw [List.length_range] at hF
        have HW := hide (And.intro hF (And.intro hBt (And.intro hN hB)))
        have hz := HZ.out
        have hlt4 := World.block_lt_of_cell? W _ h4
        clear hF hBt hN hB
        go_wp2_with fail
        obtain ⟨hF, hBt, hN, hB⟩ := HW.out
        have hDW : D < W.heap.size := (Array.getElem?_eq_some_iff.1 hK).1
        have hK5 : (W.setCell ⟨w.heap.size + 1, 0, none⟩ (.pointer (some ⟨s + 1, 0, none⟩))).heap[D]? = some (.deferred (some [])) := (KeepsOthers.setCell _ _ _).same D _ hK rfl
        have hk : ∀ k, k ≠ w.heap.size + 1 → k ≠ D → ((W.setCell ⟨w.heap.size + 1, 0, none⟩ (.pointer (some ⟨s + 1, 0, none⟩))).putObj D (.deferred none)).heap[k]? = W.heap[k]? := fun k h1 h2 =>
          (World.putObj_heap_other h2).trans (Below.heap_setCell W ⟨w.heap.size + 1, 0, none⟩ _ k h1)
        refine made_finD ?hg (World.cell?_setCell_same' _ _ _ (by rw [h4]; rfl)) hK5 ⟨?_, .inl ⟨s + 1, s, m, rfl, by omega, by omega, hF.up (hk _ (by omega) (by omega)) (hk _ (by omega) (by omega)), hBt, HR.out, HC.out.2.1, hN⟩⟩
        case hg => rfl
        exact (hB.setCell (p := ⟨w.heap.size + 1, 0, none⟩) (by show w.heap.size ≤ w.heap.size + 1; omega) _).grown (grownBy_putObj' _ D (.deferred none)) (by have := hB.size; simp; omega) (fun k e => by cases e; omega)
      case stop =>
        rintro D c' pre W hD ⟨k, hk, rfl⟩ ⟨⟨rfl, hdup, h4⟩, hB⟩ hK
        refine wpIn_wide.2 ?_
        have HW := hide (And.intro hdup hB)
        have hz := HZ.out
        clear hdup hB
        go_wp2_with fail
        refine made_finD ?hg h4 hK ⟨?_, .inr ⟨rfl, fun h => HW.out.1 ?_⟩⟩
        case hg => rfl
        · exact HW.out.2.grown (grownBy_putObj' _ D (.deferred none)) HW.out.2.size (fun k e => by cases e; omega)
        · rw [secF_range rs _ (by omega)]
          exact List.Pairwise.sublist (List.take_sublist _ _) h.2.2
theorem made_all (l a d : Int) (h64 : rightP l a d → d ≤ 64) (v : Value) (rs : List Run) (hlen : rs.length ≤ 1000000) (w : World) (hrs : RunsM w w.heap.size v rs) :
    Calls Try.prog 62 #[.agg #[.int .i64 l, .int .i64 a, .int .i64 d], v] w (MadeQ l a d rs w) := by
  by_cases hR : rightP l a d
  · obtain ⟨A, cp, rfl, h⟩ := hrs
    exact made_any l a d hR (h64 hR) A cp rs hlen w ⟨A, cp, rfl, h⟩
  · refine (made_not l a d hR v w).mono ?_
    rintro e w' ⟨rfl, hb⟩
    exact ⟨hb, .inr ⟨rfl, fun h => hR h.1⟩⟩
end Go.Proofs.Ytfppddnfdinipaa
end
section
namespace Go.Proofs.Ytfppddnfdinipaa
open Go Go.RowKit
/-- the free sectors ahead of one -/
def freeTo (rs : List Run) (k : Nat) : List Nat := (List.range k).filter fun x => !(pos rs).contains x
theorem freeTo_zero (rs : List Run) : freeTo rs 0 = [] := rfl
theorem freeTo_succ (rs : List Run) (k : Nat) : freeTo rs (k + 1) = freeTo rs k ++ (if (pos rs).contains k then [] else [k]) := by
  unfold freeTo
  rw [List.range_succ, List.filter_append]
  cases h : (pos rs).contains k <;> simp only [List.filter_cons, List.filter_nil, h, Bool.not_true, Bool.not_false, if_true, if_false, Bool.false_eq_true]
theorem freeTo_more (rs : List Run) (k : Nat) : ∀ j, ∃ t, freeTo rs (k + j) = freeTo rs k ++ t
  | 0 => ⟨[], by simp⟩
  | j + 1 => by
    obtain ⟨t, ht⟩ := freeTo_more rs k j
    refine ⟨t ++ (if (pos rs).contains (k + j) then [] else [k + j]), ?_⟩
    rw [← Nat.add_assoc, freeTo_succ, ht, List.append_assoc]
theorem freeTo_take {rs : List Run} {k d : Nat} (h : k ≤ d) : (freeTo rs d).take (freeTo rs k).length = freeTo rs k := by
  obtain ⟨t, ht⟩ := freeTo_more rs k (d - k)
  rw [show k + (d - k) = d by omega] at ht
  rw [ht, List.take_left']
  rfl
theorem freeTo_len_le {rs : List Run} {k d : Nat} (h : k ≤ d) : (freeTo rs k).length ≤ (freeTo rs d).length := by
  obtain ⟨t, ht⟩ := freeTo_more rs k (d - k)
  rw [show k + (d - k) = d by omega] at ht
  rw [ht, List.length_append]
  omega
theorem freeTo_len (rs : List Run) (k : Nat) : (freeTo rs k).length ≤ k := by
  have := List.length_filter_le (fun x => !(pos rs).contains x) (List.range k)
  rwa [List.length_range] at this
theorem mem_freeTo {rs : List Run} {k x : Nat} : x ∈ freeTo rs k ↔ x < k ∧ x ∉ pos rs := by
  unfold freeTo
  simp [List.mem_filter, List.mem_range]
theorem nodup_freeTo (rs : List Run) (k : Nat) : (freeTo rs k).Nodup := List.Pairwise.filter _ List.nodup_range
theorem nodup_sub : ∀ {a b : List Nat}, a.Nodup → (∀ x ∈ a, x ∈ b) → a.length ≤ b.length
  | [], b, _, _ => Nat.zero_le _
  | x :: a, b, h, hs => by
    obtain ⟨h1, h2⟩ := List.nodup_cons.1 h
    have hx : x ∈ b := hs x (by simp)
    have h3 := nodup_sub (a := a) (b := b.erase x) h2 fun y hy => by
      have hne : y ≠ x := fun e => h1 (e ▸ hy)
      exact (List.mem_erase_of_ne hne).2 (hs y (by simp [hy]))
    have h4 := List.length_erase_of_mem hx
    have h5 : 0 < b.length := List.length_pos_of_mem hx
    rw [List.length_cons]
    omega
/-- how many are free -/
theorem free_count {rs : List Run} {d : Nat} (hn : (pos rs).Nodup) (hl : ∀ x ∈ pos rs, x < d) : (freeTo rs d).length + (pos rs).length = d := by
  have h1 : (freeTo rs d ++ pos rs).Nodup := by
    rw [List.nodup_append]
    refine ⟨nodup_freeTo rs d, hn, fun a ha b hb e => ?_⟩
    subst e
    exact (mem_freeTo.1 ha).2 hb
  have h2 := nodup_sub (b := List.range d) h1 fun x hx => by
    rw [List.mem_range]
    rcases List.mem_append.1 hx with h | h
    · exact (mem_freeTo.1 h).1
    · exact hl x h
  have h3 := nodup_sub (a := List.range d) (b := freeTo rs d ++ pos rs) List.nodup_range fun x hx => by
    rw [List.mem_range] at hx
    rw [List.mem_append, mem_freeTo]
    by_cases h : x ∈ pos rs
    · exact .inr h
    · exact .inl ⟨hx, h⟩
  rw [List.length_range, List.length_append] at h2 h3
  omega
def lastR (l : List Run) : Run := l.getLast?.getD (0, 0)
theorem lastR_app (l : List Run) (r : Run) : lastR (l ++ [r]) = r := by simp [lastR]
theorem lastR_nil : lastR [] = (0, 0) := rfl
/-- one more sector that is found -/
def grp (l : List Run) (x : Nat) : List Run :=
  if 0 < (lastR l).2 ∧ (lastR l).1 + (lastR l).2 = (x : Int) then l.dropLast ++ [((lastR l).1, (lastR l).2 + 1)] else l ++ [((x : Int), 1)]
def grps (t : List Nat) : List Run := t.foldl grp []
theorem grps_app (t : List Nat) (x : Nat) : grps (t ++ [x]) = grp (grps t) x := by simp [grps]
theorem pos_app (a b : List Run) : pos (a ++ b) = pos a ++ pos b := by simp [pos]
structure GOk (l : List Run) (k : Nat) (t : List Nat) : Prop where
  each : ∀ r ∈ l, 0 ≤ r.1 ∧ 1 ≤ r.2 ∧ r.1 + r.2 ≤ (k : Int)
  len : l.length ≤ k
  apart : l.Pairwise fun a b => a.1 + a.2 < b.1
  pos : pos l = t
theorem GOk.nil (k : Nat) : GOk [] k [] := ⟨(fun r hr => by cases hr), Nat.zero_le _, List.Pairwise.nil, rfl⟩
theorem GOk.up {l : List Run} {k : Nat} {t : List Nat} (h : GOk l k t) : GOk l (k + 1) t :=
  ⟨fun r hr => by have := h.each r hr; omega, by have := h.len; omega, h.apart, h.pos⟩
theorem posR_one (x : Nat) : posR ((x : Int), 1) = [x] := by simp [posR]
theorem posR_more (a m : Int) (ha : 0 ≤ a) (hm : 1 ≤ m) : posR (a, m + 1) = posR (a, m) ++ [(a + m).toNat] := by
  have e : (m + 1).toNat = m.toNat + 1 := by omega
  have e2 : (a + m).toNat = a.toNat + m.toNat := by omega
  simp only [posR, e, e2, List.range_succ, List.map_append, List.map_cons, List.map_nil]
theorem GOk.grp {l : List Run} {k : Nat} {t : List Nat} (h : GOk l k t) : GOk (grp l k) (k + 1) (t ++ [k]) := by
  rcases List.eq_nil_or_concat l with rfl | ⟨i, r, hl⟩
  · have ht : t = [] := h.pos.symm
    subst ht
    show GOk [((k : Int), 1)] (k + 1) [k]
    refine ⟨fun r hr => ?_, by simp, List.pairwise_singleton _ _, ?_⟩
    · obtain rfl := List.mem_singleton.1 hr
      exact ⟨by omega, by omega, by omega⟩
    · simp [Go.Proofs.Ytfppddnfdinipaa.pos, posR_one]
  · rw [List.concat_eq_append] at hl
    subst hl
    have hr := h.each r (by simp)
    have hp := List.pairwise_append.1 h.apart
    have hpp := h.pos
    rw [pos_app] at hpp
    have hr1 : Go.Proofs.Ytfppddnfdinipaa.pos [r] = posR r := by simp [Go.Proofs.Ytfppddnfdinipaa.pos]
    rw [hr1] at hpp
    unfold Go.Proofs.Ytfppddnfdinipaa.grp
    rw [lastR_app, List.dropLast_concat]
    by_cases hc : 0 < r.2 ∧ r.1 + r.2 = (k : Int)
    · rw [if_pos hc]
      refine ⟨fun q hq => ?_, ?_, ?_, ?_⟩
      · rcases List.mem_append.1 hq with hq | hq
        · have := h.each q (by simp [hq])
          omega
        · obtain rfl := List.mem_singleton.1 hq
          show 0 ≤ r.1 ∧ 1 ≤ r.2 + 1 ∧ r.1 + (r.2 + 1) ≤ ((k + 1 : Nat) : Int)
          omega
      · have := h.len
        simp only [List.length_append, List.length_singleton] at this ⊢
        omega
      · rw [List.pairwise_append]
        refine ⟨hp.1, List.pairwise_singleton _ _, fun a ha b hb => ?_⟩
        obtain rfl := List.mem_singleton.1 hb
        exact hp.2.2 a ha r (by simp)
      · have e := posR_more r.1 r.2 hr.1 hr.2.1
        rw [pos_app, show Go.Proofs.Ytfppddnfdinipaa.pos [(r.1, r.2 + 1)] = posR (r.1, r.2 + 1) by simp [Go.Proofs.Ytfppddnfdinipaa.pos], e, hc.2, ← List.append_assoc, Int.toNat_natCast]
        exact congrArg (· ++ [k]) hpp
    · rw [if_neg hc]
      have hlt : r.1 + r.2 < (k : Int) := by omega
      refine ⟨fun q hq => ?_, ?_, ?_, ?_⟩
      · rcases List.mem_append.1 hq with hq | hq
        · have := h.each q hq
          omega
        · obtain rfl := List.mem_singleton.1 hq
          show 0 ≤ (k : Int) ∧ 1 ≤ (1 : Int) ∧ (k : Int) + 1 ≤ ((k + 1 : Nat) : Int)
          omega
      · have := h.len
        simp only [List.length_append, List.length_singleton] at this ⊢
        omega
      · rw [List.pairwise_append]
        refine ⟨h.apart, List.pairwise_singleton _ _, fun a ha b hb => ?_⟩
        obtain rfl := List.mem_singleton.1 hb
        rcases List.mem_append.1 ha with ha | ha
        · have h1 := hp.2.2 a ha r (by simp)
          show a.1 + a.2 < (k : Int)
          omega
        · obtain rfl := List.mem_singleton.1 ha
          exact hlt
      · rw [pos_app, h.pos, show Go.Proofs.Ytfppddnfdinipaa.pos [((k : Int), (1 : Int))] = posR ((k : Int), 1) by simp [Go.Proofs.Ytfppddnfdinipaa.pos], posR_one]
theorem gok (rs : List Run) : ∀ k, GOk (grps (freeTo rs k)) k (freeTo rs k)
  | 0 => GOk.nil 0
  | k + 1 => by
    rw [freeTo_succ]
    cases h : (pos rs).contains k with
    | true =>
      rw [if_pos rfl, List.append_nil]
      exact (gok rs k).up
    | false =>
      rw [if_neg (by simp), grps_app]
      exact (gok rs k).grp
/-- what is found -/
def findP (rs : List Run) (d n : Nat) : List Run := grps ((freeTo rs d).take n)
theorem findP_at {rs : List Run} {k d n : Nat} (h : k ≤ d) (hn : (freeTo rs k).length = n) : findP rs d n = grps (freeTo rs k) := by
  unfold findP
  rw [← hn, freeTo_take h]
/-- there is a place where all are found -/
theorem findP_where {rs : List Run} {n : Nat} : ∀ d, n ≤ (freeTo rs d).length → ∃ k, k ≤ d ∧ (freeTo rs k).length = n
  | 0, h => ⟨0, Nat.le_refl _, by rw [freeTo_zero] at h ⊢; simp at h ⊢; omega⟩
  | d + 1, h => by
    by_cases h2 : n ≤ (freeTo rs d).length
    · obtain ⟨k, hk, he⟩ := findP_where d h2
      exact ⟨k, by omega, he⟩
    · refine ⟨d + 1, Nat.le_refl _, ?_⟩
      rw [freeTo_succ, List.length_append] at h ⊢
      cases hc : (pos rs).contains d <;> simp only [hc, if_true, if_false, Bool.false_eq_true, List.length_nil, List.length_singleton] at h ⊢ <;> omega
end Go.Proofs.Ytfppddnfdinipaa
end
section
namespace Go.Proofs.Ytfppddnfdinipaa
open Go Go.RowKit
set_option maxRecDepth 100000
def needP (n : Int) : Int := if n ≤ 0 then 0 else (n - 1) / 64 + 1
theorem need_any (n : Int) (hn : -9223372036854775808 ≤ n ∧ n ≤ 9223372036854775807) (w : World) : Calls Try.prog 34 #[.int .i64 n] w fun e w' => e = .returned (.int .i64 (needP n)) ∧ w' = w := by
  by_cases h : n ≤ 0
  · rw [needP, if_pos h]
    go_enter Try.func34, Try.ntmps34
    go_wp2
    go_ret
    exact ⟨rfl, rfl⟩
  · rw [needP, if_neg h]
    have u := u64_pos (n - 1) (by omega) (by omega)
    have q1 : 0 ≤ (n - 1) / 64 := by omega
    have q2 : (n - 1) / 64 < 9223372036854775807 := by omega
    go_enter Try.func34, Try.ntmps34
    go_wp2
    go_ret
    exact ⟨rfl, rfl⟩
theorem RunsM.below {w w' : World} {v : Value} {l : List Run} (h : RunsM w w.heap.size v l) (hb : Below w.heap.size w w') : RunsM w' w'.heap.size v l := (h.alike fun k hk => hb.block k hk).widen hb.size
theorem lapart_any (l a d : Int) (h64 : rightP l a d → d ≤ 64) (v : Value) (rs : List Run) (hlen : rs.length ≤ 1000000) (w : World) (hrs : RunsM w w.heap.size v rs) :
    Calls Try.prog 76 #[.agg #[.int .i64 l, .int .i64 a, .int .i64 d], v] w fun e w' => e = .returned (.bool (decide (apartP l a d rs))) ∧ Below w.heap.size w w' := by
  have hal := hrs.below ((Below.refl _ w).alloc (Nat.le_refl _) (.cells #[.int .i64 l, .int .i64 a, .int .i64 d] 64))
  clear hrs
  go_enter Try.func76, Try.ntmps76
  go_wp2_with fail
  refine (made_all l a d h64 v rs hlen _ hal).mono ?_
  rintro e w1 ⟨hb, h⟩
  have hb' : Below w.heap.size w w1 := ((Below.refl _ w).alloc (Nat.le_refl _) _).next hb
  have HB := hide hb'
  clear hb hb'
  rcases h with ⟨g, b, m, rfl, _, _, _, _, hap⟩ | ⟨rfl, hap⟩
  · dsimp only
    go_wp2_with fail
    go_ret
    rw [decide_eq_true hap]
    exact ⟨rfl, HB.out⟩
  · dsimp only
    go_wp2_with fail
    go_ret
    rw [decide_eq_false hap]
    exact ⟨rfl, HB.out⟩
def freeN (l a d : Int) (rs : List Run) : Int := if apartP l a d rs then ((freeTo rs d.toNat).length : Int) else 0
def freeE (l a d : Int) (rs : List Run) : Int := if apartP l a d rs then 0 else 2
theorem apart_count {l a d : Int} {rs : List Run} (h : apartP l a d rs) : (freeTo rs d.toNat).length + (pos rs).length = d.toNat :=
  free_count h.2.2 fun x hx => by have := pos_lt h.2.1 x hx; omega
theorem apart_d {l a d : Int} {rs : List Run} (h : apartP l a d rs) : 1 ≤ d ∧ d ≤ 8192 := h.1.2.2.1
theorem lfree_any (l a d : Int) (h64 : rightP l a d → d ≤ 64) (v : Value) (rs : List Run) (hlen : rs.length ≤ 1000000) (w : World) (hrs : RunsM w w.heap.size v rs) :
    Calls Try.prog 32 #[.agg #[.int .i64 l, .int .i64 a, .int .i64 d], v] w fun e w' => e = .returned (.tuple #[.int .i64 (freeN l a d rs), .int .i64 (freeE l a d rs)]) ∧ Below w.heap.size w w' := by
  have hal := hrs.below ((Below.refl _ w).alloc (Nat.le_refl _) (.cells #[.int .i64 l, .int .i64 a, .int .i64 d] 64))
  clear hrs
  go_enter Try.func32, Try.ntmps32
  go_wp2_with fail
  refine (made_all l a d h64 v rs hlen _ hal).mono ?_
  rintro e w1 ⟨hb, h⟩
  have hb' : Below w.heap.size w w1 := ((Below.refl _ w).alloc (Nat.le_refl _) _).next hb
  have HB := hide hb'
  clear hb hb'
  rcases h with ⟨g, b, m, rfl, _, _, hF, _, hap⟩ | ⟨rfl, hap⟩
  · have hN : freeN l a d rs = (d.toNat : Int) - ((pos rs).length : Int) := by
      have := apart_count hap
      rw [freeN, if_pos hap]
      omega
    have hE : freeE l a d rs = 0 := if_pos hap
    have c1 := hF.blk.cell 1
    have c2 := hF.blk.cell 2
    have hlt := hF.blk.lt
    have hc := apart_count hap
    have hd := apart_d hap
    have n1 : (0 : Int) ≤ (d.toNat : Int) := by omega
    have n2 : (d.toNat : Int) ≤ 8192 := by omega
    have n3 : (0 : Int) ≤ ((pos rs).length : Int) := by omega
    have n4 : ((pos rs).length : Int) ≤ 8192 := by omega
    clear hF hap hc hd
    dsimp only
    go_wp2_with fail
    go_quiet (fail)
    go_wp2_with fail
    refine bodyPost_ret (v := .tuple #[.int .i64 ((d.toNat : Int) - ((pos rs).length : Int)), .int .i64 0]) (by simp [results, Try.f32, go_sem]) rfl ?_
    rw [hN, hE]
    exact ⟨rfl, below_drewN HB.out _⟩
  · have hN : freeN l a d rs = 0 := if_neg hap
    have hE : freeE l a d rs = 2 := if_neg hap
    dsimp only
    go_wp2_with fail
    refine bodyPost_ret (v := .tuple #[.int .i64 0, .int .i64 2]) (by simp [results, Try.f32, go_sem]) rfl ?_
    rw [hN, hE]
    exact ⟨rfl, HB.out⟩
end Go.Proofs.Ytfppddnfdinipaa
end
section
namespace Go.Proofs.Ytfppddnfdinipaa
open Go Go.RowKit
set_option maxRecDepth 100000
theorem lastR_ok {l : List Run} {k : Nat} {t : List Nat} (h : GOk l k t) : 0 ≤ (lastR l).1 ∧ 0 ≤ (lastR l).2 ∧ (lastR l).1 + (lastR l).2 ≤ (k : Int) := by
  rcases List.eq_nil_or_concat l with rfl | ⟨i, r, hl⟩
  · rw [lastR_nil]
    exact ⟨by simp, by simp, by simp⟩
  · rw [List.concat_eq_append] at hl
    subst hl
    rw [lastR_app]
    have := h.each r (by simp)
    omega
theorem Bits.has {x : Nat} {l : List Nat} (h : Bits x l) (k : Nat) (hk : k < 64) : x.testBit k = l.contains k := h.2 k hk
/-- what Find is in the loop -/
structure FindAt (w0 w : World) (B L g b : Nat) (D : Nat) (rs : List Run) (m : Option Nat) (n : Nat) (k : Nat) (M O : Value) : Prop where
  kd : k ≤ D
  len : (freeTo rs k).length ≤ n
  many : M = .int .i64 ((n : Int) - ((freeTo rs k).length : Int))
  own : OwnRuns B w O (grps (freeTo rs k))
  last : Blk w L 88 #[.int .i64 (lastR (grps (freeTo rs k))).1, .int .i64 (lastR (grps (freeTo rs k))).2]
  field : FieldAt w g b D (pos rs).length m
  sz : B ≤ w.heap.size
  lt : L < B ∧ g < L ∧ b < L
  below : Below w0.heap.size w0 w
  w0 : w0.heap.size ≤ L
theorem FindAt.next {w0 w W : World} {B L g b D n k : Nat} {rs : List Run} {m : Option Nat} {M O O' : Value} (h : FindAt w0 w B L g b D rs m n k M O) (hk : k < D) (hn : (freeTo rs k).length ≠ n) (hs : freeTo rs (k + 1) = freeTo rs k ++ [k])
    (own : OwnRuns B W O' (grp (grps (freeTo rs k)) k)) (last : Blk W L 88 #[.int .i64 (lastR (grp (grps (freeTo rs k)) k)).1, .int .i64 (lastR (grp (grps (freeTo rs k)) k)).2])
    (hg : W.heap[g]? = w.heap[g]?) (hb : W.heap[b]? = w.heap[b]?) (sz : B ≤ W.heap.size) (below : Below w0.heap.size w0 W) : FindAt w0 W B L g b D rs m n (k + 1) (.int .i64 ((n : Int) - ((freeTo rs k).length : Int) - 1)) O' := by
  have hl : (freeTo rs (k + 1)).length = (freeTo rs k).length + 1 := by rw [hs, List.length_append]; rfl
  have hgr : grps (freeTo rs (k + 1)) = grp (grps (freeTo rs k)) k := by rw [hs, grps_app]
  have := h.len
  exact ⟨by omega, by omega, by rw [hl]; congr 1; omega, by rw [hgr]; exact own, by rw [hgr]; exact last, h.field.up hg hb, sz, h.lt, below, h.w0⟩
set_option maxHeartbeats 2000000 in
theorem lfind_ok (l a d : Int) (h64 : d ≤ 64) (v : Value) (rs : List Run) (hlen : rs.length ≤ 1000000) (hap : apartP l a d rs) (n : Nat) (hn : n ≤ (freeTo rs d.toNat).length) (w : World) (hrs : RunsM w w.heap.size v rs) :
    Calls Try.prog 33 #[.agg #[.int .i64 l, .int .i64 a, .int .i64 d], .int .i64 (n : Int), v] w fun e w' => ∃ o, e = .returned (.tuple #[o, .int .i64 0]) ∧ OwnRuns w.heap.size w' o (findP rs d.toNat n) ∧ Below w.heap.size w w' := by
  obtain ⟨D, rfl⟩ : ∃ D : Nat, d = (D : Int) := ⟨d.toNat, by have := apart_d hap; omega⟩
  rw [Int.toNat_natCast] at hn ⊢
  have hal := hrs.below ((Below.refl _ w).alloc (Nat.le_refl _) (.cells #[.int .i64 l, .int .i64 a, .int .i64 (D : Int)] 64))
  have hcnt := apart_count hap
  have hdd := apart_d hap
  rw [Int.toNat_natCast] at hcnt
  clear hrs
  go_enter Try.func33, Try.ntmps33
  go_wp2_with fail
  refine (made_all l a D (fun _ => h64) v rs hlen _ hal).mono ?_
  rintro e w1 ⟨hb, h⟩
  have hb' : Below w.heap.size w w1 := ((Below.refl _ w).alloc (Nat.le_refl _) _).next hb
  rcases h with ⟨g, b, m, rfl, hg0, hb0, hF, hBt, hap⟩ | ⟨rfl, hno⟩
  · rw [Int.toNat_natCast] at hF
    have c1 := hF.blk.cell 1
    have c2 := hF.blk.cell 2
    have hlt := hF.blk.lt
    have n1 : (0 : Int) ≤ (D : Int) := by omega
    have n2 : (D : Int) ≤ 64 := by omega
    have n3 : (0 : Int) ≤ ((pos rs).length : Int) := by omega
    have n4 : ((pos rs).length : Int) ≤ 64 := by omega
    have n5 : ¬ ((D : Int) - ((pos rs).length : Int) < (n : Int)) := by omega
    have n6 : (0 : Int) ≤ (n : Int) := by omega
    have HB := hide hb'
    have HF := hide (And.intro hF (And.intro hBt (And.intro hap (And.intro hg0 hb0))))
    have HN := hide (And.intro hn (And.intro hcnt hdd))
    clear hb hb' hF hBt hap hcnt hdd hal hn hg0 hb0
    dsimp only
    go_wp2_with fail
    go_quiet (fail)
    go_wp2_with fail
    have hL : Blk ((w1.drewN nq).alloc (.cells #[.int .i64 0, .int .i64 0] 88)) w1.heap.size 88 #[.int .i64 0, .int .i64 0] := Blk.new _ _ _
    have hb1 : Below w1.heap.size w1 ((w1.drewN nq).alloc (.cells #[.int .i64 0, .int .i64 0] 88)) := (below_drewN (Below.refl _ w1) nq).alloc (Nat.le_refl _) _
    have hs1 : ((w1.drewN nq).alloc (.cells #[.int .i64 0, .int .i64 0] 88)).heap.size = w1.heap.size + 1 := size_alloc _ _
    have ho1 : OwnRuns (w1.heap.size + 1) ((w1.drewN nq).alloc (.cells #[.int .i64 0, .int .i64 0] 88)) (.slice none 0 0) [] := ⟨World.ownsRow_nil _ _ _ _, fun r hr => by cases hr⟩
    have hAt : FindAt w ((w1.drewN nq).alloc (.cells #[.int .i64 0, .int .i64 0] 88)) (w1.heap.size + 1) w1.heap.size g b D rs m n 0 (.int .i64 (n : Int)) (.slice none 0 0) :=
      ⟨by omega, by simp [freeTo_zero], by simp [freeTo_zero], ho1, hL, HF.out.1.below hb1, by rw [hs1]; omega, ⟨by omega, by have := HF.out.1.lt; omega, by have := HF.out.1.lt; omega⟩, HB.out.next hb1, HB.out.size⟩
    generalize (w1.drewN nq).alloc (.cells #[.int .i64 0, .int .i64 0] 88) = W1 at hAt ⊢
    generalize w1.heap.size = L at hAt ⊢
    have HA := hide hAt
    clear hAt hL hb1 hs1 ho1 c1 c2 hlt
    go_loopw [1, 6, 10] (fun M O i wr => ∃ k : Nat, i = .int .i64 (k : Int) ∧ FindAt w wr (L + 1) L g b D rs m n k M O) (fun _ _ i _ => D - (intOf i).toNat)
    case atStart => exact ⟨0, rfl, HA.out⟩
    case round =>
      obtain ⟨k, rfl, hat⟩ := hrel
      have hG := gok rs k
      have HG := hide hG
      obtain ⟨l1, l2, l3⟩ := lastR_ok hG
      have hM := hat.many
      subst hM
      have hF := hat.field
      have hlt := hF.blk.lt
      have cL0 := hat.last.cell 0
      have cL1 := hat.last.cell 1
      have fL0 := hat.last.frozen 0
      have fL1 := hat.last.frozen 1
      have ltL := hat.last.lt
      have hkd := hat.kd
      have hlen2 := hat.len
      have HR := hide hat
      clear hat hG
      by_cases hfull : (freeTo rs k).length = n
      · have e0 : (n : Int) - ((freeTo rs k).length : Int) = 0 := by omega
        rw [e0]
        go_wp2_with fail
        refine bodyPost_ret (v := .tuple #[u6, .int .i64 0]) (by simp [results, Try.f33, go_sem]) rfl ⟨u6, rfl, ?_, HR.out.below⟩
        rw [findP_at HR.out.kd hfull]
        exact ⟨owned_baseN HR.out.own.1 fun h hh => by have := (owned_ltN HR.out.own.1 hh).1; have := HR.out.w0; omega, HR.out.own.2⟩
      · have hkD : k < D := by
          rcases Nat.lt_or_ge k D with h | h
          · exact h
          · obtain rfl : k = D := by omega
            have := HN.out.1
            omega
        have q1 : (0 : Int) < (n : Int) - ((freeTo rs k).length : Int) := by omega
        have q2 : (n : Int) - ((freeTo rs k).length : Int) ≤ 64 := by have := HN.out; omega
        have q3 : (k : Int) < 64 := by omega
        have q4 : (0 : Int) ≤ (k : Int) := by omega
        generalize hrem : (n : Int) - ((freeTo rs k).length : Int) = rem at q1 q2 ⊢
        have HREM := hide hrem
        clear hrem
        go_wp2_with fail
        refine (fhas_any k (by omega) wr HR.out.field HF.out.2.1.1).mono ?_
        rintro e w2 ⟨rfl, rfl⟩
        rw [HF.out.2.1.has k (by omega)]
        have hsucc := freeTo_succ rs k
        cases hc : (pos rs).contains k with
        | true =>
          rw [hc, if_pos rfl, List.append_nil] at hsucc
          dsimp only
          go_wp2_with fail
          have hr := HR.out
          refine ⟨⟨k + 1, by go_num, by omega, by rw [hsucc]; exact hr.len, by rw [hsucc, HREM.out], by rw [hsucc]; exact hr.own, by rw [hsucc]; exact hr.last, hr.field, hr.sz, hr.lt, hr.below, hr.w0⟩, by simp [intOf]; omega⟩
        | false =>
          rw [hc, if_neg (by simp)] at hsucc
          have hstep := grps_app (freeTo rs k) k
          rw [← hsucc] at hstep
          have hlen3 : (freeTo rs (k + 1)).length = (freeTo rs k).length + 1 := by rw [hsucc, List.length_append]; rfl
          by_cases pp : 0 < (lastR (grps (freeTo rs k))).2 ∧ (lastR (grps (freeTo rs k))).1 + (lastR (grps (freeTo rs k))).2 = (k : Int)
          · obtain ⟨p1, p2⟩ := pp
            · rw [grp, if_pos ⟨p1, p2⟩] at hstep
              obtain ⟨ini, r, hini⟩ : ∃ ini r, grps (freeTo rs k) = ini ++ [r] := by
                rcases List.eq_nil_or_concat (grps (freeTo rs k)) with h | ⟨i, r, h⟩
                · rw [h, lastR_nil] at p1
                  exact absurd p1 (by simp)
                · exact ⟨i, r, by rw [h, List.concat_eq_append]⟩
              have hown := HR.out.own
              rw [hini] at hown hstep
              rw [hini, lastR_app] at p1 p2 cL0 cL1 l1 l2 l3
              rw [lastR_app, List.dropLast_concat] at hstep
              obtain ⟨h, cap, rfl⟩ := owned_placeN hown.1 (by simp)
              have hth := own_there hown.1 (ini.length * 2) 2 (by simp; omega)
              have hh := owned_ltN hown.1 (g := h) rfl
              have hrng := own_range hown.1 (ini.length * 2) 2 [.int .i64 r.1, .int .i64 r.2] (by rw [runCells_app, List.drop_left' (runCells_len _)]; rfl)
              have d0 := hrng 0 _ rfl
              have d1 := hrng 1 _ rfl
              have hll : (ini ++ [r]).length = ini.length + 1 := by simp
              have hne : h ≠ L := by omega
              have hne2 : L ≠ h := by omega
              have hgl := HG.out.len
              rw [hini, hll] at hgl
              have HOWN := hide hown
              clear hown
              simp only [hll]
              have i1 : (0 : Int) ≤ (ini.length : Int) := by omega
              have i2 : (ini.length : Int) ≤ 64 := by omega
              have i3 : r.2 ≤ 64 := by omega
              have z1 := hth 0 (by omega)
              have z2 := hth 1 (by omega)
              have z3 := z1.2
              have z4 := z2.2
              rw [Nat.add_zero] at z3 d0
              clear z1 z2 hth hrng
              go_wp2_with fail
              have hr := HR.out
              have hown := HOWN.out
              have ho1 : OwnRuns (L + 1) (w2.setCell ⟨L, 1, none⟩ (.int .i64 (r.2 + 1))) (.slice (some ⟨h, 0, none⟩) (ini ++ [r]).length cap) (ini ++ [r]) := by
                refine ⟨?_, hown.2⟩
                refine owned_keepN hown.1 fun j hj _ => Below.heap_setCell _ _ _ _ ?_
                have hj : some h = some j := hj
                injection hj with hj
                show j ≠ L
                omega
              have ho1' := ho1.1
              rw [hll] at ho1'
              have ho2 := own_setCells ho1' (ini.length * 2) [.int .i64 r.1, .int .i64 (r.2 + 1)] (by simp; omega)
              rw [runCells_app, List.take_left' (runCells_len _), List.drop_eq_nil_of_le (by rw [List.length_append, runCells_len, runCells_len]; simp), List.append_nil] at ho2
              refine ⟨⟨k + 1, by go_num, ?_⟩, by simp [intOf]; omega⟩
              have hgrp : grp (grps (freeTo rs k)) k = ini ++ [(r.1, r.2 + 1)] := by rw [← grps_app, ← hsucc]; exact hstep
              rw [← HREM.out]
              refine hr.next hkD hfull hsucc ?_ ?_ ?_ ?_ ?_ ?_
              · rw [hgrp]
                refine ⟨?_, ?_⟩
                · rw [runCells_app, List.length_append]
                  exact ho2
                · intro q hq
                  rcases List.mem_append.1 hq with hq | hq
                  · exact hown.2 q (by simp [hq])
                  · obtain rfl := List.mem_singleton.1 hq
                    show (_ ∧ _) ∧ (_ ∧ _)
                    omega
              · rw [hgrp, lastR_app]
                have hbl := hr.last
                rw [hini, lastR_app] at hbl
                exact ((hbl.set_ 1 (.int .i64 (r.2 + 1))).far (by show L ≠ h; omega) _).far (by show L ≠ h; omega) _
              · have := hr.lt
                exact (Below.heap_setCell _ _ _ _ (by show g ≠ h; omega)).trans ((Below.heap_setCell _ _ _ _ (by show g ≠ h; omega)).trans (Below.heap_setCell _ _ _ _ (by show g ≠ L; omega)))
              · have := hr.lt
                exact (Below.heap_setCell _ _ _ _ (by show b ≠ h; omega)).trans ((Below.heap_setCell _ _ _ _ (by show b ≠ h; omega)).trans (Below.heap_setCell _ _ _ _ (by show b ≠ L; omega)))
              · simpa using hr.sz
              · have := hr.w0
                exact ((hr.below.setCell (by show w.heap.size ≤ L; omega) _).setCell (by show w.heap.size ≤ h; omega) _).setCell (by show w.heap.size ≤ h; omega) _
          · have hgrp : grp (grps (freeTo rs k)) k = grps (freeTo rs k) ++ [((k : Int), 1)] := if_neg pp
            have hr := HR.out
            have own1 : OwnRuns (L + 1) ((w2.setCell ⟨L, 0, none⟩ (.int .i64 (k : Int))).setCell ⟨L, 1, none⟩ (.int .i64 1)) u6 (grps (freeTo rs k)) := by
              refine ⟨owned_keepN hr.own.1 fun j hj _ => ?_, hr.own.2⟩
              have := (owned_ltN hr.own.1 hj).1
              exact (Below.heap_setCell _ _ _ _ (by show j ≠ L; omega)).trans (Below.heap_setCell _ _ _ _ (by show j ≠ L; omega))
            have hbl1 := (hr.last.set_ 0 (.int .i64 (k : Int))).set_ 1 (.int .i64 1)
            have hsz1 : ((w2.setCell ⟨L, 0, none⟩ (.int .i64 (k : Int))).setCell ⟨L, 1, none⟩ (.int .i64 1)).heap.size = w2.heap.size := by simp
            have hbe1 := (hr.below.setCell (p := ⟨L, 0, none⟩) (by have := hr.w0; exact this) (.int .i64 (k : Int))).setCell (p := ⟨L, 1, none⟩) (by have := hr.w0; exact this) (.int .i64 1)
            have hoth : ∀ j, j ≠ L → ((w2.setCell ⟨L, 0, none⟩ (.int .i64 (k : Int))).setCell ⟨L, 1, none⟩ (.int .i64 1)).heap[j]? = w2.heap[j]? := fun j hj =>
              (Below.heap_setCell _ _ _ _ hj).trans (Below.heap_setCell _ _ _ _ hj)
            have hgl := HG.out.len
            have hcells : ∀ j r, [((k : Int), (1 : Int))][j]? = some r → (((w2.setCell ⟨L, 0, none⟩ (.int .i64 (k : Int))).setCell ⟨L, 1, none⟩ (.int .i64 1)).alloc (.cells #[.int .i64 (k : Int), .int .i64 1] 88)).cell? ⟨w2.heap.size, 0 + j * 2, none⟩ = some (.int .i64 r.1) ∧ (((w2.setCell ⟨L, 0, none⟩ (.int .i64 (k : Int))).setCell ⟨L, 1, none⟩ (.int .i64 1)).alloc (.cells #[.int .i64 (k : Int), .int .i64 1] 88)).cell? ⟨w2.heap.size, 0 + j * 2 + 1, none⟩ = some (.int .i64 r.2) := by
              intro j r hj
              have hb := Blk.new ((w2.setCell ⟨L, 0, none⟩ (.int .i64 (k : Int))).setCell ⟨L, 1, none⟩ (.int .i64 1)) 88 #[.int .i64 (k : Int), .int .i64 1]
              rw [hsz1] at hb
              cases j with
              | zero =>
                injection hj with hj
                subst hj
                exact ⟨hb.cell 0, hb.cell 1⟩
              | succ j => simp at hj
            obtain ⟨v', w', happ, hown', hgr', hbe'⟩ := own1.app (news := [((k : Int), 1)]) (by rw [hsz1]; exact hr.sz) ((Below.refl _ _).alloc (Nat.le_refl _) (.cells #[.int .i64 (k : Int), .int .i64 1] 88)) (by simp) (by simp; omega) w2.heap.size 0 hcells (by
              intro r hr'
              obtain rfl := List.mem_singleton.1 hr'
              show (_ ∧ _) ∧ (_ ∧ _)
              omega) 1
            have hfin : FindAt w w' (L + 1) L g b D rs m n (k + 1) (.int .i64 (rem - 1)) v' := by
              rw [← HREM.out]
              have := hr.lt
              refine hr.next hkD hfull hsucc ?_ ?_ ?_ ?_ ?_ ?_
              · rw [hgrp]
                exact hown'
              · rw [hgrp, lastR_app]
                exact (hbe'.block L (by omega)).trans hbl1
              · exact (hbe'.block g (by omega)).trans (hoth g (by omega))
              · exact (hbe'.block b (by omega)).trans (hoth b (by omega))
              · have := hbe'.size
                have := hr.sz
                omega
              · have := hr.w0
                exact hbe1.trans (hbe'.mono (by omega))
            have HFIN := hide (And.intro hfin happ)
            clear hfin happ hown' hgr' hbe' own1 hbl1 hsz1 hbe1 hoth hgl hcells hr hF hgrp hstep hlen3
            dsimp only
            by_cases p1 : 0 < (lastR (grps (freeTo rs k))).2
            · have p2 : ¬ (lastR (grps (freeTo rs k))).1 + (lastR (grps (freeTo rs k))).2 = (k : Int) := fun h => pp ⟨p1, h⟩
              clear pp
              go_wp2_with (at_builtin; refine wpList_value (o := ⟨some 67, _, _, _, _, _⟩) rfl v' w' (exec_append (o := ⟨some 67, _, _, _, _, _⟩) (.tmp 64) (.tmp 66) 73 rfl u6 (.slice (some ⟨w2.heap.size, 0, none⟩) 1 1) _ _ _ rfl rfl HFIN.out.2) ?_)
              exact ⟨⟨k + 1, by go_num, HFIN.out.1⟩, by simp [intOf]; omega⟩
            · clear pp
              go_wp2_with (at_builtin; refine wpList_value (o := ⟨some 67, _, _, _, _, _⟩) rfl v' w' (exec_append (o := ⟨some 67, _, _, _, _, _⟩) (.tmp 64) (.tmp 66) 73 rfl u6 (.slice (some ⟨w2.heap.size, 0, none⟩) 1 1) _ _ _ rfl rfl HFIN.out.2) ?_)
              exact ⟨⟨k + 1, by go_num, HFIN.out.1⟩, by simp [intOf]; omega⟩
  · exact absurd hap hno
def findE (l a d : Int) (rs : List Run) (n : Int) : Int := if apartP l a d rs ∧ 0 ≤ n then (if ((freeTo rs d.toNat).length : Int) < n then 7 else 0) else 2
def findR (l a d : Int) (rs : List Run) (n : Int) : List Run := if findE l a d rs n = 0 then findP rs d.toNat n.toNat else []
theorem ownRuns_nil (B : Nat) (w : World) : OwnRuns B w (.slice none 0 0) [] := ⟨World.ownsRow_nil _ _ _ _, fun r hr => by cases hr⟩
theorem lfind_any (l a d : Int) (h64 : rightP l a d → d ≤ 64) (v : Value) (rs : List Run) (hlen : rs.length ≤ 1000000) (n : Int) (w : World) (hrs : RunsM w w.heap.size v rs) :
    Calls Try.prog 33 #[.agg #[.int .i64 l, .int .i64 a, .int .i64 d], .int .i64 n, v] w fun e w' => ∃ o, e = .returned (.tuple #[o, .int .i64 (findE l a d rs n)]) ∧ OwnRuns w.heap.size w' o (findR l a d rs n) ∧ Below w.heap.size w w' := by
  by_cases hap : apartP l a d rs
  · by_cases hn : 0 ≤ n
    · by_cases hf : ((freeTo rs d.toNat).length : Int) < n
      · have hE : findE l a d rs n = 7 := by rw [findE, if_pos ⟨hap, hn⟩, if_pos hf]
        have hR : findR l a d rs n = [] := by rw [findR, hE]; rfl
        rw [hE, hR]
        have hal := hrs.below ((Below.refl _ w).alloc (Nat.le_refl _) (.cells #[.int .i64 l, .int .i64 a, .int .i64 d] 64))
        have hcnt := apart_count hap
        have hdd := apart_d hap
        clear hrs hE hR
        go_enter Try.func33, Try.ntmps33
        go_wp2_with fail
        refine (made_all l a d h64 v rs hlen _ hal).mono ?_
        rintro e w1 ⟨hb, h⟩
        have hb' : Below w.heap.size w w1 := ((Below.refl _ w).alloc (Nat.le_refl _) _).next hb
        rcases h with ⟨g, b, m, rfl, hg0, hb0, hF, hBt, _⟩ | ⟨rfl, hno⟩
        · have c1 := hF.blk.cell 1
          have c2 := hF.blk.cell 2
          have hlt := hF.blk.lt
          have n1 : (0 : Int) ≤ (d.toNat : Int) := by omega
          have n2 : (d.toNat : Int) ≤ 8192 := by omega
          have n3 : (0 : Int) ≤ ((pos rs).length : Int) := by omega
          have n4 : ((pos rs).length : Int) ≤ 8192 := by omega
          have n5 : (d.toNat : Int) - ((pos rs).length : Int) < n := by omega
          have HB := hide hb'
          generalize (d.toNat : Int) = D at c1 n1 n2 n5
          clear hb hb' hF hBt hap hcnt hdd hal hf hg0 hb0
          dsimp only
          go_wp2_with fail
          go_quiet (fail)
          go_wp2_with fail
          refine bodyPost_ret (v := .tuple #[.slice none 0 0, .int .i64 7]) (by simp [results, Try.f33, go_sem]) rfl ⟨_, rfl, ownRuns_nil _ _, below_drewN HB.out _⟩
        · exact absurd hap hno
      · have hE : findE l a d rs n = 0 := by rw [findE, if_pos ⟨hap, hn⟩, if_neg hf]
        have hR : findR l a d rs n = findP rs d.toNat n.toNat := by rw [findR, hE]; rfl
        rw [hE, hR]
        have h := lfind_ok l a d (h64 hap.1) v rs hlen hap n.toNat (by omega) w hrs
        rwa [Int.toNat_of_nonneg hn] at h
    · have hE : findE l a d rs n = 2 := by rw [findE, if_neg (fun h => hn h.2)]
      have hR : findR l a d rs n = [] := by rw [findR, hE]; rfl
      rw [hE, hR]
      have hal := hrs.below ((Below.refl _ w).alloc (Nat.le_refl _) (.cells #[.int .i64 l, .int .i64 a, .int .i64 d] 64))
      clear hrs hE hR
      go_enter Try.func33, Try.ntmps33
      go_wp2_with fail
      refine (made_all l a d h64 v rs hlen _ hal).mono ?_
      rintro e w1 ⟨hb, h⟩
      have HB : Hid (Below w.heap.size w w1) := hide (((Below.refl _ w).alloc (Nat.le_refl _) _).next hb)
      rcases h with ⟨g, b, m, rfl, _⟩ | ⟨rfl, hno⟩
      · clear hb hal hap
        dsimp only
        go_wp2_with fail
        refine bodyPost_ret (v := .tuple #[.slice none 0 0, .int .i64 2]) (by simp [results, Try.f33, go_sem]) rfl ⟨_, rfl, ownRuns_nil _ _, HB.out⟩
      · exact absurd hap hno
  · have hE : findE l a d rs n = 2 := by rw [findE, if_neg (fun h => hap h.1)]
    have hR : findR l a d rs n = [] := by rw [findR, hE]; rfl
    rw [hE, hR]
    have hal := hrs.below ((Below.refl _ w).alloc (Nat.le_refl _) (.cells #[.int .i64 l, .int .i64 a, .int .i64 d] 64))
    clear hrs hE hR
    go_enter Try.func33, Try.ntmps33
    go_wp2_with fail
    refine (made_all l a d h64 v rs hlen _ hal).mono ?_
    rintro e w1 ⟨hb, h⟩
    have HB : Hid (Below w.heap.size w w1) := hide (((Below.refl _ w).alloc (Nat.le_refl _) _).next hb)
    rcases h with ⟨g, b, m, rfl, _, _, _, _, h⟩ | ⟨rfl, hno⟩
    · exact absurd h hap
    · clear hb hal hap
      dsimp only
      go_wp2_with fail
      refine bodyPost_ret (v := .tuple #[.slice none 0 0, .int .i64 2]) (by simp [results, Try.f33, go_sem]) rfl ⟨_, rfl, ownRuns_nil _ _, HB.out⟩
end Go.Proofs.Ytfppddnfdinipaa
end
section
namespace Go.Proofs.Ytfppddnfdinipaa
open Go Go.RowKit
set_option maxRecDepth 100000
theorem field_stat (a b c : Int) (d : Bool) (w : World) : (Instr.field 181 (.agg #[.int .i64 a, .int .i64 b, .int .i64 c, .bool d]) 0).run Try.prog w = .ok (.int .i64 a) w := by kernel_rfl
/-- what suits tells: K: the device's sectors -/
def suitsE (K : Nat) (l a d n : Int) (rs : List Run) : Int := if apartP l a d rs ∧ 0 ≤ n ∧ ((pos rs).length : Int) = needP n ∧ secs l a d ≤ (K : Int) then 0 else 2
set_option maxHeartbeats 2000000 in
theorem suits_any {D : Dv} {F : Nat → Prop} {q : Nat} (l a d : Int) (h64 : rightP l a d → d ≤ 64) (n : Int) (hn : -9223372036854775808 ≤ n ∧ n ≤ 9223372036854775807) (v : Value) (rs : List Run) (hlen : rs.length ≤ 1000000) (w : World) (hrs : RunsM w w.heap.size v rs) (hd : DevAt w F q D) :
    Calls Try.prog 64 #[.pointer (some ⟨q, 0, none⟩), .agg #[.int .i64 l, .int .i64 a, .int .i64 d], .int .i64 n, v] w fun e w' => e = .returned (.int .i64 (suitsE D.kept.length l a d n rs)) ∧ Below w.heap.size w w' := by
  have hk1 : 1 ≤ D.kept.length := by obtain ⟨_, _, _, _, _, _, _, hok⟩ := hd; exact hok.n1
  have hk2 : D.kept.length ≤ 8192 := by obtain ⟨_, _, _, _, _, _, _, hok⟩ := hd; exact hok.n2
  obtain ⟨S, hS⟩ : ∃ S, S = w.heap.size := ⟨_, rfl⟩
  have hb0 : Below w.heap.size w (w.alloc (.cells #[.int .i64 l, .int .i64 a, .int .i64 d] 64)) := (Below.refl _ w).alloc (Nat.le_refl _) _
  have H0 := hide (And.intro hrs (hd.keep fun k hk _ => hb0.block k hk))
  have HN := hide hn
  have h64' := hide h64
  clear hrs hd hn h64 hb0
  go_enter Try.func64, Try.ntmps64
  go_wp2_with fail
  refine (statDev_any _ H0.out.2).mono ?_
  rintro e w1 ⟨rfl, hb1⟩
  have hbw : Below w.heap.size w w1 := ((Below.refl _ w).alloc (Nat.le_refl _) (.cells #[.int .i64 l, .int .i64 a, .int .i64 d] 64)).next hb1
  have hsh : Blk w1 w.heap.size 64 #[.int .i64 l, .int .i64 a, .int .i64 d] := (Blk.new w _ _).below hb1 (by rw [size_alloc]; omega)
  rw [← hS] at hsh ⊢
  have c0 := hsh.cell 0
  have c1 := hsh.cell 1
  have c2 := hsh.cell 2
  have hlt := hsh.lt
  have H1 := hide (And.intro hsh (And.intro hbw (H0.out.1.below hbw)))
  have HSS := hide hS
  clear hb1 hbw hsh H0 hS
  have hfs := field_stat (D.kept.length : Int) (D.pend.length : Int) D.de D.dn
  generalize hK : D.kept.length = K at hk1 hk2 hfs ⊢
  have HK := hide hK
  clear hK
  have q1 : ¬ (K : Int) = 0 := by omega
  have q2 : (0 : Int) < (K : Int) := by omega
  dsimp only
  go_wp2_with fail
  refine (made_all l a d h64'.out v rs hlen _ H1.out.2.2).mono ?_
  rintro e w2 ⟨hb2, h⟩
  have HB : Hid (Below w.heap.size w w2) := hide (H1.out.2.1.next hb2)
  have hsh2 := H1.out.1.below hb2 H1.out.1.lt
  clear hb2 c0 c1 c2 hlt H1
  rcases h with ⟨g, b, m, rfl, _, _, hF, _, hap⟩ | ⟨rfl, hap⟩
  · have HS := hide (And.intro hF hsh2)
    have c2 := hF.blk.cell 2
    have hlt := hF.blk.lt
    clear hF hsh2
    dsimp only
    by_cases hn0 : 0 ≤ n
    · have n1 : ¬ n < 0 := by omega
      by_cases hne : needP n = ((pos rs).length : Int)
      · go_wp2_with fail
        by_cases hsec : secs l a d ≤ (K : Int)
        · have n2 : ¬ (K : Int) < secs l a d := by omega
          have hE : suitsE K l a d n rs = 0 := if_pos ⟨hap, hn0, hne.symm, hsec⟩
          clear hap
          refine wp_made 20 [] (by kernel_rfl) (by kernel_rfl) (by intro p hp; cases hp) List.nodup_nil (by intro t ht; cases ht) ?_
          simp only [List.take_succ_cons, List.take_zero, List.drop_succ_cons, List.drop_zero]
          refine made_val (.pointer (some ⟨g, 0, none⟩)) (by kernel_rfl) (by kernel_rfl) (by kernel_rfl) (fun _ _ => by kernel_rfl) ?_
          simp only [Act.put, List.setIfInBounds_toArray, List.set_cons_zero, List.set_cons_succ]
          refine made_val (.bool false) (by kernel_rfl) (by kernel_rfl) (by kernel_rfl) (fun _ _ => by kernel_rfl) ?_
          simp only [Act.put, List.setIfInBounds_toArray, List.set_cons_zero, List.set_cons_succ]
          refine made_val (.bool false) (by kernel_rfl) (by kernel_rfl) (by kernel_rfl) (fun _ _ => by kernel_rfl) ?_
          simp only [Act.put, List.setIfInBounds_toArray, List.set_cons_zero, List.set_cons_succ]
          refine made_val (.int .i64 n) (by kernel_rfl) (by kernel_rfl) (by kernel_rfl) (fun _ _ => by kernel_rfl) ?_
          simp only [Act.put, List.setIfInBounds_toArray, List.set_cons_zero, List.set_cons_succ]
          refine made_val (.bool false) (by kernel_rfl) (by kernel_rfl) (by kernel_rfl) (fun W hW => ?hs1) ?_
          case hs1 => go_simp
          simp only [Act.put, List.setIfInBounds_toArray, List.set_cons_zero, List.set_cons_succ]
          refine made_val (.bool false) (by kernel_rfl) (by kernel_rfl) (by kernel_rfl) (fun _ _ => by kernel_rfl) ?_
          simp only [Act.put, List.setIfInBounds_toArray, List.set_cons_zero, List.set_cons_succ]
          refine made_val (.bool false) (by kernel_rfl) (by kernel_rfl) (by kernel_rfl) (fun _ _ => by kernel_rfl) ?_
          simp only [Act.put, List.setIfInBounds_toArray, List.set_cons_zero, List.set_cons_succ]
          refine made_val (.pointer (some ⟨g, 0, none⟩)) (by kernel_rfl) (by kernel_rfl) (by kernel_rfl) (fun _ _ => by kernel_rfl) ?_
          simp only [Act.put, List.setIfInBounds_toArray, List.set_cons_zero, List.set_cons_succ]
          refine made_val (.pointer (some ⟨g, 0, none⟩)) (by kernel_rfl) (by kernel_rfl) (by kernel_rfl) (fun _ _ => by kernel_rfl) ?_
          simp only [Act.put, List.setIfInBounds_toArray, List.set_cons_zero, List.set_cons_succ]
          refine made_val (.pointer (some ⟨g, 2, none⟩)) (by kernel_rfl) (by kernel_rfl) (by kernel_rfl) (fun _ _ => by kernel_rfl) ?_
          simp only [Act.put, List.setIfInBounds_toArray, List.set_cons_zero, List.set_cons_succ]
          refine made_val (.int .i64 ((pos rs).length : Int)) (by kernel_rfl) (by kernel_rfl) (by kernel_rfl) (fun W hW => exec_load_cell (o := ⟨some 29, _, _, _, _, _⟩) 3 (.tmp 28) rfl ⟨g, 2, none⟩ rfl _ _ W Try.underlying3 rfl ((HS.out.1.blk.below hW HS.out.1.blk.lt).cell 2)) ?_
          simp only [Act.put, List.setIfInBounds_toArray, List.set_cons_zero, List.set_cons_succ]
          refine made_val (.int .i64 n) (by kernel_rfl) (by kernel_rfl) (by kernel_rfl) (fun _ _ => by kernel_rfl) ?_
          simp only [Act.put, List.setIfInBounds_toArray, List.set_cons_zero, List.set_cons_succ]
          refine made_call (.int .i64 ((pos rs).length : Int)) 34 #[.int .i64 n] (by kernel_rfl) (by kernel_rfl) (by kernel_rfl) (fun W => by kernel_rfl) (fun W hW => (need_any n HN.out W).mono fun e w' ⟨h1, h2⟩ => ⟨by rw [h1, hne], by rw [h2]; exact Below.refl _ _⟩) ?_
          simp only [Act.put, List.setIfInBounds_toArray, List.set_cons_zero, List.set_cons_succ]
          refine made_val (.bool false) (by kernel_rfl) (by kernel_rfl) (by kernel_rfl) (fun W hW => ?hs2) ?_
          case hs2 => go_simp
          simp only [Act.put, List.setIfInBounds_toArray, List.set_cons_zero, List.set_cons_succ]
          refine made_val (.bool false) (by kernel_rfl) (by kernel_rfl) (by kernel_rfl) (fun _ _ => by kernel_rfl) ?_
          simp only [Act.put, List.setIfInBounds_toArray, List.set_cons_zero, List.set_cons_succ]
          refine made_val (.bool false) (by kernel_rfl) (by kernel_rfl) (by kernel_rfl) (fun _ _ => by kernel_rfl) ?_
          simp only [Act.put, List.setIfInBounds_toArray, List.set_cons_zero, List.set_cons_succ]
          refine made_val (.int .i64 (K : Int)) (by kernel_rfl) (by kernel_rfl) (by kernel_rfl) (fun _ _ => by kernel_rfl) ?_
          simp only [Act.put, List.setIfInBounds_toArray, List.set_cons_zero, List.set_cons_succ]
          refine made_val (.agg #[.int .i64 l, .int .i64 a, .int .i64 d]) (by kernel_rfl) (by kernel_rfl) (by kernel_rfl) (fun W hW => exec_load_blk (o := ⟨some 36, _, _, _, _, _⟩) 64 (.tmp 5) rfl S rfl 64 _ _ W (HS.out.2.below hW HS.out.2.lt) Try.underlying64 rfl (by kernel_rfl)) ?_
          simp only [Act.put, List.setIfInBounds_toArray, List.set_cons_zero, List.set_cons_succ]
          refine made_call (.int .i64 (secs l a d)) 30 #[.agg #[.int .i64 l, .int .i64 a, .int .i64 d]] (by kernel_rfl) (by kernel_rfl) (by kernel_rfl) (fun W => by kernel_rfl) (fun W hW => lsecs_any l a d W) ?_
          simp only [Act.put, List.setIfInBounds_toArray, List.set_cons_zero, List.set_cons_succ]
          refine made_val (.bool false) (by kernel_rfl) (by kernel_rfl) (by kernel_rfl) (fun W hW => ?hs3) ?_
          case hs3 => go_simp
          simp only [Act.put, List.setIfInBounds_toArray, List.set_cons_zero, List.set_cons_succ]
          show ∀ w', _ → _
          intro w5 hb5
          simp only [ended]
          have H5 := hide (HB.out.next hb5)
          clear hb5
          go_wp2_with fail
          go_ret
          rw [HK.out, hE]
          exact ⟨rfl, H5.out⟩
        · have n2 : (K : Int) < secs l a d := by omega
          have hE : suitsE K l a d n rs = 2 := if_neg fun h => hsec h.2.2.2
          clear hap
          refine wp_made 20 [] (by kernel_rfl) (by kernel_rfl) (by intro p hp; cases hp) List.nodup_nil (by intro t ht; cases ht) ?_
          simp only [List.take_succ_cons, List.take_zero, List.drop_succ_cons, List.drop_zero]
          refine made_val (.pointer (some ⟨g, 0, none⟩)) (by kernel_rfl) (by kernel_rfl) (by kernel_rfl) (fun _ _ => by kernel_rfl) ?_
          simp only [Act.put, List.setIfInBounds_toArray, List.set_cons_zero, List.set_cons_succ]
          refine made_val (.bool false) (by kernel_rfl) (by kernel_rfl) (by kernel_rfl) (fun _ _ => by kernel_rfl) ?_
          simp only [Act.put, List.setIfInBounds_toArray, List.set_cons_zero, List.set_cons_succ]
          refine made_val (.bool false) (by kernel_rfl) (by kernel_rfl) (by kernel_rfl) (fun _ _ => by kernel_rfl) ?_
          simp only [Act.put, List.setIfInBounds_toArray, List.set_cons_zero, List.set_cons_succ]
          refine made_val (.int .i64 n) (by kernel_rfl) (by kernel_rfl) (by kernel_rfl) (fun _ _ => by kernel_rfl) ?_
          simp only [Act.put, List.setIfInBounds_toArray, List.set_cons_zero, List.set_cons_succ]
          refine made_val (.bool false) (by kernel_rfl) (by kernel_rfl) (by kernel_rfl) (fun W hW => ?hs1) ?_
          case hs1 => go_simp
          simp only [Act.put, List.setIfInBounds_toArray, List.set_cons_zero, List.set_cons_succ]
          refine made_val (.bool false) (by kernel_rfl) (by kernel_rfl) (by kernel_rfl) (fun _ _ => by kernel_rfl) ?_
          simp only [Act.put, List.setIfInBounds_toArray, List.set_cons_zero, List.set_cons_succ]
          refine made_val (.bool false) (by kernel_rfl) (by kernel_rfl) (by kernel_rfl) (fun _ _ => by kernel_rfl) ?_
          simp only [Act.put, List.setIfInBounds_toArray, List.set_cons_zero, List.set_cons_succ]
          refine made_val (.pointer (some ⟨g, 0, none⟩)) (by kernel_rfl) (by kernel_rfl) (by kernel_rfl) (fun _ _ => by kernel_rfl) ?_
          simp only [Act.put, List.setIfInBounds_toArray, List.set_cons_zero, List.set_cons_succ]
          refine made_val (.pointer (some ⟨g, 0, none⟩)) (by kernel_rfl) (by kernel_rfl) (by kernel_rfl) (fun _ _ => by kernel_rfl) ?_
          simp only [Act.put, List.setIfInBounds_toArray, List.set_cons_zero, List.set_cons_succ]
          refine made_val (.pointer (some ⟨g, 2, none⟩)) (by kernel_rfl) (by kernel_rfl) (by kernel_rfl) (fun _ _ => by kernel_rfl) ?_
          simp only [Act.put, List.setIfInBounds_toArray, List.set_cons_zero, List.set_cons_succ]
          refine made_val (.int .i64 ((pos rs).length : Int)) (by kernel_rfl) (by kernel_rfl) (by kernel_rfl) (fun W hW => exec_load_cell (o := ⟨some 29, _, _, _, _, _⟩) 3 (.tmp 28) rfl ⟨g, 2, none⟩ rfl _ _ W Try.underlying3 rfl ((HS.out.1.blk.below hW HS.out.1.blk.lt).cell 2)) ?_
          simp only [Act.put, List.setIfInBounds_toArray, List.set_cons_zero, List.set_cons_succ]
          refine made_val (.int .i64 n) (by kernel_rfl) (by kernel_rfl) (by kernel_rfl) (fun _ _ => by kernel_rfl) ?_
          simp only [Act.put, List.setIfInBounds_toArray, List.set_cons_zero, List.set_cons_succ]
          refine made_call (.int .i64 ((pos rs).length : Int)) 34 #[.int .i64 n] (by kernel_rfl) (by kernel_rfl) (by kernel_rfl) (fun W => by kernel_rfl) (fun W hW => (need_any n HN.out W).mono fun e w' ⟨h1, h2⟩ => ⟨by rw [h1, hne], by rw [h2]; exact Below.refl _ _⟩) ?_
          simp only [Act.put, List.setIfInBounds_toArray, List.set_cons_zero, List.set_cons_succ]
          refine made_val (.bool false) (by kernel_rfl) (by kernel_rfl) (by kernel_rfl) (fun W hW => ?hs2) ?_
          case hs2 => go_simp
          simp only [Act.put, List.setIfInBounds_toArray, List.set_cons_zero, List.set_cons_succ]
          refine made_val (.bool false) (by kernel_rfl) (by kernel_rfl) (by kernel_rfl) (fun _ _ => by kernel_rfl) ?_
          simp only [Act.put, List.setIfInBounds_toArray, List.set_cons_zero, List.set_cons_succ]
          refine made_val (.bool false) (by kernel_rfl) (by kernel_rfl) (by kernel_rfl) (fun _ _ => by kernel_rfl) ?_
          simp only [Act.put, List.setIfInBounds_toArray, List.set_cons_zero, List.set_cons_succ]
          refine made_val (.int .i64 (K : Int)) (by kernel_rfl) (by kernel_rfl) (by kernel_rfl) (fun _ _ => by kernel_rfl) ?_
          simp only [Act.put, List.setIfInBounds_toArray, List.set_cons_zero, List.set_cons_succ]
          refine made_val (.agg #[.int .i64 l, .int .i64 a, .int .i64 d]) (by kernel_rfl) (by kernel_rfl) (by kernel_rfl) (fun W hW => exec_load_blk (o := ⟨some 36, _, _, _, _, _⟩) 64 (.tmp 5) rfl S rfl 64 _ _ W (HS.out.2.below hW HS.out.2.lt) Try.underlying64 rfl (by kernel_rfl)) ?_
          simp only [Act.put, List.setIfInBounds_toArray, List.set_cons_zero, List.set_cons_succ]
          refine made_call (.int .i64 (secs l a d)) 30 #[.agg #[.int .i64 l, .int .i64 a, .int .i64 d]] (by kernel_rfl) (by kernel_rfl) (by kernel_rfl) (fun W => by kernel_rfl) (fun W hW => lsecs_any l a d W) ?_
          simp only [Act.put, List.setIfInBounds_toArray, List.set_cons_zero, List.set_cons_succ]
          refine made_val (.bool true) (by kernel_rfl) (by kernel_rfl) (by kernel_rfl) (fun W hW => ?hs3) ?_
          case hs3 => go_simp
          simp only [Act.put, List.setIfInBounds_toArray, List.set_cons_zero, List.set_cons_succ]
          show ∀ w', _ → _
          intro w5 hb5
          simp only [ended]
          have H5 := hide (HB.out.next hb5)
          clear hb5
          go_wp2_with fail
          go_ret
          rw [HK.out, hE]
          exact ⟨rfl, H5.out⟩
      · have hE : suitsE K l a d n rs = 2 := if_neg fun h => hne h.2.2.1.symm
        have n2 : ¬ ((pos rs).length : Int) = needP n := fun h => hne h.symm
        clear hap
        go_wp2_with fail
        go_quiet ((go_at_call 34; exact Calls.quiet_of_same (need_any n HN.out _)))
        go_wp2_with fail
        go_ret
        rw [HK.out, hE]
        exact ⟨rfl, below_drewN HB.out _⟩
    · have hE : suitsE K l a d n rs = 2 := if_neg fun h => hn0 h.2.1
      have n1 : n < 0 := by omega
      clear hap
      go_wp2_with fail
      go_quiet (fail)
      go_wp2_with fail
      go_ret
      rw [HK.out, hE]
      exact ⟨rfl, below_drewN HB.out _⟩
  · have hE : suitsE K l a d n rs = 2 := if_neg fun h => hap h.1
    clear hap hsh2
    dsimp only
    go_wp2_with fail
    go_quiet (fail)
    go_wp2_with fail
    go_ret
    rw [HK.out, hE]
    exact ⟨rfl, below_drewN HB.out _⟩
end Go.Proofs.Ytfppddnfdinipaa
end
