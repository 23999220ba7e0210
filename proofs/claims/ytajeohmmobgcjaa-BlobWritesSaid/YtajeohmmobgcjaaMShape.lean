/- spenceref05, package log: shapes. package log: how a shape lies. package blob: runs in memory; which sectors they have. -/
import Derived.Test.YtajeohmmobgcjaaMBytes
import Derived.Test.YtajeohmmobgcjaaMBase
import Derived.LoopN
import Derived.Test.YtajeohmmobgcjaaMGrow
section
namespace Go.Proofs.Ytajeohmmobgcjaa
open Go Go.RowKit
set_option maxRecDepth 100000
def inW (n : Int) : Prop := 1 ≤ n ∧ n ≤ 8192
instance (n : Int) : Decidable (inW n) := by unfold inW; exact inferInstance
def rightP (l a d : Int) : Prop := inW l ∧ inW a ∧ inW d ∧ 1 + l + 2 * a + d ≤ 8192
instance (l a d : Int) : Decidable (rightP l a d) := by unfold rightP; exact inferInstance
theorem within_any (n : Int) (w : World) : Calls Try.prog 78 #[.int .i64 n] w fun e w' => e = .returned (.bool (decide (inW n))) ∧ w' = w := by
  by_cases h1 : 1 ≤ n
  · by_cases h2 : n ≤ 8192
    · rw [decide_eq_true (show inW n from ⟨h1, h2⟩)]
      go_enter Try.func78, Try.ntmps78
      go_wp2
      go_ret
      exact ⟨rfl, rfl⟩
    · rw [decide_eq_false (show ¬ inW n from fun h => h2 h.2)]
      go_enter Try.func78, Try.ntmps78
      go_wp2
      go_ret
      exact ⟨rfl, rfl⟩
  · rw [decide_eq_false (show ¬ inW n from fun h => h1 h.1)]
    go_enter Try.func78, Try.ntmps78
    go_wp2
    go_ret
    exact ⟨rfl, rfl⟩
theorem within_yes {n : Int} (h : inW n) (w : World) : Calls Try.prog 78 #[.int .i64 n] w fun e w' => e = .returned (.bool true) ∧ w' = w := by
  have := within_any n w
  rwa [decide_eq_true h] at this
theorem within_no {n : Int} (h : ¬ inW n) (w : World) : Calls Try.prog 78 #[.int .i64 n] w fun e w' => e = .returned (.bool false) ∧ w' = w := by
  have := within_any n w
  rwa [decide_eq_false h] at this
theorem rright_any (l a d : Int) (w : World) : Calls Try.prog 51 #[.agg #[.int .i64 l, .int .i64 a, .int .i64 d]] w fun e w' => e = .returned (.bool (decide (rightP l a d))) ∧ w' = w.alloc (.cells #[.int .i64 l, .int .i64 a, .int .i64 d] 23) := by
  by_cases h1 : inW l
  · by_cases h2 : inW a
    · by_cases h3 : inW d
      · obtain ⟨a1, a2⟩ := h1
        obtain ⟨b1, b2⟩ := h2
        obtain ⟨c1, c2⟩ := h3
        by_cases h4 : 1 + l + 2 * a + d ≤ 8192
        · rw [decide_eq_true (show rightP l a d from ⟨⟨a1, a2⟩, ⟨b1, b2⟩, ⟨c1, c2⟩, h4⟩)]
          go_enter Try.func51, Try.ntmps51
          go_wp2_with fail
          refine (within_yes ⟨a1, a2⟩ _).mono ?_
          rintro e w' ⟨rfl, rfl⟩
          dsimp only
          go_wp2_with fail
          refine (within_yes ⟨b1, b2⟩ _).mono ?_
          rintro e w' ⟨rfl, rfl⟩
          dsimp only
          go_wp2_with fail
          refine (within_yes ⟨c1, c2⟩ _).mono ?_
          rintro e w' ⟨rfl, rfl⟩
          dsimp only
          go_wp2_with fail
          go_ret
          exact ⟨rfl, rfl⟩
        · rw [decide_eq_false (show ¬ rightP l a d from fun h => h4 h.2.2.2)]
          go_enter Try.func51, Try.ntmps51
          go_wp2_with fail
          refine (within_yes ⟨a1, a2⟩ _).mono ?_
          rintro e w' ⟨rfl, rfl⟩
          dsimp only
          go_wp2_with fail
          refine (within_yes ⟨b1, b2⟩ _).mono ?_
          rintro e w' ⟨rfl, rfl⟩
          dsimp only
          go_wp2_with fail
          refine (within_yes ⟨c1, c2⟩ _).mono ?_
          rintro e w' ⟨rfl, rfl⟩
          dsimp only
          go_wp2_with fail
          go_ret
          exact ⟨(congrArg (fun b => Ending.returned (Value.bool b)) (decide_eq_false (show ¬ (1 + l + 2 * a + d ≤ 8192) by omega)) :), rfl⟩
      · rw [decide_eq_false (show ¬ rightP l a d from fun h => h3 h.2.2.1)]
        go_enter Try.func51, Try.ntmps51
        go_wp2_with fail
        refine (within_yes h1 _).mono ?_
        rintro e w' ⟨rfl, rfl⟩
        dsimp only
        go_wp2_with fail
        refine (within_yes h2 _).mono ?_
        rintro e w' ⟨rfl, rfl⟩
        dsimp only
        go_wp2_with fail
        refine (within_no h3 _).mono ?_
        rintro e w' ⟨rfl, rfl⟩
        dsimp only
        go_wp2_with fail
        go_ret
        exact ⟨rfl, rfl⟩
    · rw [decide_eq_false (show ¬ rightP l a d from fun h => h2 h.2.1)]
      go_enter Try.func51, Try.ntmps51
      go_wp2_with fail
      refine (within_yes h1 _).mono ?_
      rintro e w' ⟨rfl, rfl⟩
      dsimp only
      go_wp2_with fail
      refine (within_no h2 _).mono ?_
      rintro e w' ⟨rfl, rfl⟩
      dsimp only
      go_wp2_with fail
      go_ret
      exact ⟨rfl, rfl⟩
  · rw [decide_eq_false (show ¬ rightP l a d from fun h => h1 h.1)]
    go_enter Try.func51, Try.ntmps51
    go_wp2_with fail
    refine (within_no h1 _).mono ?_
    rintro e w' ⟨rfl, rfl⟩
    dsimp only
    go_wp2_with fail
    go_ret
    exact ⟨rfl, rfl⟩
/-- how many sectors; where the data begins -/
def secs (l a d : Int) : Int := if rightP l a d then 1 + l + 2 * a + d else 0
def firstS (l a d : Int) : Int := if rightP l a d then 1 + l + 2 * a else 0
theorem rsecs_any (l a d : Int) (w : World) : Calls Try.prog 12 #[.agg #[.int .i64 l, .int .i64 a, .int .i64 d]] w fun e w' => e = .returned (.int .i64 (secs l a d)) ∧ Below w.heap.size w w' := by
  by_cases h : rightP l a d
  · have hr := decide_eq_true h
    rw [secs, if_pos h]
    obtain ⟨⟨a1, a2⟩, ⟨b1, b2⟩, ⟨c1, c2⟩, h4⟩ := h
    go_enter Try.func12, Try.ntmps12
    go_wp2_with fail
    refine (rright_any l a d _).mono ?_
    rintro e w' ⟨rfl, rfl⟩
    rw [hr]
    dsimp only
    go_wp2_with fail
    go_ret
    exact ⟨rfl, ((Below.refl _ w).alloc (Nat.le_refl _) _).alloc (by rw [size_alloc]; omega) _⟩
  · have hr := decide_eq_false h
    rw [secs, if_neg h]
    go_enter Try.func12, Try.ntmps12
    go_wp2_with fail
    refine (rright_any l a d _).mono ?_
    rintro e w' ⟨rfl, rfl⟩
    rw [hr]
    dsimp only
    go_wp2_with fail
    go_ret
    exact ⟨rfl, ((Below.refl _ w).alloc (Nat.le_refl _) _).alloc (by rw [size_alloc]; omega) _⟩
theorem ix4 (p q r s : Int) (w : World) : (Instr.index 117 (.agg #[.int .i64 p, .int .i64 q, .int .i64 r, .int .i64 s]) (.int .i64 0)).run Try.prog w = .ok (.int .i64 p) w ∧ (Instr.index 117 (.agg #[.int .i64 p, .int .i64 q, .int .i64 r, .int .i64 s]) (.int .i64 1)).run Try.prog w = .ok (.int .i64 q) w ∧
    (Instr.index 117 (.agg #[.int .i64 p, .int .i64 q, .int .i64 r, .int .i64 s]) (.int .i64 2)).run Try.prog w = .ok (.int .i64 r) w ∧ (Instr.index 117 (.agg #[.int .i64 p, .int .i64 q, .int .i64 r, .int .i64 s]) (.int .i64 3)).run Try.prog w = .ok (.int .i64 s) w := ⟨by kernel_rfl, by kernel_rfl, by kernel_rfl, by kernel_rfl⟩
set_option maxHeartbeats 2000000 in
theorem lright_any (l a d : Int) (w : World) : Calls Try.prog 41 #[.agg #[.int .i64 l, .int .i64 a, .int .i64 d]] w fun e w' => e = .returned (.bool (decide (rightP l a d))) ∧ w' = w.alloc (.cells #[.int .i64 l, .int .i64 a, .int .i64 d] 23) := by
  have i0 := fun w => (ix4 l a a d w).1
  have i1 := fun w => (ix4 l a a d w).2.1
  have i2 := fun w => (ix4 l a a d w).2.2.1
  have i3 := fun w => (ix4 l a a d w).2.2.2
  by_cases hl : 1 ≤ l
  · by_cases hl2 : l ≤ 8192
    · by_cases ha : 1 ≤ a
      · by_cases ha2 : a ≤ 8192
        · by_cases hd : 1 ≤ d
          · by_cases hd2 : d ≤ 8192
            · by_cases h4 : 1 + l + 2 * a + d ≤ 8192
              · have h5 : 1 + l + a + a + d ≤ 8192 := by omega
                rw [decide_eq_true (show rightP l a d from ⟨⟨hl, hl2⟩, ⟨ha, ha2⟩, ⟨hd, hd2⟩, h4⟩)]
                go_enter Try.func41, Try.ntmps41
                go_wp2_with fail
                refine wp_loop_rounds 5 ?_
                rw [rounds_succ]; go_wp2
                rw [rounds_succ]; go_wp2
                rw [rounds_succ]; go_wp2
                rw [rounds_succ]; go_wp2
                rw [rounds_succ]; go_wp2
                go_ret
                exact ⟨by simp, rfl⟩
              · have h5 : ¬ 1 + l + a + a + d ≤ 8192 := by omega
                rw [decide_eq_false (show ¬ rightP l a d from fun h => h4 h.2.2.2)]
                go_enter Try.func41, Try.ntmps41
                go_wp2_with fail
                refine wp_loop_rounds 5 ?_
                rw [rounds_succ]; go_wp2
                rw [rounds_succ]; go_wp2
                rw [rounds_succ]; go_wp2
                rw [rounds_succ]; go_wp2
                rw [rounds_succ]; go_wp2
                go_ret
                exact ⟨by simp [h5], rfl⟩
            · rw [decide_eq_false (show ¬ rightP l a d from fun h => hd2 h.2.2.1.2)]
              go_enter Try.func41, Try.ntmps41
              go_wp2_with fail
              refine wp_loop_rounds 5 ?_
              rw [rounds_succ]; go_wp2
              rw [rounds_succ]; go_wp2
              rw [rounds_succ]; go_wp2
              rw [rounds_succ]; go_wp2
              go_ret
              exact ⟨rfl, rfl⟩
          · rw [decide_eq_false (show ¬ rightP l a d from fun h => hd h.2.2.1.1)]
            go_enter Try.func41, Try.ntmps41
            go_wp2_with fail
            refine wp_loop_rounds 5 ?_
            rw [rounds_succ]; go_wp2
            rw [rounds_succ]; go_wp2
            rw [rounds_succ]; go_wp2
            rw [rounds_succ]; go_wp2
            go_ret
            exact ⟨rfl, rfl⟩
        · rw [decide_eq_false (show ¬ rightP l a d from fun h => ha2 h.2.1.2)]
          go_enter Try.func41, Try.ntmps41
          go_wp2_with fail
          refine wp_loop_rounds 5 ?_
          rw [rounds_succ]; go_wp2
          rw [rounds_succ]; go_wp2
          go_ret
          exact ⟨rfl, rfl⟩
      · rw [decide_eq_false (show ¬ rightP l a d from fun h => ha h.2.1.1)]
        go_enter Try.func41, Try.ntmps41
        go_wp2_with fail
        refine wp_loop_rounds 5 ?_
        rw [rounds_succ]; go_wp2
        rw [rounds_succ]; go_wp2
        go_ret
        exact ⟨rfl, rfl⟩
    · rw [decide_eq_false (show ¬ rightP l a d from fun h => hl2 h.1.2)]
      go_enter Try.func41, Try.ntmps41
      go_wp2_with fail
      refine wp_loop_rounds 5 ?_
      rw [rounds_succ]; go_wp2
      go_ret
      exact ⟨rfl, rfl⟩
  · rw [decide_eq_false (show ¬ rightP l a d from fun h => hl h.1.1)]
    go_enter Try.func41, Try.ntmps41
    go_wp2_with fail
    refine wp_loop_rounds 5 ?_
    rw [rounds_succ]; go_wp2
    go_ret
    exact ⟨rfl, rfl⟩
end Go.Proofs.Ytajeohmmobgcjaa
end
section
namespace Go.Proofs.Ytajeohmmobgcjaa
open Go Go.RowKit
theorem _root_.Go.RowKit.Below.al {w0 w : World} (h : Below w0.heap.size w0 w) (o : Obj) : Below w0.heap.size w0 (w.alloc o) := h.alloc h.size o
theorem _root_.Go.RowKit.Below.next {w0 w w' : World} (h : Below w0.heap.size w0 w) (k : Below w.heap.size w w') : Below w0.heap.size w0 w' := h.trans (Below.mono k h.size)
set_option maxRecDepth 100000
theorem behind_any (f m n : Int) (hf : 0 ≤ f ∧ f ≤ 100000) (hm : 0 ≤ m ∧ m ≤ 100000) (w : World) : Calls Try.prog 56 #[.agg #[.int .i64 f, .int .i64 m], .int .i64 n] w fun e w' => e = .returned (.agg #[.int .i64 (f + m), .int .i64 n]) ∧ w' = (w.alloc (.cells #[.int .i64 f, .int .i64 m] 95)).alloc (.cells #[.int .i64 (f + m), .int .i64 n] 95) := by
  obtain ⟨f1, f2⟩ := hf
  obtain ⟨m1, m2⟩ := hm
  go_enter Try.func56, Try.ntmps56
  go_wp2
  exact bodyPost_ret (results_cell_row rfl _ _ (w.heap.size + 1) 95 #[.int .i64 (f + m), .int .i64 n] (0, 0) _ rfl (Blk.new1 _ _ _ _) Try.underlying95 rfl (by kernel_rfl)) rfl ⟨rfl, rfl⟩
theorem laid_any (l a d : Int) (hl : 0 ≤ l ∧ l ≤ 10000) (ha : 0 ≤ a ∧ a ≤ 10000) (w : World) : Calls Try.prog 55 #[.agg #[.int .i64 l, .int .i64 a, .int .i64 d]] w fun e w' => e = .returned (.agg #[.int .i64 1, .int .i64 l, .int .i64 (1 + l), .int .i64 a, .int .i64 (1 + l + a), .int .i64 a, .int .i64 (1 + l + a + a), .int .i64 d]) ∧ Below w.heap.size w w' := by
  obtain ⟨l1, l2⟩ := hl
  obtain ⟨a1, a2⟩ := ha
  go_enter Try.func55, Try.ntmps55
  go_wp2_with fail
  refine (behind_any 1 l a ⟨by omega, by omega⟩ ⟨by omega, by omega⟩ _).mono ?_
  rintro e w' ⟨rfl, rfl⟩
  dsimp only
  go_wp2_with fail
  refine (behind_any (1 + l) a a ⟨by omega, by omega⟩ ⟨by omega, by omega⟩ _).mono ?_
  rintro e w' ⟨rfl, rfl⟩
  dsimp only
  go_wp2_with fail
  refine (behind_any (1 + l + a) a d ⟨by omega, by omega⟩ ⟨by omega, by omega⟩ _).mono ?_
  rintro e w' ⟨rfl, rfl⟩
  dsimp only
  go_wp2_with fail
  refine bodyPost_ret (results_cell_row rfl _ _ (w.heap.size + 1) 98 #[.int .i64 1, .int .i64 l, .int .i64 (1 + l), .int .i64 a, .int .i64 (1 + l + a), .int .i64 a, .int .i64 (1 + l + a + a), .int .i64 d] (0, 0) _ rfl (((((((Blk.new1 _ _ _ _).alloc _).alloc _).alloc _).alloc _).alloc _).alloc _) Try.underlying98 rfl (by kernel_rfl)) rfl ⟨rfl, ?_⟩
  exact (((((((((Below.refl _ w).alloc (Nat.le_refl _) _).al _).al _).al _).al _).al _).al _).al _)
theorem field_data (p q r s t u x y : Int) (w : World) : (Instr.field 98 (.agg #[.int .i64 p, .int .i64 q, .int .i64 r, .int .i64 s, .int .i64 t, .int .i64 u, .int .i64 x, .int .i64 y]) 2).run Try.prog w = .ok (.agg #[.int .i64 x, .int .i64 y]) w := by kernel_rfl
theorem field_first (x y : Int) (w : World) : (Instr.field 95 (.agg #[.int .i64 x, .int .i64 y]) 0).run Try.prog w = .ok (.int .i64 x) w := by kernel_rfl
theorem lsecs_any (l a d : Int) (w : World) : Calls Try.prog 23 #[.agg #[.int .i64 l, .int .i64 a, .int .i64 d]] w fun e w' => e = .returned (.int .i64 (secs l a d)) ∧ Below w.heap.size w w' := by
  by_cases h : rightP l a d
  · have hr := decide_eq_true h
    rw [secs, if_pos h]
    obtain ⟨⟨a1, a2⟩, ⟨b1, b2⟩, ⟨c1, c2⟩, h4⟩ := h
    have f1 := field_data 1 l (1 + l) a (1 + l + a) a (1 + l + a + a) d
    have f2 := fun x y => field_first x y
    go_enter Try.func23, Try.ntmps23
    go_wp2_with fail
    refine (lright_any l a d _).mono ?_
    rintro e w' ⟨rfl, rfl⟩
    rw [hr]
    dsimp only
    go_wp2_with fail
    refine (laid_any l a d ⟨by omega, by omega⟩ ⟨by omega, by omega⟩ _).mono ?_
    rintro e w2 ⟨rfl, hb2⟩
    have H2 := hide (((Below.refl _ w).alloc (Nat.le_refl _) (.cells #[.int .i64 l, .int .i64 a, .int .i64 d] 23)).al (.cells #[.int .i64 l, .int .i64 a, .int .i64 d] 23) |>.next hb2)
    clear hb2
    dsimp only
    go_wp2_with fail
    refine (behind_any (1 + l + a + a) d 0 ⟨by omega, by omega⟩ ⟨by omega, by omega⟩ _).mono ?_
    rintro e w3 ⟨rfl, hw3⟩
    have H3 := hide (H2.out.next (show Below w2.heap.size w2 w3 by rw [hw3]; exact ((Below.refl _ w2).alloc (Nat.le_refl _) _).al _))
    clear hw3
    dsimp only
    go_wp2_with fail
    go_ret
    exact ⟨by rw [show 1 + l + 2 * a + d = 1 + l + a + a + d by omega]; rfl, H3.out⟩
  · have hr := decide_eq_false h
    rw [secs, if_neg h]
    go_enter Try.func23, Try.ntmps23
    go_wp2_with fail
    refine (lright_any l a d _).mono ?_
    rintro e w' ⟨rfl, rfl⟩
    rw [hr]
    dsimp only
    go_wp2_with fail
    go_ret
    exact ⟨rfl, ((Below.refl _ w).alloc (Nat.le_refl _) _).al _⟩
theorem lfirst_any (l a d : Int) (w : World) : Calls Try.prog 73 #[.agg #[.int .i64 l, .int .i64 a, .int .i64 d]] w fun e w' => e = .returned (.int .i64 (firstS l a d)) ∧ Below w.heap.size w w' := by
  by_cases h : rightP l a d
  · have hr := decide_eq_true h
    rw [firstS, if_pos h]
    obtain ⟨⟨a1, a2⟩, ⟨b1, b2⟩, ⟨c1, c2⟩, h4⟩ := h
    have f1 := field_data 1 l (1 + l) a (1 + l + a) a (1 + l + a + a) d
    have f2 := fun x y => field_first x y
    go_enter Try.func73, Try.ntmps73
    go_wp2_with fail
    refine (lright_any l a d _).mono ?_
    rintro e w' ⟨rfl, rfl⟩
    rw [hr]
    dsimp only
    go_wp2_with fail
    refine (laid_any l a d ⟨by omega, by omega⟩ ⟨by omega, by omega⟩ _).mono ?_
    rintro e w2 ⟨rfl, hb2⟩
    have H2 := hide (((Below.refl _ w).alloc (Nat.le_refl _) (.cells #[.int .i64 l, .int .i64 a, .int .i64 d] 23)).al (.cells #[.int .i64 l, .int .i64 a, .int .i64 d] 23) |>.next hb2)
    clear hb2
    dsimp only
    go_wp2_with fail
    go_ret
    exact ⟨by rw [show 1 + l + 2 * a = 1 + l + a + a by omega]; rfl, H2.out⟩
  · have hr := decide_eq_false h
    rw [firstS, if_neg h]
    go_enter Try.func73, Try.ntmps73
    go_wp2_with fail
    refine (lright_any l a d _).mono ?_
    rintro e w' ⟨rfl, rfl⟩
    rw [hr]
    dsimp only
    go_wp2_with fail
    go_ret
    exact ⟨rfl, ((Below.refl _ w).alloc (Nat.le_refl _) _).al _⟩
theorem rfirst_any (l a d : Int) (w : World) : Calls Try.prog 86 #[.agg #[.int .i64 l, .int .i64 a, .int .i64 d]] w fun e w' => e = .returned (.int .i64 (firstS l a d)) ∧ Below w.heap.size w w' := by
  by_cases h : rightP l a d
  · have hr := decide_eq_true h
    rw [firstS, if_pos h]
    obtain ⟨⟨a1, a2⟩, ⟨b1, b2⟩, ⟨c1, c2⟩, h4⟩ := h
    go_enter Try.func86, Try.ntmps86
    go_wp2_with fail
    refine (rright_any l a d _).mono ?_
    rintro e w' ⟨rfl, rfl⟩
    rw [hr]
    dsimp only
    go_wp2_with fail
    go_ret
    exact ⟨rfl, ((Below.refl _ w).alloc (Nat.le_refl _) _).al _⟩
  · have hr := decide_eq_false h
    rw [firstS, if_neg h]
    go_enter Try.func86, Try.ntmps86
    go_wp2_with fail
    refine (rright_any l a d _).mono ?_
    rintro e w' ⟨rfl, rfl⟩
    rw [hr]
    dsimp only
    go_wp2_with fail
    go_ret
    exact ⟨rfl, ((Below.refl _ w).alloc (Nat.le_refl _) _).al _⟩
end Go.Proofs.Ytajeohmmobgcjaa
end
section
namespace Go.Proofs.Ytajeohmmobgcjaa
open Go Go.RowKit
abbrev Run := Int × Int
def runCells (l : List Run) : List Value := l.flatMap fun r => [.int .i64 r.1, .int .i64 r.2]
theorem runCells_len (l : List Run) : (runCells l).length = l.length * 2 := by
  induction l with
  | nil => rfl
  | cons p l ih =>
    show ([Value.int .i64 p.1, .int .i64 p.2] ++ runCells l).length = _
    rw [List.length_append, ih]
    show 2 + l.length * 2 = (l.length + 1) * 2
    omega
theorem runCells_app (a b : List Run) : runCells (a ++ b) = runCells a ++ runCells b := by simp [runCells]
theorem runCells_one (l : List Run) : ∀ u ∈ runCells l, u.oneCell' = true := by
  intro u hu
  obtain ⟨p, hp, hu⟩ := List.mem_flatMap.1 hu
  simp only [List.mem_cons, List.not_mem_nil, or_false] at hu
  rcases hu with rfl | rfl <;> rfl
theorem runCells_at : ∀ (l : List Run) (j : Nat) (p : Run), l[j]? = some p → (runCells l)[j * 2]? = some (.int .i64 p.1) ∧ (runCells l)[j * 2 + 1]? = some (.int .i64 p.2)
  | [], j, p, h => by simp at h
  | q :: l, 0, p, h => by
    simp only [List.getElem?_cons_zero, Option.some.injEq] at h
    subst h
    exact ⟨rfl, rfl⟩
  | q :: l, j + 1, p, h => by
    have ih := runCells_at l j p (by simpa using h)
    show ([Value.int .i64 q.1, .int .i64 q.2] ++ runCells l)[(j + 1) * 2]? = _ ∧ ([Value.int .i64 q.1, .int .i64 q.2] ++ runCells l)[(j + 1) * 2 + 1]? = _
    rw [List.getElem?_append_right (by show 2 ≤ _; omega), List.getElem?_append_right (by show 2 ≤ _; omega)]
    have e : (j + 1) * 2 - [Value.int .i64 q.1, .int .i64 q.2].length = j * 2 := by show (j + 1) * 2 - 2 = _; omega
    have e2 : (j + 1) * 2 + 1 - [Value.int .i64 q.1, .int .i64 q.2].length = j * 2 + 1 := by show (j + 1) * 2 + 1 - 2 = _; omega
    rw [e, e2]
    exact ih
def r64 (r : Run) : Prop := (-9223372036854775808 ≤ r.1 ∧ r.1 ≤ 9223372036854775807) ∧ (-9223372036854775808 ≤ r.2 ∧ r.2 ≤ 9223372036854775807)
/-- runs that lie below block B -/
def RunsM (w : World) (B : Nat) (v : Value) (l : List Run) : Prop :=
  ∃ A cap, v = .slice A l.length cap ∧ l.length ≤ cap ∧ (A = none → cap = 0) ∧ (0 < l.length → ∃ b off, A = some ⟨b, off, none⟩ ∧ b < B ∧ ∀ j r, l[j]? = some r → w.cell? ⟨b, off + j * 2, none⟩ = some (.int .i64 r.1) ∧ w.cell? ⟨b, off + j * 2 + 1, none⟩ = some (.int .i64 r.2)) ∧ ∀ r ∈ l, r64 r
theorem RunsM.alike {w w' : World} {B : Nat} {v : Value} {l : List Run} (h : RunsM w B v l) (ha : Alike B w w') : RunsM w' B v l := by
  obtain ⟨A, cap, hv, hc, hn, hA, hr⟩ := h
  exact ⟨A, cap, hv, hc, hn, fun h0 => by
    obtain ⟨b, off, h1, h2, h3⟩ := hA h0
    exact ⟨b, off, h1, h2, fun j r hj => ⟨(ha.cell (p := ⟨b, off + j * 2, none⟩) h2).trans (h3 j r hj).1, (ha.cell (p := ⟨b, off + j * 2 + 1, none⟩) h2).trans (h3 j r hj).2⟩⟩, hr⟩
theorem RunsM.widen {w : World} {B B' : Nat} {v : Value} {l : List Run} (h : RunsM w B v l) (hB : B ≤ B') : RunsM w B' v l := by
  obtain ⟨A, cap, hv, hc, hn, hA, hr⟩ := h
  exact ⟨A, cap, hv, hc, hn, fun h0 => by
    obtain ⟨b, off, h1, h2, h3⟩ := hA h0
    exact ⟨b, off, h1, by omega, h3⟩, hr⟩
theorem RunsM.src {w : World} {B cap : Nat} {A : Option Addr} {l : List Run} (h : RunsM w B (.slice A l.length cap) l) : (A = none → l.length = 0 ∧ cap = 0) ∧ ∀ ad, A = some ad → ad.block < B ∨ l = [] := by
  obtain ⟨A', cap', hv, hc, hn, hA, hr⟩ := h
  injection hv with e1 e2 e3
  subst e1 e3
  refine ⟨fun h0 => ⟨by have := hn h0; omega, hn h0⟩, fun ad had => ?_⟩
  rcases Nat.eq_zero_or_pos l.length with hl | hl
  · exact .inr (List.length_eq_zero_iff.1 hl)
  · obtain ⟨b, off, h1, h2, _⟩ := hA hl
    rw [h1] at had
    obtain rfl := Option.some.inj had
    exact .inl h2
theorem info_run : (Try.prog.info? 40).map (fun i => (i.zero, i.size, i.bytes)) = some (some (.agg #[.int .i64 0, .int .i64 0]), 2, 16) := by kernel_rfl
theorem runs_new (w : World) (l : List Run) (hr : ∀ r ∈ l, r64 r) : RunsM (w.alloc (.cells (runCells l).toArray 40)) (w.heap.size + 1) (.slice (some ⟨w.heap.size, 0, none⟩) l.length l.length) l := by
  refine ⟨_, l.length, rfl, Nat.le_refl _, (fun h => by cases h), fun _ => ⟨w.heap.size, 0, rfl, by omega, fun j r hj => ?_⟩, hr⟩
  have hb := Blk.new w 40 (runCells l).toArray
  have h := runCells_at l j r hj
  rw [Nat.zero_add, hb.cell, hb.cell]
  exact ⟨by simpa using h.1, by simpa using h.2⟩
theorem runs_nil (w : World) (B : Nat) : RunsM w B (.slice none 0 0) [] := ⟨none, 0, rfl, Nat.le_refl _, fun _ => rfl, (fun h => by cases h), fun r hr => by cases hr⟩
/-- a row of runs of one's own -/
def OwnRuns (base : Nat) (w : World) (v : Value) (l : List Run) : Prop := w.ownsRow base 40 2 v l.length (runCells l) ∧ ∀ r ∈ l, r64 r
theorem OwnRuns.below {base : Nat} {w w' : World} {v : Value} {l : List Run} (h : OwnRuns base w v l) (hb : Below w.heap.size w w') : OwnRuns base w' v l :=
  ⟨owned_keepN h.1 fun k _ hl => hb.block k hl, h.2⟩
theorem OwnRuns.m {base : Nat} {w : World} {v : Value} {l : List Run} (h : OwnRuns base w v l) : ∃ A cap, v = .slice A l.length cap ∧ RunsM w w.heap.size (.slice A l.length cap) l := by
  rcases owned_formN h.1 with ⟨rfl, h0, _⟩ | ⟨g, cap, cur, rfl, hg, hc, hcs, hb, hsz, ht, hlt⟩
  · exact ⟨none, 0, by rw [h0], none, 0, rfl, by omega, fun _ => rfl, (fun h => by omega), h.2⟩
  · refine ⟨_, cap, rfl, _, cap, rfl, hc, (fun h => by cases h), fun _ => ⟨g, 0, rfl, hlt, fun j r hj => ?_⟩, h.2⟩
    have hj2 := (List.getElem?_eq_some_iff.1 hj).1
    have h2 := runCells_at l j r hj
    rw [← ht, List.getElem?_take_of_lt (by omega), List.getElem?_take_of_lt (by omega)] at h2
    rw [Nat.zero_add, hb.cell, hb.cell, ← Array.getElem?_toList, ← Array.getElem?_toList]
    exact h2
/-- more runs behind a row of one's own -/
theorem OwnRuns.app {base : Nat} {w wm : World} {v : Value} {l news : List Run} (h : OwnRuns base w v l) (hbase : base ≤ w.heap.size) (hw : Below w.heap.size w wm) (hm : 0 < news.length) (hl : l.length + news.length ≤ 100000) (g off : Nat) (hc : ∀ j r, news[j]? = some r → wm.cell? ⟨g, off + j * 2, none⟩ = some (.int .i64 r.1) ∧ wm.cell? ⟨g, off + j * 2 + 1, none⟩ = some (.int .i64 r.2)) (hn : ∀ r ∈ news, r64 r) (c : Nat) :
    ∃ v' w', (Builtin.append_ #[24, 24] 24 #[v, .slice (some ⟨g, off, none⟩) news.length c]).run Try.prog wm = .ok v' w' ∧ OwnRuns base w' v' (l ++ news) ∧ wm.grownBy w' v.ownBlock ∧ Below base w w' := by
  obtain ⟨i, hi, hz⟩ := Option.map_eq_some_iff.1 info_run
  injection hz with hz0 hz
  injection hz with hz1 hz2
  have hr := h.below hw
  have hs := hw.size
  have hcells : ∀ j u, (runCells news)[j]? = some u → wm.cell? ((⟨g, off, none⟩ : Addr).add j) = some u := by
    intro j u hu
    rw [Addr.add_mid]
    have hj : j < news.length * 2 := by
      have := (List.getElem?_eq_some_iff.1 hu).1
      rwa [runCells_len] at this
    have hq : news[j / 2]? = some news[j / 2] := List.getElem?_eq_getElem (by omega)
    have h1 := hc _ _ hq
    have h2 := runCells_at news _ _ hq
    rcases Nat.mod_two_eq_zero_or_one j with hz | hz
    · rw [show j = j / 2 * 2 by omega] at hu ⊢
      rw [h2.1] at hu
      rw [h1.1, hu]
    · rw [show j = j / 2 * 2 + 1 by omega] at hu ⊢
      rw [h2.2] at hu
      rw [← Nat.add_assoc, h1.2, hu]
  obtain ⟨v', w', h1, h2, h3, h4⟩ := run_appG (P := Try.prog) (w := wm) base 24 24 40 i _ 2 16 Try.underlying24 hi hz0 hz1 hz2 rfl (by omega) v l.length (runCells l) hr.1 ⟨g, off, none⟩ news.length c (runCells news) (runCells_len _) hcells (runCells_one news) hm (by simp only [maxLen]; omega) (by omega) (by omega)
  refine ⟨v', w', h1, ⟨by rw [List.length_append, runCells_app]; exact h2, fun p hp => ?_⟩, h3, (Below.mono hw hbase).grown h3 (by omega) fun k hk => (owned_ltN hr.1 hk).1⟩
  rcases List.mem_append.1 hp with hp | hp
  · exact h.2 p hp
  · exact hn p hp
/-- which sectors a run has -/
def posR (r : Run) : List Nat := (List.range r.2.toNat).map (r.1.toNat + ·)
def pos (l : List Run) : List Nat := l.flatMap posR
def okRun (d : Int) (r : Run) : Prop := 0 ≤ r.1 ∧ r.1 < d ∧ 1 ≤ r.2 ∧ r.2 ≤ d - r.1
instance (d : Int) (r : Run) : Decidable (okRun d r) := by unfold okRun; exact inferInstance
def apartP (l a d : Int) (rs : List Run) : Prop := rightP l a d ∧ (∀ r ∈ rs, okRun d r) ∧ (pos rs).Nodup
instance (l a d : Int) (rs : List Run) : Decidable (apartP l a d rs) := by unfold apartP; exact inferInstance
theorem posR_lt {d : Int} {r : Run} (h : okRun d r) : ∀ x ∈ posR r, (x : Int) < d := by
  intro x hx
  obtain ⟨k, hk, rfl⟩ := List.mem_map.1 hx
  have := List.mem_range.1 hk
  obtain ⟨h1, h2, h3, h4⟩ := h
  omega
theorem pos_lt {d : Int} {rs : List Run} (h : ∀ r ∈ rs, okRun d r) : ∀ x ∈ pos rs, (x : Int) < d := by
  intro x hx
  obtain ⟨r, hr, hx⟩ := List.mem_flatMap.1 hx
  exact posR_lt (h r hr) x hx
theorem nodup_short : ∀ {n : Nat} {l : List Nat}, l.Nodup → (∀ x ∈ l, x < n) → l.length ≤ n
  | 0, l, _, hl => by
    cases l with
    | nil => exact Nat.le_refl _
    | cons a l => exact absurd (hl a (by simp)) (by omega)
  | n + 1, l, h, hl => by
    have h1 : (l.erase n).length ≤ n := nodup_short (h.erase n) fun x hx => by
      have h2 := (List.Nodup.mem_erase_iff h).1 hx
      have := hl x h2.2
      have := h2.1
      omega
    have h3 := List.length_erase (a := n) (l := l)
    split at h3 <;> omega
theorem pos_len_le (rs : List Run) (h : ∀ r ∈ rs, 1 ≤ r.2) : rs.length ≤ (pos rs).length := by
  induction rs with
  | nil => exact Nat.le_refl _
  | cons r rs ih =>
    show rs.length + 1 ≤ (posR r ++ pos rs).length
    rw [List.length_append]
    have h1 := h r (by simp)
    have h2 := ih fun r hr => h r (by simp [hr])
    have h3 : (posR r).length = r.2.toNat := by simp [posR]
    omega
end Go.Proofs.Ytajeohmmobgcjaa
end
