/- spenceref05, package log: shapes. -/
import Derived.Test.YtajeohmmobgcjaaBytes
import Derived.Test.YtajeohmmobgcjaaBase3
import Derived.LoopN
namespace Go.Proofs.Ytajeohmmobgcjaa
open Go Go.RowKit
set_option maxRecDepth 100000
def inW (n : Int) : Prop := 1 ≤ n ∧ n ≤ 8192
instance (n : Int) : Decidable (inW n) := by unfold inW; exact inferInstance
def rightP (l a d : Int) : Prop := inW l ∧ inW a ∧ inW d ∧ 1 + l + 2 * a + d ≤ 8192
instance (l a d : Int) : Decidable (rightP l a d) := by unfold rightP; exact inferInstance
theorem within_any (n : Int) (w : World) : Calls Try.prog 78 #[.int .i64 n] w fun e w' => e = .returned (.bool (decide (inW n))) ∧ w' = w := by
  by_cases h1 : 1 ≤ n
  · by_cases h2 : n ≤ 8192
    · rw [decide_eq_true (show inW n from ⟨h1, h2⟩)]
      go_enter Try.func78, Try.ntmps78
      go_wp2
      go_ret
      exact ⟨rfl, rfl⟩
    · rw [decide_eq_false (show ¬ inW n from fun h => h2 h.2)]
      go_enter Try.func78, Try.ntmps78
      go_wp2
      go_ret
      exact ⟨rfl, rfl⟩
  · rw [decide_eq_false (show ¬ inW n from fun h => h1 h.1)]
    go_enter Try.func78, Try.ntmps78
    go_wp2
    go_ret
    exact ⟨rfl, rfl⟩
theorem within_yes {n : Int} (h : inW n) (w : World) : Calls Try.prog 78 #[.int .i64 n] w fun e w' => e = .returned (.bool true) ∧ w' = w := by
  have := within_any n w
  rwa [decide_eq_true h] at this
theorem within_no {n : Int} (h : ¬ inW n) (w : World) : Calls Try.prog 78 #[.int .i64 n] w fun e w' => e = .returned (.bool false) ∧ w' = w := by
  have := within_any n w
  rwa [decide_eq_false h] at this
theorem rright_any (l a d : Int) (w : World) : Calls Try.prog 51 #[.agg #[.int .i64 l, .int .i64 a, .int .i64 d]] w fun e w' => e = .returned (.bool (decide (rightP l a d))) ∧ w' = w.alloc (.cells #[.int .i64 l, .int .i64 a, .int .i64 d] 23) := by
  by_cases h1 : inW l
  · by_cases h2 : inW a
    · by_cases h3 : inW d
      · obtain ⟨a1, a2⟩ := h1
        obtain ⟨b1, b2⟩ := h2
        obtain ⟨c1, c2⟩ := h3
        by_cases h4 : 1 + l + 2 * a + d ≤ 8192
        · rw [decide_eq_true (show rightP l a d from ⟨⟨a1, a2⟩, ⟨b1, b2⟩, ⟨c1, c2⟩, h4⟩)]
          go_enter Try.func51, Try.ntmps51
          go_wp2_with fail
          refine (within_yes ⟨a1, a2⟩ _).mono ?_
          rintro e w' ⟨rfl, rfl⟩
          dsimp only
          go_wp2_with fail
          refine (within_yes ⟨b1, b2⟩ _).mono ?_
          rintro e w' ⟨rfl, rfl⟩
          dsimp only
          go_wp2_with fail
          refine (within_yes ⟨c1, c2⟩ _).mono ?_
          rintro e w' ⟨rfl, rfl⟩
          dsimp only
          go_wp2_with fail
          go_ret
          exact ⟨rfl, rfl⟩
        · rw [decide_eq_false (show ¬ rightP l a d from fun h => h4 h.2.2.2)]
          go_enter Try.func51, Try.ntmps51
          go_wp2_with fail
          refine (within_yes ⟨a1, a2⟩ _).mono ?_
          rintro e w' ⟨rfl, rfl⟩
          dsimp only
          go_wp2_with fail
          refine (within_yes ⟨b1, b2⟩ _).mono ?_
          rintro e w' ⟨rfl, rfl⟩
          dsimp only
          go_wp2_with fail
          refine (within_yes ⟨c1, c2⟩ _).mono ?_
          rintro e w' ⟨rfl, rfl⟩
          dsimp only
          go_wp2_with fail
          go_ret
          exact ⟨(congrArg (fun b => Ending.returned (Value.bool b)) (decide_eq_false (show ¬ (1 + l + 2 * a + d ≤ 8192) by omega)) :), rfl⟩
      · rw [decide_eq_false (show ¬ rightP l a d from fun h => h3 h.2.2.1)]
        go_enter Try.func51, Try.ntmps51
        go_wp2_with fail
        refine (within_yes h1 _).mono ?_
        rintro e w' ⟨rfl, rfl⟩
        dsimp only
        go_wp2_with fail
        refine (within_yes h2 _).mono ?_
        rintro e w' ⟨rfl, rfl⟩
        dsimp only
        go_wp2_with fail
        refine (within_no h3 _).mono ?_
        rintro e w' ⟨rfl, rfl⟩
        dsimp only
        go_wp2_with fail
        go_ret
        exact ⟨rfl, rfl⟩
    · rw [decide_eq_false (show ¬ rightP l a d from fun h => h2 h.2.1)]
      go_enter Try.func51, Try.ntmps51
      go_wp2_with fail
      refine (within_yes h1 _).mono ?_
      rintro e w' ⟨rfl, rfl⟩
      dsimp only
      go_wp2_with fail
      refine (within_no h2 _).mono ?_
      rintro e w' ⟨rfl, rfl⟩
      dsimp only
      go_wp2_with fail
      go_ret
      exact ⟨rfl, rfl⟩
  · rw [decide_eq_false (show ¬ rightP l a d from fun h => h1 h.1)]
    go_enter Try.func51, Try.ntmps51
    go_wp2_with fail
    refine (within_no h1 _).mono ?_
    rintro e w' ⟨rfl, rfl⟩
    dsimp only
    go_wp2_with fail
    go_ret
    exact ⟨rfl, rfl⟩
/-- how many sectors; where the data begins -/
def secs (l a d : Int) : Int := if rightP l a d then 1 + l + 2 * a + d else 0
def firstS (l a d : Int) : Int := if rightP l a d then 1 + l + 2 * a else 0
theorem rsecs_any (l a d : Int) (w : World) : Calls Try.prog 12 #[.agg #[.int .i64 l, .int .i64 a, .int .i64 d]] w fun e w' => e = .returned (.int .i64 (secs l a d)) ∧ Below w.heap.size w w' := by
  by_cases h : rightP l a d
  · have hr := decide_eq_true h
    rw [secs, if_pos h]
    obtain ⟨⟨a1, a2⟩, ⟨b1, b2⟩, ⟨c1, c2⟩, h4⟩ := h
    go_enter Try.func12, Try.ntmps12
    go_wp2_with fail
    refine (rright_any l a d _).mono ?_
    rintro e w' ⟨rfl, rfl⟩
    rw [hr]
    dsimp only
    go_wp2_with fail
    go_ret
    exact ⟨rfl, ((Below.refl _ w).alloc (Nat.le_refl _) _).alloc (by rw [size_alloc]; omega) _⟩
  · have hr := decide_eq_false h
    rw [secs, if_neg h]
    go_enter Try.func12, Try.ntmps12
    go_wp2_with fail
    refine (rright_any l a d _).mono ?_
    rintro e w' ⟨rfl, rfl⟩
    rw [hr]
    dsimp only
    go_wp2_with fail
    go_ret
    exact ⟨rfl, ((Below.refl _ w).alloc (Nat.le_refl _) _).alloc (by rw [size_alloc]; omega) _⟩
theorem ix4 (p q r s : Int) (w : World) : (Instr.index 117 (.agg #[.int .i64 p, .int .i64 q, .int .i64 r, .int .i64 s]) (.int .i64 0)).run Try.prog w = .ok (.int .i64 p) w ∧ (Instr.index 117 (.agg #[.int .i64 p, .int .i64 q, .int .i64 r, .int .i64 s]) (.int .i64 1)).run Try.prog w = .ok (.int .i64 q) w ∧
    (Instr.index 117 (.agg #[.int .i64 p, .int .i64 q, .int .i64 r, .int .i64 s]) (.int .i64 2)).run Try.prog w = .ok (.int .i64 r) w ∧ (Instr.index 117 (.agg #[.int .i64 p, .int .i64 q, .int .i64 r, .int .i64 s]) (.int .i64 3)).run Try.prog w = .ok (.int .i64 s) w := ⟨by kernel_rfl, by kernel_rfl, by kernel_rfl, by kernel_rfl⟩
set_option maxHeartbeats 2000000 in
theorem lright_any (l a d : Int) (w : World) : Calls Try.prog 41 #[.agg #[.int .i64 l, .int .i64 a, .int .i64 d]] w fun e w' => e = .returned (.bool (decide (rightP l a d))) ∧ w' = w.alloc (.cells #[.int .i64 l, .int .i64 a, .int .i64 d] 23) := by
  have i0 := fun w => (ix4 l a a d w).1
  have i1 := fun w => (ix4 l a a d w).2.1
  have i2 := fun w => (ix4 l a a d w).2.2.1
  have i3 := fun w => (ix4 l a a d w).2.2.2
  by_cases hl : 1 ≤ l
  · by_cases hl2 : l ≤ 8192
    · by_cases ha : 1 ≤ a
      · by_cases ha2 : a ≤ 8192
        · by_cases hd : 1 ≤ d
          · by_cases hd2 : d ≤ 8192
            · by_cases h4 : 1 + l + 2 * a + d ≤ 8192
              · have h5 : 1 + l + a + a + d ≤ 8192 := by omega
                rw [decide_eq_true (show rightP l a d from ⟨⟨hl, hl2⟩, ⟨ha, ha2⟩, ⟨hd, hd2⟩, h4⟩)]
                go_enter Try.func41, Try.ntmps41
                go_wp2_with fail
                refine wp_loop_rounds 5 ?_
                rw [rounds_succ]; go_wp2
                rw [rounds_succ]; go_wp2
                rw [rounds_succ]; go_wp2
                rw [rounds_succ]; go_wp2
                rw [rounds_succ]; go_wp2
                go_ret
                exact ⟨by simp, rfl⟩
              · have h5 : ¬ 1 + l + a + a + d ≤ 8192 := by omega
                rw [decide_eq_false (show ¬ rightP l a d from fun h => h4 h.2.2.2)]
                go_enter Try.func41, Try.ntmps41
                go_wp2_with fail
                refine wp_loop_rounds 5 ?_
                rw [rounds_succ]; go_wp2
                rw [rounds_succ]; go_wp2
                rw [rounds_succ]; go_wp2
                rw [rounds_succ]; go_wp2
                rw [rounds_succ]; go_wp2
                go_ret
                exact ⟨by simp [h5], rfl⟩
            · rw [decide_eq_false (show ¬ rightP l a d from fun h => hd2 h.2.2.1.2)]
              go_enter Try.func41, Try.ntmps41
              go_wp2_with fail
              refine wp_loop_rounds 5 ?_
              rw [rounds_succ]; go_wp2
              rw [rounds_succ]; go_wp2
              rw [rounds_succ]; go_wp2
              rw [rounds_succ]; go_wp2
              go_ret
              exact ⟨rfl, rfl⟩
          · rw [decide_eq_false (show ¬ rightP l a d from fun h => hd h.2.2.1.1)]
            go_enter Try.func41, Try.ntmps41
            go_wp2_with fail
            refine wp_loop_rounds 5 ?_
            rw [rounds_succ]; go_wp2
            rw [rounds_succ]; go_wp2
            rw [rounds_succ]; go_wp2
            rw [rounds_succ]; go_wp2
            go_ret
            exact ⟨rfl, rfl⟩
        · rw [decide_eq_false (show ¬ rightP l a d from fun h => ha2 h.2.1.2)]
          go_enter Try.func41, Try.ntmps41
          go_wp2_with fail
          refine wp_loop_rounds 5 ?_
          rw [rounds_succ]; go_wp2
          rw [rounds_succ]; go_wp2
          go_ret
          exact ⟨rfl, rfl⟩
      · rw [decide_eq_false (show ¬ rightP l a d from fun h => ha h.2.1.1)]
        go_enter Try.func41, Try.ntmps41
        go_wp2_with fail
        refine wp_loop_rounds 5 ?_
        rw [rounds_succ]; go_wp2
        rw [rounds_succ]; go_wp2
        go_ret
        exact ⟨rfl, rfl⟩
    · rw [decide_eq_false (show ¬ rightP l a d from fun h => hl2 h.1.2)]
      go_enter Try.func41, Try.ntmps41
      go_wp2_with fail
      refine wp_loop_rounds 5 ?_
      rw [rounds_succ]; go_wp2
      go_ret
      exact ⟨rfl, rfl⟩
  · rw [decide_eq_false (show ¬ rightP l a d from fun h => hl h.1.1)]
    go_enter Try.func41, Try.ntmps41
    go_wp2_with fail
    refine wp_loop_rounds 5 ?_
    rw [rounds_succ]; go_wp2
    go_ret
    exact ⟨rfl, rfl⟩
end Go.Proofs.Ytajeohmmobgcjaa
