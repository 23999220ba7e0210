/- package log: how a shape lies. -/
import Derived.Test.YtajeohmmobgcjaaShape
namespace Go.Proofs.Ytajeohmmobgcjaa
open Go Go.RowKit
theorem _root_.Go.RowKit.Below.al {w0 w : World} (h : Below w0.heap.size w0 w) (o : Obj) : Below w0.heap.size w0 (w.alloc o) := h.alloc h.size o
theorem _root_.Go.RowKit.Below.next {w0 w w' : World} (h : Below w0.heap.size w0 w) (k : Below w.heap.size w w') : Below w0.heap.size w0 w' := h.trans (Below.mono k h.size)
set_option maxRecDepth 100000
theorem behind_any (f m n : Int) (hf : 0 ≤ f ∧ f ≤ 100000) (hm : 0 ≤ m ∧ m ≤ 100000) (w : World) : Calls Try.prog 56 #[.agg #[.int .i64 f, .int .i64 m], .int .i64 n] w fun e w' => e = .returned (.agg #[.int .i64 (f + m), .int .i64 n]) ∧ w' = (w.alloc (.cells #[.int .i64 f, .int .i64 m] 95)).alloc (.cells #[.int .i64 (f + m), .int .i64 n] 95) := by
  obtain ⟨f1, f2⟩ := hf
  obtain ⟨m1, m2⟩ := hm
  go_enter Try.func56, Try.ntmps56
  go_wp2
  exact bodyPost_ret (results_cell_row rfl _ _ (w.heap.size + 1) 95 #[.int .i64 (f + m), .int .i64 n] (0, 0) _ rfl (Blk.new1 _ _ _ _) Try.underlying95 rfl (by kernel_rfl)) rfl ⟨rfl, rfl⟩
theorem laid_any (l a d : Int) (hl : 0 ≤ l ∧ l ≤ 10000) (ha : 0 ≤ a ∧ a ≤ 10000) (w : World) : Calls Try.prog 55 #[.agg #[.int .i64 l, .int .i64 a, .int .i64 d]] w fun e w' => e = .returned (.agg #[.int .i64 1, .int .i64 l, .int .i64 (1 + l), .int .i64 a, .int .i64 (1 + l + a), .int .i64 a, .int .i64 (1 + l + a + a), .int .i64 d]) ∧ Below w.heap.size w w' := by
  obtain ⟨l1, l2⟩ := hl
  obtain ⟨a1, a2⟩ := ha
  go_enter Try.func55, Try.ntmps55
  go_wp2_with fail
  refine (behind_any 1 l a ⟨by omega, by omega⟩ ⟨by omega, by omega⟩ _).mono ?_
  rintro e w' ⟨rfl, rfl⟩
  dsimp only
  go_wp2_with fail
  refine (behind_any (1 + l) a a ⟨by omega, by omega⟩ ⟨by omega, by omega⟩ _).mono ?_
  rintro e w' ⟨rfl, rfl⟩
  dsimp only
  go_wp2_with fail
  refine (behind_any (1 + l + a) a d ⟨by omega, by omega⟩ ⟨by omega, by omega⟩ _).mono ?_
  rintro e w' ⟨rfl, rfl⟩
  dsimp only
  go_wp2_with fail
  refine bodyPost_ret (results_cell_row rfl _ _ (w.heap.size + 1) 98 #[.int .i64 1, .int .i64 l, .int .i64 (1 + l), .int .i64 a, .int .i64 (1 + l + a), .int .i64 a, .int .i64 (1 + l + a + a), .int .i64 d] (0, 0) _ rfl (((((((Blk.new1 _ _ _ _).alloc _).alloc _).alloc _).alloc _).alloc _).alloc _) Try.underlying98 rfl (by kernel_rfl)) rfl ⟨rfl, ?_⟩
  exact (((((((((Below.refl _ w).alloc (Nat.le_refl _) _).al _).al _).al _).al _).al _).al _).al _)
theorem field_data (p q r s t u x y : Int) (w : World) : (Instr.field 98 (.agg #[.int .i64 p, .int .i64 q, .int .i64 r, .int .i64 s, .int .i64 t, .int .i64 u, .int .i64 x, .int .i64 y]) 2).run Try.prog w = .ok (.agg #[.int .i64 x, .int .i64 y]) w := by kernel_rfl
theorem field_first (x y : Int) (w : World) : (Instr.field 95 (.agg #[.int .i64 x, .int .i64 y]) 0).run Try.prog w = .ok (.int .i64 x) w := by kernel_rfl
theorem lsecs_any (l a d : Int) (w : World) : Calls Try.prog 23 #[.agg #[.int .i64 l, .int .i64 a, .int .i64 d]] w fun e w' => e = .returned (.int .i64 (secs l a d)) ∧ Below w.heap.size w w' := by
  by_cases h : rightP l a d
  · have hr := decide_eq_true h
    rw [secs, if_pos h]
    obtain ⟨⟨a1, a2⟩, ⟨b1, b2⟩, ⟨c1, c2⟩, h4⟩ := h
    have f1 := field_data 1 l (1 + l) a (1 + l + a) a (1 + l + a + a) d
    have f2 := fun x y => field_first x y
    go_enter Try.func23, Try.ntmps23
    go_wp2_with fail
    refine (lright_any l a d _).mono ?_
    rintro e w' ⟨rfl, rfl⟩
    rw [hr]
    dsimp only
    go_wp2_with fail
    refine (laid_any l a d ⟨by omega, by omega⟩ ⟨by omega, by omega⟩ _).mono ?_
    rintro e w2 ⟨rfl, hb2⟩
    have H2 := hide (((Below.refl _ w).alloc (Nat.le_refl _) (.cells #[.int .i64 l, .int .i64 a, .int .i64 d] 23)).al (.cells #[.int .i64 l, .int .i64 a, .int .i64 d] 23) |>.next hb2)
    clear hb2
    dsimp only
    go_wp2_with fail
    refine (behind_any (1 + l + a + a) d 0 ⟨by omega, by omega⟩ ⟨by omega, by omega⟩ _).mono ?_
    rintro e w3 ⟨rfl, hw3⟩
    have H3 := hide (H2.out.next (show Below w2.heap.size w2 w3 by rw [hw3]; exact ((Below.refl _ w2).alloc (Nat.le_refl _) _).al _))
    clear hw3
    dsimp only
    go_wp2_with fail
    go_ret
    exact ⟨by rw [show 1 + l + 2 * a + d = 1 + l + a + a + d by omega]; rfl, H3.out⟩
  · have hr := decide_eq_false h
    rw [secs, if_neg h]
    go_enter Try.func23, Try.ntmps23
    go_wp2_with fail
    refine (lright_any l a d _).mono ?_
    rintro e w' ⟨rfl, rfl⟩
    rw [hr]
    dsimp only
    go_wp2_with fail
    go_ret
    exact ⟨rfl, ((Below.refl _ w).alloc (Nat.le_refl _) _).al _⟩
theorem lfirst_any (l a d : Int) (w : World) : Calls Try.prog 73 #[.agg #[.int .i64 l, .int .i64 a, .int .i64 d]] w fun e w' => e = .returned (.int .i64 (firstS l a d)) ∧ Below w.heap.size w w' := by
  by_cases h : rightP l a d
  · have hr := decide_eq_true h
    rw [firstS, if_pos h]
    obtain ⟨⟨a1, a2⟩, ⟨b1, b2⟩, ⟨c1, c2⟩, h4⟩ := h
    have f1 := field_data 1 l (1 + l) a (1 + l + a) a (1 + l + a + a) d
    have f2 := fun x y => field_first x y
    go_enter Try.func73, Try.ntmps73
    go_wp2_with fail
    refine (lright_any l a d _).mono ?_
    rintro e w' ⟨rfl, rfl⟩
    rw [hr]
    dsimp only
    go_wp2_with fail
    refine (laid_any l a d ⟨by omega, by omega⟩ ⟨by omega, by omega⟩ _).mono ?_
    rintro e w2 ⟨rfl, hb2⟩
    have H2 := hide (((Below.refl _ w).alloc (Nat.le_refl _) (.cells #[.int .i64 l, .int .i64 a, .int .i64 d] 23)).al (.cells #[.int .i64 l, .int .i64 a, .int .i64 d] 23) |>.next hb2)
    clear hb2
    dsimp only
    go_wp2_with fail
    go_ret
    exact ⟨by rw [show 1 + l + 2 * a = 1 + l + a + a by omega]; rfl, H2.out⟩
  · have hr := decide_eq_false h
    rw [firstS, if_neg h]
    go_enter Try.func73, Try.ntmps73
    go_wp2_with fail
    refine (lright_any l a d _).mono ?_
    rintro e w' ⟨rfl, rfl⟩
    rw [hr]
    dsimp only
    go_wp2_with fail
    go_ret
    exact ⟨rfl, ((Below.refl _ w).alloc (Nat.le_refl _) _).al _⟩
theorem rfirst_any (l a d : Int) (w : World) : Calls Try.prog 86 #[.agg #[.int .i64 l, .int .i64 a, .int .i64 d]] w fun e w' => e = .returned (.int .i64 (firstS l a d)) ∧ Below w.heap.size w w' := by
  by_cases h : rightP l a d
  · have hr := decide_eq_true h
    rw [firstS, if_pos h]
    obtain ⟨⟨a1, a2⟩, ⟨b1, b2⟩, ⟨c1, c2⟩, h4⟩ := h
    go_enter Try.func86, Try.ntmps86
    go_wp2_with fail
    refine (rright_any l a d _).mono ?_
    rintro e w' ⟨rfl, rfl⟩
    rw [hr]
    dsimp only
    go_wp2_with fail
    go_ret
    exact ⟨rfl, ((Below.refl _ w).alloc (Nat.le_refl _) _).al _⟩
  · have hr := decide_eq_false h
    rw [firstS, if_neg h]
    go_enter Try.func86, Try.ntmps86
    go_wp2_with fail
    refine (rright_any l a d _).mono ?_
    rintro e w' ⟨rfl, rfl⟩
    rw [hr]
    dsimp only
    go_wp2_with fail
    go_ret
    exact ⟨rfl, ((Below.refl _ w).alloc (Nat.le_refl _) _).al _⟩
end Go.Proofs.Ytajeohmmobgcjaa
