/- package dev: where there is no device. -/
import Derived.Test.YtajeohmmobgcjaaDevDo
namespace Go.Proofs.Ytajeohmmobgcjaa
open Go Go.RowKit
/-- no device: nil, or one that has no sectors -/
def NoDev (w : World) (p : Option Addr) : Prop := p = none ∨ ∃ g, p = some ⟨g, 0, none⟩ ∧ Blk w g 107 (dv 0 0 false (.slice none 0 0) (.slice none 0 0))
theorem NoDev.below {w w' : World} {p : Option Addr} (h : NoDev w p) (hb : Below w.heap.size w w') : NoDev w' p := by
  rcases h with h | ⟨g, h1, h2⟩
  · exact .inl h
  · exact .inr ⟨g, h1, h2.below hb h2.lt⟩
set_option maxRecDepth 100000
theorem dnone_no (p : Option Addr) (w : World) (h : NoDev w p) : Calls Try.prog 63 #[.pointer p] w fun e w' => e = .returned (.bool true) ∧ w' = w := by
  rcases h with rfl | ⟨g, rfl, hb⟩
  · go_enter Try.func63, Try.ntmps63
    go_wp2
    go_ret
    exact ⟨rfl, rfl⟩
  · have c3 := (hb.cell 3).trans (dv3 ..)
    have hlt := hb.lt
    have hq := fun (w : World) (a : Option Addr) (n c : Nat) => Lib.run_eql_slice_nil (P := Try.prog) w 102 109 a n c 0 0 Try.underlying102
    clear hb
    go_enter Try.func63, Try.ntmps63
    go_wp2
    go_ret
    exact ⟨rfl, rfl⟩
theorem able_no (p : Option Addr) (w : World) (h : NoDev w p) : Calls Try.prog 58 #[.pointer p] w fun e w' => e = .returned (.int .i64 1) ∧ w' = w := by
  go_enter Try.func58, Try.ntmps58
  go_wp2_with fail
  refine (dnone_no _ _ h).mono ?_
  rintro e w' ⟨rfl, rfl⟩
  dsimp only
  go_wp2_with fail
  go_ret
  exact ⟨rfl, rfl⟩
theorem write_no (p : Option Addr) (x : Int) (v : Value) (w : World) (h : NoDev w p) : Calls Try.prog 27 #[.pointer p, .int .i64 x, v] w fun e w' => e = .returned (.int .i64 1) ∧ w' = w := by
  go_enter Try.func27, Try.ntmps27
  go_wp2_with fail
  refine (able_no _ _ h).mono ?_
  rintro e w' ⟨rfl, rfl⟩
  dsimp only
  go_wp2_with fail
  go_ret
  exact ⟨rfl, rfl⟩
theorem flush_no (p : Option Addr) (w : World) (h : NoDev w p) : Calls Try.prog 29 #[.pointer p] w fun e w' => e = .returned (.int .i64 1) ∧ w' = w := by
  go_enter Try.func29, Try.ntmps29
  go_wp2_with fail
  refine (able_no _ _ h).mono ?_
  rintro e w' ⟨rfl, rfl⟩
  dsimp only
  go_wp2_with fail
  go_ret
  exact ⟨rfl, rfl⟩
theorem fuse_no (p : Option Addr) (x : Int) (w : World) (h : NoDev w p) : Calls Try.prog 35 #[.pointer p, .int .i64 x] w fun e w' => e = .returned (.int .i64 1) ∧ w' = w := by
  go_enter Try.func35, Try.ntmps35
  go_wp2_with fail
  refine (able_no _ _ h).mono ?_
  rintro e w' ⟨rfl, rfl⟩
  dsimp only
  go_wp2_with fail
  go_ret
  exact ⟨rfl, rfl⟩
theorem crash_no (p : Option Addr) (w : World) (h : NoDev w p) : Calls Try.prog 32 #[.pointer p] w fun e w' => e = .returned (.int .i64 1) ∧ w' = w := by
  go_enter Try.func32, Try.ntmps32
  go_wp2_with fail
  refine (able_no _ _ h).mono ?_
  rintro e w' ⟨rfl, rfl⟩
  dsimp only
  go_wp2_with fail
  go_ret
  exact ⟨rfl, rfl⟩
theorem wake_no (p : Option Addr) (x : Int) (w : World) (h : NoDev w p) : Calls Try.prog 33 #[.pointer p, .int .i64 x] w fun e w' => e = .returned (.int .i64 1) ∧ w' = w := by
  go_enter Try.func33, Try.ntmps33
  go_wp2_with fail
  refine (able_no _ _ h).mono ?_
  rintro e w' ⟨rfl, rfl⟩
  dsimp only
  go_wp2_with fail
  go_ret
  exact ⟨rfl, rfl⟩
theorem spoil_no (p : Option Addr) (x y : Int) (w : World) (h : NoDev w p) : Calls Try.prog 69 #[.pointer p, .int .i64 x, .int .i64 y] w fun e w' => e = .returned (.int .i64 1) ∧ w' = w := by
  go_enter Try.func69, Try.ntmps69
  go_wp2_with fail
  refine (dnone_no _ _ h).mono ?_
  rintro e w' ⟨rfl, rfl⟩
  dsimp only
  go_wp2_with fail
  go_ret
  exact ⟨rfl, rfl⟩
theorem kept_no (p : Option Addr) (w : World) (h : NoDev w p) : Calls Try.prog 30 #[.pointer p] w fun e w' => e = .returned (.slice none 0 0) ∧ w' = w := by
  go_enter Try.func30, Try.ntmps30
  go_wp2_with fail
  refine (dnone_no _ _ h).mono ?_
  rintro e w' ⟨rfl, rfl⟩
  dsimp only
  go_wp2_with fail
  go_ret
  exact ⟨rfl, rfl⟩
theorem read_no (p : Option Addr) (x : Int) (w : World) (h : NoDev w p) : Calls Try.prog 57 #[.pointer p, .int .i64 x] w fun e w' => e = .returned (.tuple #[.slice none 0 0, .int .i64 1]) ∧ Below w.heap.size w w' := by
  have hB0 : Below w.heap.size w (((w.alloc (.cells #[.int .i64 x] 3)).alloc (.cells #[.slice none 0 0] 48)).alloc (.cells #[.int .i64 0] 27)) := (((Below.refl _ w).alloc (Nat.le_refl _) _).alloc (by simp) _).alloc (by simp; omega) _
  have HH := hide (h.below hB0)
  clear hB0
  go_enter Try.func57, Try.ntmps57
  go_wp2_with fail
  refine (able_no _ _ HH.out).mono ?_
  rintro e w' ⟨rfl, rfl⟩
  dsimp only
  go_wp2_with fail
  refine bodyPost_ret (v := .tuple #[.slice none 0 0, .int .i64 1]) ?_ rfl ⟨rfl, ((((Below.refl _ w).alloc (Nat.le_refl _) _).alloc (by simp) _).alloc (by simp; omega) _)⟩
  simp [results, Try.f57, go_sem]
theorem stat_no (p : Option Addr) (w : World) (h : NoDev w p) : Calls Try.prog 36 #[.pointer p] w fun e w' => e = .returned (.agg #[.int .i64 0, .int .i64 0, .int .i64 0, .bool false]) ∧ Below w.heap.size w w' := by
  have hB0 : Below w.heap.size w (w.alloc (.cells #[.int .i64 0, .int .i64 0, .int .i64 0, .bool false] 58)) := (Below.refl _ w).alloc (Nat.le_refl _) _
  have HH := hide (And.intro (h.below hB0) hB0)
  clear hB0
  go_enter Try.func36, Try.ntmps36
  go_wp2_with fail
  refine (dnone_no _ _ HH.out.1).mono ?_
  rintro e w' ⟨rfl, rfl⟩
  dsimp only
  go_wp2_with fail
  refine bodyPost_ret (results_cell_row rfl _ _ w.heap.size 58 #[.int .i64 0, .int .i64 0, .int .i64 0, .bool false] (0, 0) _ rfl (Blk.new _ _ _) Try.underlying58 rfl (by kernel_rfl)) rfl ⟨rfl, HH.out.2⟩
end Go.Proofs.Ytajeohmmobgcjaa
