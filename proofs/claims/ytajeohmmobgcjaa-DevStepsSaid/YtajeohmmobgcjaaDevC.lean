/- package dev: what there is to say of a device. -/
import Derived.Test.YtajeohmmobgcjaaDevB
import Derived.Test.YtajeohmmobgcjaaQuietTail
import Derived.BigQuiet
namespace Go.Proofs.Ytajeohmmobgcjaa
open Go Go.RowKit
set_option maxRecDepth 100000 in
set_option maxHeartbeats 1000000 in
theorem stat_any {de fu : Int} {dn : Bool} {a : Addr} {n c g m pc : Nat} {pa : Option Addr} (w : World) (hb : Blk w g 107 (dv de fu dn (.slice (some a) n c) (.slice pa m pc))) :
    Calls Try.prog 36 #[.pointer (some ⟨g, 0, none⟩)] w fun e w' => e = .returned (.agg #[.int .i64 (n : Int), .int .i64 (m : Int), .int .i64 de, .bool dn]) ∧ Below w.heap.size w w' := by
  have hlt := hb.lt
  obtain ⟨q, hq⟩ : ∃ q, q = w.heap.size := ⟨_, rfl⟩
  have HQ := hide hq
  have hb0 := hb.alloc (.cells #[.int .i64 0, .int .i64 0, .int .i64 0, .bool false] 58)
  have c0 := (hb.cell 0).trans (dv0 ..)
  have c2 := (hb.cell 2).trans (dv2 ..)
  have c3 := (hb.cell 3).trans (dv3 ..)
  have c4 := (hb.cell 4).trans (dv4 ..)
  have H := hide hb0
  clear hb hb0 hq
  go_enter Try.func36, Try.ntmps36
  go_wp2_with (go_at_call 63; refine (dnone_any _ H.out).mono ?_; rintro e w' ⟨rfl, rfl⟩)
  refine wp_quiet_tail_drewN 21 (by kernel_rfl) (by kernel_rfl) ?_
  simp only [List.take_succ_cons, List.take_zero, List.drop_succ_cons, List.drop_zero]
  repeat (go_big_quiet_step (fail))
  refine wpQuiet_nil ?_
  intro nq
  go_wp2_with fail
  have hblk := (((((Blk.new w 58 #[.int .i64 0, .int .i64 0, .int .i64 0, .bool false]).drewN nq).set_ 0 (.int .i64 (n : Int))).set_ 1 (.int .i64 (m : Int))).set_ 2 (.int .i64 de)).set_ 3 (.bool dn)
  refine bodyPost_ret (results_cell_row rfl _ _ w.heap.size 58 #[.int .i64 (n : Int), .int .i64 (m : Int), .int .i64 de, .bool dn] (0, 0) _ rfl hblk Try.underlying58 rfl (by kernel_rfl)) rfl ⟨rfl, ?_⟩
  have h1 : Below w.heap.size w (w.alloc (.cells #[.int .i64 0, .int .i64 0, .int .i64 0, .bool false] 58)) := (Below.refl _ _).alloc (Nat.le_refl _) _
  exact ((((below_drewN h1 nq).setCell (Nat.le_refl _) _).setCell (Nat.le_refl _) _).setCell (Nat.le_refl _) _).setCell (Nat.le_refl _) _
end Go.Proofs.Ytajeohmmobgcjaa
