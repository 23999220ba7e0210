/- The walk of spencekit.Pick: the remainder, from nought on. -/
import Derived.Test.YtajeohmmobgcjaaMBase
namespace Go.Proofs.Ytajeohmmobgcjaa
open Go.RowKit
set_option maxHeartbeats 400000 in
theorem pick_any (x n : Int) (w : World) (h1 : 1 ≤ n) (h2 : n ≤ 4294967296) (_hx : -9223372036854775808 ≤ x ∧ x ≤ 9223372036854775807) :
    Calls Try.prog 28 #[.int .i64 x, .int .i64 n] w fun e w' => e = .returned (.int .i64 (x % n)) ∧ w = w' := by
  have hlt : x % n < n := Int.emod_lt_of_pos _ (by omega)
  have hge : 0 ≤ x % n := Int.emod_nonneg _ (by omega)
  by_cases h : x.tmod n < 0
  · have hr : x.tmod n + n = x % n := by
      rw [Int.tmod_eq_emod]
      split
      · rename_i h3
        rw [Int.tmod_eq_emod, if_pos h3] at h; omega
      · rw [Int.natAbs_of_nonneg (by omega)]; omega
    go_enter Try.func28, Try.ntmps28
    go_wp2
    go_ret
    refine ⟨ret_int ?_, rfl⟩
    first | rfl | rw [hr] | (rw [hr]; exact IntWalk.wrap64_in _ (by omega))
  · have hr : x.tmod n = x % n := by
      rw [Int.tmod_eq_emod] at h ⊢
      split
      · omega
      · rename_i h3
        rw [if_neg h3, Int.natAbs_of_nonneg (by omega)] at h
        omega
    go_enter Try.func28, Try.ntmps28
    go_wp2
    go_ret
    exact ⟨ret_int (by first | rfl | exact hr), rfl⟩

end Go.Proofs.Ytajeohmmobgcjaa
