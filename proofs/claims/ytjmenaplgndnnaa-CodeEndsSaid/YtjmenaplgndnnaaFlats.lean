/- spencekit: the flat.. of each kind but bytes, where there is nothing of that kind. -/
import Derived.Test.YtjmenaplgndnnaaBase3
import Derived.Deep.OwnRows
namespace Go.Proofs.Ytjmenaplgndnnaa
open Go Go.RowKit
theorem info_Limbs : (Try.prog.info? 141).map (fun i => (i.zero, i.size, i.bytes)) = some (some (.slice none 0 0), 1, 24) := by kernel_rfl
set_option maxRecDepth 100000 in
set_option maxHeartbeats 1000000 in
theorem flatLimbs_nil (w : World) : Calls Try.prog 64 #[.slice none 0 0] w fun e w' => e = .returned (.bool true) ∧ Below w.heap.size w w' := by
  obtain ⟨i, hi, hz0, hz1, hz2⟩ := info_parts info_Limbs
  go_enter Try.func64, Try.ntmps64
  go_wp2_with fail
  refine wp_loop_once ?_
  go_wp2_with (at_make; refine wpList_make_row _ rfl _ _ 76 rfl 141 i (.slice none 0 0) Try.underlying76 hi hz0 hz1 rfl _ _ 0 rfl rfl ?e0 ?e1 ?_)
  case e0 => rw [hz2]; omega
  case e1 => omega
  go_wp2_with fail
  refine wp_loop_once ?_
  go_wp2_with fail
  refine wp_loop_once ?_
  go_wp2_with fail
  refine wp_loop_once ?_
  go_wp2_with fail
  refine wp_loop_once ?_
  go_wp2_with fail
  go_ret
  exact ⟨rfl, (Below.refl _ _).alloc (Nat.le_refl _) _⟩
theorem info_Words : (Try.prog.info? 142).map (fun i => (i.zero, i.size, i.bytes)) = some (some (.slice none 0 0), 1, 24) := by kernel_rfl
set_option maxRecDepth 100000 in
set_option maxHeartbeats 1000000 in
theorem flatWords_nil (w : World) : Calls Try.prog 65 #[.slice none 0 0] w fun e w' => e = .returned (.bool true) ∧ Below w.heap.size w w' := by
  obtain ⟨i, hi, hz0, hz1, hz2⟩ := info_parts info_Words
  go_enter Try.func65, Try.ntmps65
  go_wp2_with fail
  refine wp_loop_once ?_
  go_wp2_with (at_make; refine wpList_make_row _ rfl _ _ 77 rfl 142 i (.slice none 0 0) Try.underlying77 hi hz0 hz1 rfl _ _ 0 rfl rfl ?e0 ?e1 ?_)
  case e0 => rw [hz2]; omega
  case e1 => omega
  go_wp2_with fail
  refine wp_loop_once ?_
  go_wp2_with fail
  refine wp_loop_once ?_
  go_wp2_with fail
  refine wp_loop_once ?_
  go_wp2_with fail
  refine wp_loop_once ?_
  go_wp2_with fail
  go_ret
  exact ⟨rfl, (Below.refl _ _).alloc (Nat.le_refl _) _⟩
theorem info_Ints : (Try.prog.info? 71).map (fun i => (i.zero, i.size, i.bytes)) = some (some (.slice none 0 0), 1, 24) := by kernel_rfl
set_option maxRecDepth 100000 in
set_option maxHeartbeats 1000000 in
theorem flatInts_nil (w : World) : Calls Try.prog 66 #[.slice none 0 0] w fun e w' => e = .returned (.bool true) ∧ Below w.heap.size w w' := by
  obtain ⟨i, hi, hz0, hz1, hz2⟩ := info_parts info_Ints
  go_enter Try.func66, Try.ntmps66
  go_wp2_with fail
  refine wp_loop_once ?_
  go_wp2_with (at_make; refine wpList_make_row _ rfl _ _ 78 rfl 71 i (.slice none 0 0) Try.underlying78 hi hz0 hz1 rfl _ _ 0 rfl rfl ?e0 ?e1 ?_)
  case e0 => rw [hz2]; omega
  case e1 => omega
  go_wp2_with fail
  refine wp_loop_once ?_
  go_wp2_with fail
  refine wp_loop_once ?_
  go_wp2_with fail
  refine wp_loop_once ?_
  go_wp2_with fail
  refine wp_loop_once ?_
  go_wp2_with fail
  go_ret
  exact ⟨rfl, (Below.refl _ _).alloc (Nat.le_refl _) _⟩
theorem info_Longs : (Try.prog.info? 143).map (fun i => (i.zero, i.size, i.bytes)) = some (some (.slice none 0 0), 1, 24) := by kernel_rfl
set_option maxRecDepth 100000 in
set_option maxHeartbeats 1000000 in
theorem flatLongs_nil (w : World) : Calls Try.prog 67 #[.slice none 0 0] w fun e w' => e = .returned (.bool true) ∧ Below w.heap.size w w' := by
  obtain ⟨i, hi, hz0, hz1, hz2⟩ := info_parts info_Longs
  go_enter Try.func67, Try.ntmps67
  go_wp2_with fail
  refine wp_loop_once ?_
  go_wp2_with (at_make; refine wpList_make_row _ rfl _ _ 79 rfl 143 i (.slice none 0 0) Try.underlying79 hi hz0 hz1 rfl _ _ 0 rfl rfl ?e0 ?e1 ?_)
  case e0 => rw [hz2]; omega
  case e1 => omega
  go_wp2_with fail
  refine wp_loop_once ?_
  go_wp2_with fail
  refine wp_loop_once ?_
  go_wp2_with fail
  refine wp_loop_once ?_
  go_wp2_with fail
  refine wp_loop_once ?_
  go_wp2_with fail
  go_ret
  exact ⟨rfl, (Below.refl _ _).alloc (Nat.le_refl _) _⟩
theorem info_Texts : (Try.prog.info? 144).map (fun i => (i.zero, i.size, i.bytes)) = some (some (.slice none 0 0), 1, 24) := by kernel_rfl
set_option maxRecDepth 100000 in
set_option maxHeartbeats 1000000 in
theorem flatTexts_nil (w : World) : Calls Try.prog 68 #[.slice none 0 0] w fun e w' => e = .returned (.bool true) ∧ Below w.heap.size w w' := by
  obtain ⟨i, hi, hz0, hz1, hz2⟩ := info_parts info_Texts
  go_enter Try.func68, Try.ntmps68
  go_wp2_with fail
  refine wp_loop_once ?_
  go_wp2_with (at_make; refine wpList_make_row _ rfl _ _ 80 rfl 144 i (.slice none 0 0) Try.underlying80 hi hz0 hz1 rfl _ _ 0 rfl rfl ?e0 ?e1 ?_)
  case e0 => rw [hz2]; omega
  case e1 => omega
  go_wp2_with fail
  refine wp_loop_once ?_
  go_wp2_with fail
  refine wp_loop_once ?_
  go_wp2_with fail
  refine wp_loop_once ?_
  go_wp2_with fail
  refine wp_loop_once ?_
  go_wp2_with fail
  go_ret
  exact ⟨rfl, (Below.refl _ _).alloc (Nat.le_refl _) _⟩
theorem info_Truths : (Try.prog.info? 146).map (fun i => (i.zero, i.size, i.bytes)) = some (some (.slice none 0 0), 1, 24) := by kernel_rfl
set_option maxRecDepth 100000 in
set_option maxHeartbeats 1000000 in
theorem flatTruths_nil (w : World) : Calls Try.prog 70 #[.slice none 0 0] w fun e w' => e = .returned (.bool true) ∧ Below w.heap.size w w' := by
  obtain ⟨i, hi, hz0, hz1, hz2⟩ := info_parts info_Truths
  go_enter Try.func70, Try.ntmps70
  go_wp2_with fail
  refine wp_loop_once ?_
  go_wp2_with (at_make; refine wpList_make_row _ rfl _ _ 81 rfl 146 i (.slice none 0 0) Try.underlying81 hi hz0 hz1 rfl _ _ 0 rfl rfl ?e0 ?e1 ?_)
  case e0 => rw [hz2]; omega
  case e1 => omega
  go_wp2_with fail
  refine wp_loop_once ?_
  go_wp2_with fail
  refine wp_loop_once ?_
  go_wp2_with fail
  refine wp_loop_once ?_
  go_wp2_with fail
  refine wp_loop_once ?_
  go_wp2_with fail
  go_ret
  exact ⟨rfl, (Below.refl _ _).alloc (Nat.le_refl _) _⟩
theorem info_Paths : (Try.prog.info? 147).map (fun i => (i.zero, i.size, i.bytes)) = some (some (.slice none 0 0), 1, 24) := by kernel_rfl
set_option maxRecDepth 100000 in
set_option maxHeartbeats 1000000 in
theorem flatPaths_nil (w : World) : Calls Try.prog 71 #[.slice none 0 0] w fun e w' => e = .returned (.bool true) ∧ Below w.heap.size w w' := by
  obtain ⟨i, hi, hz0, hz1, hz2⟩ := info_parts info_Paths
  go_enter Try.func71, Try.ntmps71
  go_wp2_with fail
  refine wp_loop_once ?_
  go_wp2_with (at_make; refine wpList_make_row _ rfl _ _ 82 rfl 147 i (.slice none 0 0) Try.underlying82 hi hz0 hz1 rfl _ _ 0 rfl rfl ?e0 ?e1 ?_)
  case e0 => rw [hz2]; omega
  case e1 => omega
  go_wp2_with fail
  refine wp_loop_once ?_
  go_wp2_with fail
  refine wp_loop_once ?_
  go_wp2_with fail
  refine wp_loop_once ?_
  go_wp2_with fail
  refine wp_loop_once ?_
  go_wp2_with fail
  go_ret
  exact ⟨rfl, (Below.refl _ _).alloc (Nat.le_refl _) _⟩
theorem info_Kids : (Try.prog.info? 151).map (fun i => (i.zero, i.size, i.bytes)) = some (some (.slice none 0 0), 1, 24) := by kernel_rfl
set_option maxRecDepth 100000 in
set_option maxHeartbeats 1000000 in
theorem flatKids_nil (w : World) : Calls Try.prog 72 #[.slice none 0 0] w fun e w' => e = .returned (.bool true) ∧ Below w.heap.size w w' := by
  obtain ⟨i, hi, hz0, hz1, hz2⟩ := info_parts info_Kids
  go_enter Try.func72, Try.ntmps72
  go_wp2_with fail
  refine wp_loop_once ?_
  go_wp2_with (at_make; refine wpList_make_row _ rfl _ _ 83 rfl 151 i (.slice none 0 0) Try.underlying83 hi hz0 hz1 rfl _ _ 0 rfl rfl ?e0 ?e1 ?_)
  case e0 => rw [hz2]; omega
  case e1 => omega
  go_wp2_with fail
  refine wp_loop_once ?_
  go_wp2_with fail
  refine wp_loop_once ?_
  go_wp2_with fail
  refine wp_loop_once ?_
  go_wp2_with fail
  refine wp_loop_once ?_
  go_wp2_with fail
  go_ret
  exact ⟨rfl, (Below.refl _ _).alloc (Nat.le_refl _) _⟩
theorem info_Nodes : (Try.prog.info? 159).map (fun i => (i.zero, i.size, i.bytes)) = some (some (.slice none 0 0), 1, 24) := by kernel_rfl
set_option maxRecDepth 100000 in
set_option maxHeartbeats 1000000 in
theorem flatNodes_nil (w : World) : Calls Try.prog 73 #[.slice none 0 0] w fun e w' => e = .returned (.bool true) ∧ Below w.heap.size w w' := by
  obtain ⟨i, hi, hz0, hz1, hz2⟩ := info_parts info_Nodes
  go_enter Try.func73, Try.ntmps73
  go_wp2_with fail
  refine wp_loop_once ?_
  go_wp2_with (at_make; refine wpList_make_row _ rfl _ _ 84 rfl 159 i (.slice none 0 0) Try.underlying84 hi hz0 hz1 rfl _ _ 0 rfl rfl ?e0 ?e1 ?_)
  case e0 => rw [hz2]; omega
  case e1 => omega
  go_wp2_with fail
  refine wp_loop_once ?_
  go_wp2_with fail
  refine wp_loop_once ?_
  go_wp2_with fail
  refine wp_loop_once ?_
  go_wp2_with fail
  refine wp_loop_once ?_
  go_wp2_with fail
  go_ret
  exact ⟨rfl, (Below.refl _ _).alloc (Nat.le_refl _) _⟩
theorem info_Lines : (Try.prog.info? 162).map (fun i => (i.zero, i.size, i.bytes)) = some (some (.slice none 0 0), 1, 24) := by kernel_rfl
set_option maxRecDepth 100000 in
set_option maxHeartbeats 1000000 in
theorem flatLines_nil (w : World) : Calls Try.prog 74 #[.slice none 0 0] w fun e w' => e = .returned (.bool true) ∧ Below w.heap.size w w' := by
  obtain ⟨i, hi, hz0, hz1, hz2⟩ := info_parts info_Lines
  go_enter Try.func74, Try.ntmps74
  go_wp2_with fail
  refine wp_loop_once ?_
  go_wp2_with (at_make; refine wpList_make_row _ rfl _ _ 85 rfl 162 i (.slice none 0 0) Try.underlying85 hi hz0 hz1 rfl _ _ 0 rfl rfl ?e0 ?e1 ?_)
  case e0 => rw [hz2]; omega
  case e1 => omega
  go_wp2_with fail
  refine wp_loop_once ?_
  go_wp2_with fail
  refine wp_loop_once ?_
  go_wp2_with fail
  refine wp_loop_once ?_
  go_wp2_with fail
  refine wp_loop_once ?_
  go_wp2_with fail
  go_ret
  exact ⟨rfl, (Below.refl _ _).alloc (Nat.le_refl _) _⟩
theorem info_Changes : (Try.prog.info? 167).map (fun i => (i.zero, i.size, i.bytes)) = some (some (.slice none 0 0), 1, 24) := by kernel_rfl
set_option maxRecDepth 100000 in
set_option maxHeartbeats 1000000 in
theorem flatChanges_nil (w : World) : Calls Try.prog 75 #[.slice none 0 0] w fun e w' => e = .returned (.bool true) ∧ Below w.heap.size w w' := by
  obtain ⟨i, hi, hz0, hz1, hz2⟩ := info_parts info_Changes
  go_enter Try.func75, Try.ntmps75
  go_wp2_with fail
  refine wp_loop_once ?_
  go_wp2_with (at_make; refine wpList_make_row _ rfl _ _ 86 rfl 167 i (.slice none 0 0) Try.underlying86 hi hz0 hz1 rfl _ _ 0 rfl rfl ?e0 ?e1 ?_)
  case e0 => rw [hz2]; omega
  case e1 => omega
  go_wp2_with fail
  refine wp_loop_once ?_
  go_wp2_with fail
  refine wp_loop_once ?_
  go_wp2_with fail
  refine wp_loop_once ?_
  go_wp2_with fail
  refine wp_loop_once ?_
  go_wp2_with fail
  go_ret
  exact ⟨rfl, (Below.refl _ _).alloc (Nat.le_refl _) _⟩
theorem info_Runs : (Try.prog.info? 172).map (fun i => (i.zero, i.size, i.bytes)) = some (some (.slice none 0 0), 1, 24) := by kernel_rfl
set_option maxRecDepth 100000 in
set_option maxHeartbeats 1000000 in
theorem flatRuns_nil (w : World) : Calls Try.prog 76 #[.slice none 0 0] w fun e w' => e = .returned (.bool true) ∧ Below w.heap.size w w' := by
  obtain ⟨i, hi, hz0, hz1, hz2⟩ := info_parts info_Runs
  go_enter Try.func76, Try.ntmps76
  go_wp2_with fail
  refine wp_loop_once ?_
  go_wp2_with (at_make; refine wpList_make_row _ rfl _ _ 87 rfl 172 i (.slice none 0 0) Try.underlying87 hi hz0 hz1 rfl _ _ 0 rfl rfl ?e0 ?e1 ?_)
  case e0 => rw [hz2]; omega
  case e1 => omega
  go_wp2_with fail
  refine wp_loop_once ?_
  go_wp2_with fail
  refine wp_loop_once ?_
  go_wp2_with fail
  refine wp_loop_once ?_
  go_wp2_with fail
  refine wp_loop_once ?_
  go_wp2_with fail
  go_ret
  exact ⟨rfl, (Below.refl _ _).alloc (Nat.le_refl _) _⟩
theorem info_Objects : (Try.prog.info? 176).map (fun i => (i.zero, i.size, i.bytes)) = some (some (.slice none 0 0), 1, 24) := by kernel_rfl
set_option maxRecDepth 100000 in
set_option maxHeartbeats 1000000 in
theorem flatObjects_nil (w : World) : Calls Try.prog 77 #[.slice none 0 0] w fun e w' => e = .returned (.bool true) ∧ Below w.heap.size w w' := by
  obtain ⟨i, hi, hz0, hz1, hz2⟩ := info_parts info_Objects
  go_enter Try.func77, Try.ntmps77
  go_wp2_with fail
  refine wp_loop_once ?_
  go_wp2_with (at_make; refine wpList_make_row _ rfl _ _ 88 rfl 176 i (.slice none 0 0) Try.underlying88 hi hz0 hz1 rfl _ _ 0 rfl rfl ?e0 ?e1 ?_)
  case e0 => rw [hz2]; omega
  case e1 => omega
  go_wp2_with fail
  refine wp_loop_once ?_
  go_wp2_with fail
  refine wp_loop_once ?_
  go_wp2_with fail
  refine wp_loop_once ?_
  go_wp2_with fail
  refine wp_loop_once ?_
  go_wp2_with fail
  go_ret
  exact ⟨rfl, (Below.refl _ _).alloc (Nat.le_refl _) _⟩
theorem info_Quotas : (Try.prog.info? 181).map (fun i => (i.zero, i.size, i.bytes)) = some (some (.slice none 0 0), 1, 24) := by kernel_rfl
set_option maxRecDepth 100000 in
set_option maxHeartbeats 1000000 in
theorem flatQuotas_nil (w : World) : Calls Try.prog 78 #[.slice none 0 0] w fun e w' => e = .returned (.bool true) ∧ Below w.heap.size w w' := by
  obtain ⟨i, hi, hz0, hz1, hz2⟩ := info_parts info_Quotas
  go_enter Try.func78, Try.ntmps78
  go_wp2_with fail
  refine wp_loop_once ?_
  go_wp2_with (at_make; refine wpList_make_row _ rfl _ _ 89 rfl 181 i (.slice none 0 0) Try.underlying89 hi hz0 hz1 rfl _ _ 0 rfl rfl ?e0 ?e1 ?_)
  case e0 => rw [hz2]; omega
  case e1 => omega
  go_wp2_with fail
  refine wp_loop_once ?_
  go_wp2_with fail
  refine wp_loop_once ?_
  go_wp2_with fail
  refine wp_loop_once ?_
  go_wp2_with fail
  refine wp_loop_once ?_
  go_wp2_with fail
  go_ret
  exact ⟨rfl, (Below.refl _ _).alloc (Nat.le_refl _) _⟩
theorem info_Nameds : (Try.prog.info? 185).map (fun i => (i.zero, i.size, i.bytes)) = some (some (.slice none 0 0), 1, 24) := by kernel_rfl
set_option maxRecDepth 100000 in
set_option maxHeartbeats 1000000 in
theorem flatNameds_nil (w : World) : Calls Try.prog 79 #[.slice none 0 0] w fun e w' => e = .returned (.bool true) ∧ Below w.heap.size w w' := by
  obtain ⟨i, hi, hz0, hz1, hz2⟩ := info_parts info_Nameds
  go_enter Try.func79, Try.ntmps79
  go_wp2_with fail
  refine wp_loop_once ?_
  go_wp2_with (at_make; refine wpList_make_row _ rfl _ _ 90 rfl 185 i (.slice none 0 0) Try.underlying90 hi hz0 hz1 rfl _ _ 0 rfl rfl ?e0 ?e1 ?_)
  case e0 => rw [hz2]; omega
  case e1 => omega
  go_wp2_with fail
  refine wp_loop_once ?_
  go_wp2_with fail
  refine wp_loop_once ?_
  go_wp2_with fail
  refine wp_loop_once ?_
  go_wp2_with fail
  refine wp_loop_once ?_
  go_wp2_with fail
  go_ret
  exact ⟨rfl, (Below.refl _ _).alloc (Nat.le_refl _) _⟩
theorem info_Drvs : (Try.prog.info? 191).map (fun i => (i.zero, i.size, i.bytes)) = some (some (.slice none 0 0), 1, 24) := by kernel_rfl
set_option maxRecDepth 100000 in
set_option maxHeartbeats 1000000 in
theorem flatDrvs_nil (w : World) : Calls Try.prog 80 #[.slice none 0 0] w fun e w' => e = .returned (.bool true) ∧ Below w.heap.size w w' := by
  obtain ⟨i, hi, hz0, hz1, hz2⟩ := info_parts info_Drvs
  go_enter Try.func80, Try.ntmps80
  go_wp2_with fail
  refine wp_loop_once ?_
  go_wp2_with (at_make; refine wpList_make_row _ rfl _ _ 91 rfl 191 i (.slice none 0 0) Try.underlying91 hi hz0 hz1 rfl _ _ 0 rfl rfl ?e0 ?e1 ?_)
  case e0 => rw [hz2]; omega
  case e1 => omega
  go_wp2_with fail
  refine wp_loop_once ?_
  go_wp2_with fail
  refine wp_loop_once ?_
  go_wp2_with fail
  refine wp_loop_once ?_
  go_wp2_with fail
  refine wp_loop_once ?_
  go_wp2_with fail
  go_ret
  exact ⟨rfl, (Below.refl _ _).alloc (Nat.le_refl _) _⟩
theorem info_Mades : (Try.prog.info? 196).map (fun i => (i.zero, i.size, i.bytes)) = some (some (.slice none 0 0), 1, 24) := by kernel_rfl
set_option maxRecDepth 100000 in
set_option maxHeartbeats 1000000 in
theorem flatMades_nil (w : World) : Calls Try.prog 81 #[.slice none 0 0] w fun e w' => e = .returned (.bool true) ∧ Below w.heap.size w w' := by
  obtain ⟨i, hi, hz0, hz1, hz2⟩ := info_parts info_Mades
  go_enter Try.func81, Try.ntmps81
  go_wp2_with fail
  refine wp_loop_once ?_
  go_wp2_with (at_make; refine wpList_make_row _ rfl _ _ 92 rfl 196 i (.slice none 0 0) Try.underlying92 hi hz0 hz1 rfl _ _ 0 rfl rfl ?e0 ?e1 ?_)
  case e0 => rw [hz2]; omega
  case e1 => omega
  go_wp2_with fail
  refine wp_loop_once ?_
  go_wp2_with fail
  refine wp_loop_once ?_
  go_wp2_with fail
  refine wp_loop_once ?_
  go_wp2_with fail
  refine wp_loop_once ?_
  go_wp2_with fail
  go_ret
  exact ⟨rfl, (Below.refl _ _).alloc (Nat.le_refl _) _⟩
theorem info_Builts : (Try.prog.info? 200).map (fun i => (i.zero, i.size, i.bytes)) = some (some (.slice none 0 0), 1, 24) := by kernel_rfl
set_option maxRecDepth 100000 in
set_option maxHeartbeats 1000000 in
theorem flatBuilts_nil (w : World) : Calls Try.prog 82 #[.slice none 0 0] w fun e w' => e = .returned (.bool true) ∧ Below w.heap.size w w' := by
  obtain ⟨i, hi, hz0, hz1, hz2⟩ := info_parts info_Builts
  go_enter Try.func82, Try.ntmps82
  go_wp2_with fail
  refine wp_loop_once ?_
  go_wp2_with (at_make; refine wpList_make_row _ rfl _ _ 93 rfl 200 i (.slice none 0 0) Try.underlying93 hi hz0 hz1 rfl _ _ 0 rfl rfl ?e0 ?e1 ?_)
  case e0 => rw [hz2]; omega
  case e1 => omega
  go_wp2_with fail
  refine wp_loop_once ?_
  go_wp2_with fail
  refine wp_loop_once ?_
  go_wp2_with fail
  refine wp_loop_once ?_
  go_wp2_with fail
  refine wp_loop_once ?_
  go_wp2_with fail
  go_ret
  exact ⟨rfl, (Below.refl _ _).alloc (Nat.le_refl _) _⟩
theorem info_Requests : (Try.prog.info? 205).map (fun i => (i.zero, i.size, i.bytes)) = some (some (.slice none 0 0), 1, 24) := by kernel_rfl
set_option maxRecDepth 100000 in
set_option maxHeartbeats 1000000 in
theorem flatRequests_nil (w : World) : Calls Try.prog 83 #[.slice none 0 0] w fun e w' => e = .returned (.bool true) ∧ Below w.heap.size w w' := by
  obtain ⟨i, hi, hz0, hz1, hz2⟩ := info_parts info_Requests
  go_enter Try.func83, Try.ntmps83
  go_wp2_with fail
  refine wp_loop_once ?_
  go_wp2_with (at_make; refine wpList_make_row _ rfl _ _ 94 rfl 205 i (.slice none 0 0) Try.underlying94 hi hz0 hz1 rfl _ _ 0 rfl rfl ?e0 ?e1 ?_)
  case e0 => rw [hz2]; omega
  case e1 => omega
  go_wp2_with fail
  refine wp_loop_once ?_
  go_wp2_with fail
  refine wp_loop_once ?_
  go_wp2_with fail
  refine wp_loop_once ?_
  go_wp2_with fail
  refine wp_loop_once ?_
  go_wp2_with fail
  go_ret
  exact ⟨rfl, (Below.refl _ _).alloc (Nat.le_refl _) _⟩
theorem info_Replies : (Try.prog.info? 211).map (fun i => (i.zero, i.size, i.bytes)) = some (some (.slice none 0 0), 1, 24) := by kernel_rfl
set_option maxRecDepth 100000 in
set_option maxHeartbeats 1000000 in
theorem flatReplies_nil (w : World) : Calls Try.prog 84 #[.slice none 0 0] w fun e w' => e = .returned (.bool true) ∧ Below w.heap.size w w' := by
  obtain ⟨i, hi, hz0, hz1, hz2⟩ := info_parts info_Replies
  go_enter Try.func84, Try.ntmps84
  go_wp2_with fail
  refine wp_loop_once ?_
  go_wp2_with (at_make; refine wpList_make_row _ rfl _ _ 95 rfl 211 i (.slice none 0 0) Try.underlying95 hi hz0 hz1 rfl _ _ 0 rfl rfl ?e0 ?e1 ?_)
  case e0 => rw [hz2]; omega
  case e1 => omega
  go_wp2_with fail
  refine wp_loop_once ?_
  go_wp2_with fail
  refine wp_loop_once ?_
  go_wp2_with fail
  refine wp_loop_once ?_
  go_wp2_with fail
  refine wp_loop_once ?_
  go_wp2_with fail
  go_ret
  exact ⟨rfl, (Below.refl _ _).alloc (Nat.le_refl _) _⟩
end Go.Proofs.Ytjmenaplgndnnaa
