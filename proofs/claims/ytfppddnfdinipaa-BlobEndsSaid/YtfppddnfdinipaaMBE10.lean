/- spencelaw07: BlobEnds. Arguments opened: an array of bytes by value. Rows: arguments opened as readable bytes; a law's last step. spencelaw07.BlobEnds is true, and leaves all as it was. No condition. -/
import Derived.Test.YtfppddnfdinipaaMBE2
import Derived.Test.YtfppddnfdinipaaMBE7
import Derived.Test.YtfppddnfdinipaaMBE8
import Derived.Test.YtfppddnfdinipaaMBE9
import Derived.Test.YtfppddnfdinipaaMBE1
import Derived.ProofKit
import Derived.OpenShut
import Derived.Below
import Derived.ChangeSame
import Derived.Carry
import Derived.SizedLaws
import Derived.ChangeSlices
import Derived.Deep.Matrix
import Derived.ChangeMaps5
section
namespace Go.Proofs.Ytfppddnfdinipaa
open Go Go.RowKit
set_option maxRecDepth 100000
set_option maxHeartbeats 4000000 in
theorem ends_any (w : World) : Calls Try.prog 9 #[] w fun e w' => e = .returned (.bool true) ∧ Below w.heap.size w w' := by
  obtain ⟨w1, hw1⟩ : ∃ w1, w1 = (w.alloc (.cells #[.int .i64 1, .int .i64 1, .int .i64 6] 64)).alloc (.cells enCells 3) := ⟨_, rfl⟩
  have hb1 : Below w.heap.size w w1 := by rw [hw1]; exact ((Below.refl _ w).alloc (Nat.le_refl _) _).al _
  have hsh : Blk w1 w.heap.size 64 #[.int .i64 1, .int .i64 1, .int .i64 6] := by rw [hw1]; exact (Blk.new _ _ _).alloc _
  have hen : Blk w1 (w.heap.size + 1) 3 enCells := by
    rw [hw1]
    have := Blk.new (w.alloc (.cells #[.int .i64 1, .int .i64 1, .int .i64 6] 64)) 3 enCells
    rwa [size_alloc] at this
  have hs1 : w1.heap.size = w.heap.size + 2 := by rw [hw1, size_alloc, size_alloc]
  have HSH := hide (fun (W : World) (hW : Below w1.heap.size w1 W) => hsh.below hW hsh.lt)
  have HEN := hide (fun (W : World) (hW : Below w1.heap.size w1 W) (k : Nat) (hk : k < 8) => ((hen.below hW hen.lt).cell k).trans (en_cell k hk))
  have H1 := hide (And.intro hb1 hs1)
  clear hb1 hsh hen hs1
  unfold enCells at hw1
  go_enter Try.func9, Try.ntmps9
  go_wp2_with fail
  rw [← hw1]
  have HW1 := hide hw1
  clear hw1
  go_loopw [3] (fun x wr => ∃ n : Nat, n ≤ 64 ∧ x = .int .i64 (n : Int) ∧ Below w1.heap.size w1 wr) (fun x _ => 64 - (intOf x).toNat)
  case atStart => exact ⟨0, by omega, rfl, Below.refl _ _⟩
  case round =>
    obtain ⟨n, hn, rfl, hb⟩ := hrel
    have HB := hide hb
    clear hb
    have n2 : (0 : Int) ≤ (n : Int) := by omega
    by_cases hn2 : n < 64
    · have n1 : (n : Int) < 64 := by omega
      go_wp2_with fail
      refine Fre.wp_made (X := Blw) 12 [(4, BlkV #[.int .i64 0, .int .i64 0] wr.heap.size)] (by kernel_rfl) (by kernel_rfl) (by simp only [List.forall_mem_cons]; exact ⟨blkv_ok _ _, fun p hp => by cases hp⟩) (by simp) (by simp) ?_
      simp only [List.take_succ_cons, List.take_zero, List.drop_succ_cons, List.drop_zero]
      refine Fre.made_val (.slice (some ⟨w.heap.size + 1, 0, none⟩) 8 8) (by kernel_rfl) (by kernel_rfl) (by kernel_rfl) (fun _ _ => by kernel_rfl) ?_
      simp only [Act.put, List.setIfInBounds_toArray, List.set_cons_zero, List.set_cons_succ]
      refine Fre.made_val (.int .i64 (n : Int)) (by kernel_rfl) (by kernel_rfl) (by kernel_rfl) (fun _ _ => by kernel_rfl) ?_
      simp only [Act.put, List.setIfInBounds_toArray, List.set_cons_zero, List.set_cons_succ]
      refine Fre.made_val (.int .i64 ((n % 8 : Nat) : Int)) (by kernel_rfl) (by kernel_rfl) (by kernel_rfl) (fun W hW => ?hs1) ?_
      case hs1 =>
        go_simp
        exact Int.tmod_eq_emod_of_nonneg (by omega)
      simp only [Act.put, List.setIfInBounds_toArray, List.set_cons_zero, List.set_cons_succ]
      refine Fre.made_val (.pointer (some ⟨w.heap.size + 1, (((n % 8 : Nat) : Int)).toNat * 1, none⟩)) (by kernel_rfl) (by kernel_rfl) (by kernel_rfl) (fun W _ => exec_index (o := ⟨some 23, _, _, _, _, _⟩) 33 3 (.tmp 20) (.tmp 22) rfl (w.heap.size + 1) 8 8 ((n % 8 : Nat) : Int) .i64 rfl rfl ⟨by omega, by omega⟩ 1 Try.underlying33 (by kernel_rfl) W) ?_
      simp only [Act.put, List.setIfInBounds_toArray, List.set_cons_zero, List.set_cons_succ]
      rw [show (((n % 8 : Nat) : Int)).toNat * 1 = n % 8 by omega]
      refine Fre.made_val (.int .i64 (en (n % 8))) (by kernel_rfl) (by kernel_rfl) (by kernel_rfl) (fun W hW => exec_load_cell (o := ⟨some 24, _, _, _, _, _⟩) 3 (.tmp 23) rfl ⟨w.heap.size + 1, n % 8, none⟩ rfl _ _ W Try.underlying3 rfl ((HEN.out W (HB.out.trans (Below.mono hW HB.out.size)) (n % 8) (by omega)))) ?_
      simp only [Act.put, List.setIfInBounds_toArray, List.set_cons_zero, List.set_cons_succ]
      refine Fre.made_val (.slice (some ⟨w.heap.size + 1, 0, none⟩) 8 8) (by kernel_rfl) (by kernel_rfl) (by kernel_rfl) (fun _ _ => by kernel_rfl) ?_
      simp only [Act.put, List.setIfInBounds_toArray, List.set_cons_zero, List.set_cons_succ]
      refine Fre.made_val (.int .i64 (n : Int)) (by kernel_rfl) (by kernel_rfl) (by kernel_rfl) (fun _ _ => by kernel_rfl) ?_
      simp only [Act.put, List.setIfInBounds_toArray, List.set_cons_zero, List.set_cons_succ]
      refine Fre.made_val (.int .i64 ((n / 8 : Nat) : Int)) (by kernel_rfl) (by kernel_rfl) (by kernel_rfl) (fun W hW => ?hs2) ?_
      case hs2 =>
        go_simp
        exact wrapI ((n : Int) / 8) (by omega)
      simp only [Act.put, List.setIfInBounds_toArray, List.set_cons_zero, List.set_cons_succ]
      refine Fre.made_val (.pointer (some ⟨w.heap.size + 1, (((n / 8 : Nat) : Int)).toNat * 1, none⟩)) (by kernel_rfl) (by kernel_rfl) (by kernel_rfl) (fun W _ => exec_index (o := ⟨some 28, _, _, _, _, _⟩) 33 3 (.tmp 25) (.tmp 27) rfl (w.heap.size + 1) 8 8 ((n / 8 : Nat) : Int) .i64 rfl rfl ⟨by omega, by omega⟩ 1 Try.underlying33 (by kernel_rfl) W) ?_
      simp only [Act.put, List.setIfInBounds_toArray, List.set_cons_zero, List.set_cons_succ]
      rw [show (((n / 8 : Nat) : Int)).toNat * 1 = n / 8 by omega]
      refine Fre.made_val (.int .i64 (en (n / 8))) (by kernel_rfl) (by kernel_rfl) (by kernel_rfl) (fun W hW => exec_load_cell (o := ⟨some 29, _, _, _, _, _⟩) 3 (.tmp 28) rfl ⟨w.heap.size + 1, n / 8, none⟩ rfl _ _ W Try.underlying3 rfl ((HEN.out W (HB.out.trans (Below.mono hW HB.out.size)) (n / 8) (by omega)))) ?_
      simp only [Act.put, List.setIfInBounds_toArray, List.set_cons_zero, List.set_cons_succ]
      refine Fre.made_val (.agg #[.int .i64 (en (n % 8)), .int .i64 (en (n / 8))]) (by kernel_rfl) (by kernel_rfl) (by kernel_rfl) (fun _ _ => by kernel_rfl) ?_
      simp only [Act.put, List.setIfInBounds_toArray, List.set_cons_zero, List.set_cons_succ]
      refine Fre.made_new 4 _ (by kernel_rfl) (by kernel_rfl) rfl rfl (fun W hW => ⟨.pointer (some ⟨W.heap.size, 0, none⟩), W.alloc (.cells #[.int .i64 0, .int .i64 0] 88), by kernel_rfl, (Below.refl _ W).alloc (Nat.le_refl _) _, W.heap.size, rfl, hW.size, Blk.new _ _ _⟩) ?_
      simp only [Act.put, List.setIfInBounds_toArray, List.set_cons_zero, List.set_cons_succ]
      show ∀ w', _ → _
      intro w6 hb6
      simp only [Fre.ended]
      rintro u4 ⟨k4, rfl, hk4, hbk⟩
      simp only [Act.put, List.setIfInBounds_toArray, List.set_cons_zero, List.set_cons_succ]
      have hb6 : Below wr.heap.size wr w6 := hb6
      refine wpList_store_blkA (o := ⟨none, _, _, _, _, _⟩) rfl 88 (.tmp 4) (.tmp 30) rfl k4 #[.int .i64 0, .int .i64 0] #[.int .i64 (en (n % 8)), .int .i64 (en (n / 8))] 88 hbk (by kernel_rfl) rfl (by simp [Value.oneCell']) rfl rfl ?_
      intro w7 h7 hg7
      have hb7 : Below w1.heap.size w1 w7 := (HB.out.trans (Below.mono hb6 HB.out.size)).grown hg7 (by have := HB.out.size; have := hb6.size; omega) (fun k hk => by injection hk with hk; have := HB.out.size; omega)
      have H7 := hide (And.intro h7 hb7)
      clear hb6 hbk hg7 h7 hb7
      simp only [Act.put]
      go_wp2_with fail
      have hen8 := en_in (n % 8)
      have hen9 := en_in (n / 8)
      have hr1 : r64 (en (n % 8), en (n / 8)) := ⟨hen8, hen9⟩
      have hr2 : r64 ((2 : Int), (2 : Int)) := by unfold r64; omega
      refine Fre.wp_made (X := Blw) 34 [(36, RunV [(en (n % 8), en (n / 8))]), (43, RunV [((2 : Int), (2 : Int)), (en (n % 8), en (n / 8))])] (by kernel_rfl) (by kernel_rfl) (by simp only [List.forall_mem_cons]; exact ⟨runv_ok _, runv_ok _, fun p hp => by cases hp⟩) (by simp) (by simp) ?_
      simp only [List.take_succ_cons, List.take_zero, List.drop_succ_cons, List.drop_zero]
      refine Fre.made_val (.agg #[.int .i64 1, .int .i64 1, .int .i64 6]) (by kernel_rfl) (by kernel_rfl) (by kernel_rfl) (fun W hW => exec_load_blk (o := ⟨some 31, _, _, _, _, _⟩) 64 (.tmp 1) rfl w.heap.size rfl 64 _ _ W (HSH.out W (H7.out.2.trans (Below.mono hW H7.out.2.size))) Try.underlying64 rfl (by kernel_rfl)) ?_
      simp only [Act.put, List.setIfInBounds_toArray, List.set_cons_zero, List.set_cons_succ]
      refine Fre.made_val (.int .i64 (n : Int)) (by kernel_rfl) (by kernel_rfl) (by kernel_rfl) (fun _ _ => by kernel_rfl) ?_
      simp only [Act.put, List.setIfInBounds_toArray, List.set_cons_zero, List.set_cons_succ]
      refine Fre.made_val (.int .i64 ((n % 8 : Nat) : Int)) (by kernel_rfl) (by kernel_rfl) (by kernel_rfl) (fun W hW => ?hs3) ?_
      case hs3 =>
        go_simp
        exact Int.tmod_eq_emod_of_nonneg (by omega)
      simp only [Act.put, List.setIfInBounds_toArray, List.set_cons_zero, List.set_cons_succ]
      refine Fre.made_val (.int .i64 (((n % 8 : Nat) : Int) - 1)) (by kernel_rfl) (by kernel_rfl) (by kernel_rfl) (fun W hW => ?hs4) ?_
      case hs4 =>
        go_simp
        exact wrapI ((n : Int) % 8 - 1) (by omega)
      simp only [Act.put, List.setIfInBounds_toArray, List.set_cons_zero, List.set_cons_succ]
      refine Fre.made_val (.agg #[.int .i64 (en (n % 8)), .int .i64 (en (n / 8))]) (by kernel_rfl) (by kernel_rfl) (by kernel_rfl) (fun W hW => exec_load_blk (o := ⟨some 35, _, _, _, _, _⟩) 88 (.tmp 4) rfl k4 rfl 88 _ _ W (H7.out.1.below hW H7.out.1.lt) Try.underlying88 rfl (by kernel_rfl)) ?_
      simp only [Act.put, List.setIfInBounds_toArray, List.set_cons_zero, List.set_cons_succ]
      refine Fre.made_new 36 _ (by kernel_rfl) (by kernel_rfl) rfl rfl (free_run [(en (n % 8), en (n / 8))] (by simp only [List.forall_mem_cons]; exact ⟨hr1, fun p hp => by cases hp⟩) (fun W => by kernel_rfl)) ?_
      simp only [Act.put, List.setIfInBounds_toArray, List.set_cons_zero, List.set_cons_succ]
      refine Fre.made_call1 36 (RunV [(en (n % 8), en (n / 8))]) (.bool true) 41 (fun u => #[.agg #[.int .i64 1, .int .i64 1, .int .i64 6], .int .i64 (((n % 8 : Nat) : Int) - 1), u]) (by kernel_rfl) rfl (by kernel_rfl) (by kernel_rfl) (fun u W => by kernel_rfl) (fun u W hW hu => finds_any 1 1 6 (((n % 8 : Nat) : Int) - 1) (by omega) u [(en (n % 8), en (n / 8))] (by simp) W (by obtain ⟨r', _, h⟩ := hu; exact h)) ?_
      simp only [Act.put, List.setIfInBounds_toArray, List.set_cons_zero, List.set_cons_succ]
      refine Fre.made_val (.bool false) (by kernel_rfl) (by kernel_rfl) (by kernel_rfl) (fun _ _ => by kernel_rfl) ?_
      simp only [Act.put, List.setIfInBounds_toArray, List.set_cons_zero, List.set_cons_succ]
      refine Fre.made_val (.bool false) (by kernel_rfl) (by kernel_rfl) (by kernel_rfl) (fun _ _ => by kernel_rfl) ?_
      simp only [Act.put, List.setIfInBounds_toArray, List.set_cons_zero, List.set_cons_succ]
      refine Fre.made_val (.agg #[.int .i64 1, .int .i64 1, .int .i64 6]) (by kernel_rfl) (by kernel_rfl) (by kernel_rfl) (fun W hW => exec_load_blk (o := ⟨some 40, _, _, _, _, _⟩) 64 (.tmp 1) rfl w.heap.size rfl 64 _ _ W (HSH.out W (H7.out.2.trans (Below.mono hW H7.out.2.size))) Try.underlying64 rfl (by kernel_rfl)) ?_
      simp only [Act.put, List.setIfInBounds_toArray, List.set_cons_zero, List.set_cons_succ]
      refine Fre.made_val (.agg #[.int .i64 2, .int .i64 2]) (by kernel_rfl) (by kernel_rfl) (by kernel_rfl) (fun _ _ => by kernel_rfl) ?_
      simp only [Act.put, List.setIfInBounds_toArray, List.set_cons_zero, List.set_cons_succ]
      refine Fre.made_val (.agg #[.int .i64 (en (n % 8)), .int .i64 (en (n / 8))]) (by kernel_rfl) (by kernel_rfl) (by kernel_rfl) (fun W hW => exec_load_blk (o := ⟨some 42, _, _, _, _, _⟩) 88 (.tmp 4) rfl k4 rfl 88 _ _ W (H7.out.1.below hW H7.out.1.lt) Try.underlying88 rfl (by kernel_rfl)) ?_
      simp only [Act.put, List.setIfInBounds_toArray, List.set_cons_zero, List.set_cons_succ]
      refine Fre.made_new 43 _ (by kernel_rfl) (by kernel_rfl) rfl rfl (free_run [((2 : Int), (2 : Int)), (en (n % 8), en (n / 8))] (by simp only [List.forall_mem_cons]; exact ⟨hr2, hr1, fun p hp => by cases hp⟩) (fun W => by kernel_rfl)) ?_
      simp only [Act.put, List.setIfInBounds_toArray, List.set_cons_zero, List.set_cons_succ]
      refine Fre.made_call1 43 (RunV [((2 : Int), (2 : Int)), (en (n % 8), en (n / 8))]) (.bool true) 41 (fun u => #[.agg #[.int .i64 1, .int .i64 1, .int .i64 6], .int .i64 (1), u]) (by kernel_rfl) rfl (by kernel_rfl) (by kernel_rfl) (fun u W => by kernel_rfl) (fun u W hW hu => finds_any 1 1 6 (1) (by omega) u [((2 : Int), (2 : Int)), (en (n % 8), en (n / 8))] (by simp) W (by obtain ⟨r', _, h⟩ := hu; exact h)) ?_
      simp only [Act.put, List.setIfInBounds_toArray, List.set_cons_zero, List.set_cons_succ]
      refine Fre.made_val (.bool false) (by kernel_rfl) (by kernel_rfl) (by kernel_rfl) (fun _ _ => by kernel_rfl) ?_
      simp only [Act.put, List.setIfInBounds_toArray, List.set_cons_zero, List.set_cons_succ]
      refine Fre.made_val (.bool false) (by kernel_rfl) (by kernel_rfl) (by kernel_rfl) (fun _ _ => by kernel_rfl) ?_
      simp only [Act.put, List.setIfInBounds_toArray, List.set_cons_zero, List.set_cons_succ]
      refine Fre.made_val (.bool false) (by kernel_rfl) (by kernel_rfl) (by kernel_rfl) (fun _ _ => by kernel_rfl) ?_
      simp only [Act.put, List.setIfInBounds_toArray, List.set_cons_zero, List.set_cons_succ]
      refine Fre.made_val (.agg #[.int .i64 1, .int .i64 1, .int .i64 6]) (by kernel_rfl) (by kernel_rfl) (by kernel_rfl) (fun W hW => exec_load_blk (o := ⟨some 48, _, _, _, _, _⟩) 64 (.tmp 1) rfl w.heap.size rfl 64 _ _ W (HSH.out W (H7.out.2.trans (Below.mono hW H7.out.2.size))) Try.underlying64 rfl (by kernel_rfl)) ?_
      simp only [Act.put, List.setIfInBounds_toArray, List.set_cons_zero, List.set_cons_succ]
      refine Fre.made_val (.slice (some ⟨w.heap.size + 1, 0, none⟩) 8 8) (by kernel_rfl) (by kernel_rfl) (by kernel_rfl) (fun _ _ => by kernel_rfl) ?_
      simp only [Act.put, List.setIfInBounds_toArray, List.set_cons_zero, List.set_cons_succ]
      refine Fre.made_val (.int .i64 (n : Int)) (by kernel_rfl) (by kernel_rfl) (by kernel_rfl) (fun _ _ => by kernel_rfl) ?_
      simp only [Act.put, List.setIfInBounds_toArray, List.set_cons_zero, List.set_cons_succ]
      refine Fre.made_val (.int .i64 ((n % 8 : Nat) : Int)) (by kernel_rfl) (by kernel_rfl) (by kernel_rfl) (fun W hW => ?hs5) ?_
      case hs5 =>
        go_simp
        exact Int.tmod_eq_emod_of_nonneg (by omega)
      simp only [Act.put, List.setIfInBounds_toArray, List.set_cons_zero, List.set_cons_succ]
      refine Fre.made_val (.pointer (some ⟨w.heap.size + 1, (((n % 8 : Nat) : Int)).toNat * 1, none⟩)) (by kernel_rfl) (by kernel_rfl) (by kernel_rfl) (fun W _ => exec_index (o := ⟨some 52, _, _, _, _, _⟩) 33 3 (.tmp 49) (.tmp 51) rfl (w.heap.size + 1) 8 8 ((n % 8 : Nat) : Int) .i64 rfl rfl ⟨by omega, by omega⟩ 1 Try.underlying33 (by kernel_rfl) W) ?_
      simp only [Act.put, List.setIfInBounds_toArray, List.set_cons_zero, List.set_cons_succ]
      rw [show (((n % 8 : Nat) : Int)).toNat * 1 = n % 8 by omega]
      refine Fre.made_val (.int .i64 (en (n % 8))) (by kernel_rfl) (by kernel_rfl) (by kernel_rfl) (fun W hW => exec_load_cell (o := ⟨some 53, _, _, _, _, _⟩) 3 (.tmp 52) rfl ⟨w.heap.size + 1, n % 8, none⟩ rfl _ _ W Try.underlying3 rfl ((HEN.out W (H7.out.2.trans (Below.mono hW H7.out.2.size)) (n % 8) (by omega)))) ?_
      simp only [Act.put, List.setIfInBounds_toArray, List.set_cons_zero, List.set_cons_succ]
      refine Fre.made_call (.bool true) 41 #[.agg #[.int .i64 1, .int .i64 1, .int .i64 6], .int .i64 (en (n % 8)), .slice none 0 0] (by kernel_rfl) (by kernel_rfl) (by kernel_rfl) (fun W => by kernel_rfl) (fun W hW => finds_any 1 1 6 (en (n % 8)) hen8 _ [] (by simp) W (runs_nil _ _)) ?_
      simp only [Act.put, List.setIfInBounds_toArray, List.set_cons_zero, List.set_cons_succ]
      refine Fre.made_val (.bool false) (by kernel_rfl) (by kernel_rfl) (by kernel_rfl) (fun _ _ => by kernel_rfl) ?_
      simp only [Act.put, List.setIfInBounds_toArray, List.set_cons_zero, List.set_cons_succ]
      refine Fre.made_val (.bool false) (by kernel_rfl) (by kernel_rfl) (by kernel_rfl) (fun _ _ => by kernel_rfl) ?_
      simp only [Act.put, List.setIfInBounds_toArray, List.set_cons_zero, List.set_cons_succ]
      refine Fre.made_val (.bool false) (by kernel_rfl) (by kernel_rfl) (by kernel_rfl) (fun _ _ => by kernel_rfl) ?_
      simp only [Act.put, List.setIfInBounds_toArray, List.set_cons_zero, List.set_cons_succ]
      refine Fre.made_val (.int .i64 (n : Int)) (by kernel_rfl) (by kernel_rfl) (by kernel_rfl) (fun _ _ => by kernel_rfl) ?_
      simp only [Act.put, List.setIfInBounds_toArray, List.set_cons_zero, List.set_cons_succ]
      refine Fre.made_val (.int .i64 ((n : Int) * 9)) (by kernel_rfl) (by kernel_rfl) (by kernel_rfl) (fun W hW => ?hs6) ?_
      case hs6 =>
        go_simp
        exact wrapI ((n : Int) * 9) (by omega)
      simp only [Act.put, List.setIfInBounds_toArray, List.set_cons_zero, List.set_cons_succ]
      refine Fre.made_call (.int .i64 (needP ((n : Int) * 9))) 34 #[.int .i64 ((n : Int) * 9)] (by kernel_rfl) (by kernel_rfl) (by kernel_rfl) (fun W => by kernel_rfl) (fun W hW => (need_any ((n : Int) * 9) (by omega) W).mono fun e w' ⟨h1, h2⟩ => ⟨h1, by rw [h2]; exact Fre.Ext.refl W⟩) ?_
      simp only [Act.put, List.setIfInBounds_toArray, List.set_cons_zero, List.set_cons_succ]
      refine Fre.made_val (.int .i64 (n : Int)) (by kernel_rfl) (by kernel_rfl) (by kernel_rfl) (fun _ _ => by kernel_rfl) ?_
      simp only [Act.put, List.setIfInBounds_toArray, List.set_cons_zero, List.set_cons_succ]
      refine Fre.made_val (.int .i64 ((n : Int) * 9)) (by kernel_rfl) (by kernel_rfl) (by kernel_rfl) (fun W hW => ?hs7) ?_
      case hs7 =>
        go_simp
        exact wrapI ((n : Int) * 9) (by omega)
      simp only [Act.put, List.setIfInBounds_toArray, List.set_cons_zero, List.set_cons_succ]
      refine Fre.made_call (.int .i64 (needP ((n : Int) * 9))) 42 #[.int .i64 ((n : Int) * 9)] (by kernel_rfl) (by kernel_rfl) (by kernel_rfl) (fun W => by kernel_rfl) (fun W hW => (rneed_any ((n : Int) * 9) (by omega) W).mono fun e w' ⟨h1, h2⟩ => ⟨h1, by rw [h2]; exact Fre.Ext.refl W⟩) ?_
      simp only [Act.put, List.setIfInBounds_toArray, List.set_cons_zero, List.set_cons_succ]
      refine Fre.made_val (.bool false) (by kernel_rfl) (by kernel_rfl) (by kernel_rfl) (fun W hW => ?hs8) ?_
      case hs8 =>
        go_simp
      simp only [Act.put, List.setIfInBounds_toArray, List.set_cons_zero, List.set_cons_succ]
      show ∀ w', _ → _
      intro w8 hb8
      simp only [Fre.ended]
      intro u36 _ u43 _
      simp only [Act.put, List.setIfInBounds_toArray, List.set_cons_zero, List.set_cons_succ]
      have H8 := hide (H7.out.2.trans (Below.mono (show Below w7.heap.size w7 w8 from hb8) H7.out.2.size))
      clear hb8 H7 hr1 hr2 hen8 hen9
      go_wp2_with fail
      have HX := hide (show ∃ (k : Nat) (rs : List Run), k ≤ 6 ∧ rs.length ≤ k ∧ (Value.int .i64 0 = .int .i64 (k : Int)) ∧ OwnRuns w1.heap.size w8 (.slice none 0 0) rs ∧ Below w1.heap.size w1 w8 from ⟨0, [], by omega, Nat.le_refl _, rfl, ownRuns_nil _ _, H8.out⟩)
      go_loopw [5, 6] (fun v x wx => ∃ (k : Nat) (rs : List Run), k ≤ 6 ∧ rs.length ≤ k ∧ x = .int .i64 (k : Int) ∧ OwnRuns w1.heap.size wx v rs ∧ Below w1.heap.size w1 wx) (fun _ x _ => 6 - (intOf x).toNat)
      case atStart => exact HX.out
      case round =>
        obtain ⟨k, rs, hk, hrs, rfl, hown, hb⟩ := hrel
        obtain ⟨A5, c5, rfl, hm5⟩ := hown.m
        have HO := hide (And.intro hown (And.intro hb hm5))
        clear hown hb HX hm5
        have k0 : (0 : Int) ≤ (k : Int) := by omega
        by_cases hk2 : k < 6
        · have k1 : (k : Int) < 6 := by omega
          cases hbit : (bits BinOp.and IntKind.i64 ((n : Int) / 2 ^ k) 1 == 1) with
          | true =>
            obtain ⟨v', w', ha1, ha2, ha3, ha4⟩ := OwnRuns.app (wm := wr.alloc (.cells #[.int .i64 ((k : Int) * 5 % 6), .int .i64 1] 88)) HO.out.1 HO.out.2.1.size ((Below.refl _ wr).alloc (Nat.le_refl _) _) (news := [((k : Int) * 5 % 6, 1)]) (by simp) (by simp; omega) wr.heap.size 0 (fun j r hj => by
              cases j with
              | zero =>
                simp only [List.getElem?_cons_zero, Option.some.injEq] at hj
                subst hj
                exact ⟨(Blk.new wr 88 #[.int .i64 ((k : Int) * 5 % 6), .int .i64 1]).cell 0, (Blk.new wr 88 #[.int .i64 ((k : Int) * 5 % 6), .int .i64 1]).cell 1⟩
              | succ j => simp at hj) (fun r hr => by simp only [List.mem_singleton] at hr; subst hr; unfold r64; dsimp only; omega) 1
            have HA := hide (And.intro ha1 (And.intro ha2 ha4))
            clear ha1 ha2 ha3 ha4
            go_wp2_with (at_builtin; refine wpList_value (o := ⟨some 81, _, _, _, _, _⟩) rfl v' w' (exec_append (o := ⟨some 81, _, _, _, _, _⟩) (.tmp 75) (.tmp 80) 73 rfl (.slice A5 rs.length c5) (.slice (some ⟨wr.heap.size, 0, none⟩) 1 1) _ _ _ rfl rfl HA.out.1) ?_)
            go_roundw
            case rel =>
              iterate 18 (apply Exists.intro)
              refine and_comm.1 ⟨rfl, ?_⟩
              exact ⟨k + 1, rs ++ [((k : Int) * 5 % 6, 1)], by omega, by simp; omega, by go_num, HA.out.2.1, HO.out.2.1.trans HA.out.2.2⟩
            case measure => simp [intOf]; omega
          | false =>
            go_wp2_with fail
            exact ⟨⟨k + 1, rs, by omega, by omega, by go_num, HO.out.1, HO.out.2.1⟩, by simp [intOf]; omega⟩
        · obtain rfl : k = 6 := by omega
          go_wp2_with fail
          have HY := hide (show ∃ m : Nat, m ≤ 9 ∧ Value.int .i64 (-1) = .int .i64 ((m : Int) - 1) ∧ OwnRuns w1.heap.size wr (.slice A5 rs.length c5) rs ∧ Below w1.heap.size w1 wr from ⟨0, by omega, rfl, HO.out.1, HO.out.2.1⟩)
          go_loopw [7] (fun x wx => ∃ m : Nat, m ≤ 9 ∧ x = .int .i64 ((m : Int) - 1) ∧ OwnRuns w1.heap.size wx (.slice A5 rs.length c5) rs ∧ Below w1.heap.size w1 wx) (fun x _ => 9 - (intOf x + 1).toNat)
          case atStart => exact HY.out
          case round =>
            obtain ⟨m, hm, rfl, hown, hb⟩ := hrel
            have HP := hide (And.intro hown hb)
            clear hown hb HY HO
            have m0 : (0 : Int) ≤ (m : Int) := by omega
            by_cases hm2 : m < 9
            · have m1 : (m : Int) < 9 := by omega
              have hs := HSH.out _ HP.out.2
              have c0 := hs.cell 0
              have c1 := hs.cell 1
              have c2 := hs.cell 2
              have hlt := hs.lt
              clear hs
              go_wp2_with fail
              refine (finds_any 1 1 6 ((m : Int) - 1) (by omega) _ rs (by omega) _ (by obtain ⟨A', c', e, h⟩ := HP.out.1.m; rw [e]; exact h)).mono ?_
              rintro e w9 ⟨rfl, hb9⟩
              have H9 := hide (And.intro (HP.out.1.below hb9) (HP.out.2.next hb9))
              clear hb9 HP c0 c1 c2 hlt
              dsimp only
              go_wp2_with fail
              exact ⟨⟨m + 1, by omega, by go_num, H9.out.1, H9.out.2⟩, by simp [intOf]; omega⟩
            · obtain rfl : m = 9 := by omega
              go_wp2_with fail
              exact ⟨⟨n + 1, by omega, by go_num, HP.out.2⟩, by simp [intOf]; omega⟩
    · obtain rfl : n = 64 := by omega
      go_wp2_with fail
      have HZ := hide (show ∃ q : Nat, q ≤ 240 ∧ Value.int .i64 0 = .int .i64 (q : Int) ∧ Below w1.heap.size w1 wr from ⟨0, by omega, rfl, HB.out⟩)
      clear HB n2 hn hn2
      go_loopw [8] (fun x wx => ∃ q : Nat, q ≤ 240 ∧ x = .int .i64 (q : Int) ∧ Below w1.heap.size w1 wx) (fun x _ => 240 - (intOf x).toNat)
      case atStart => exact HZ.out
      case round =>
        obtain ⟨q, hq, rfl, hb⟩ := hrel
        have HB := hide hb
        clear hb HZ
        have q0 : (0 : Int) ≤ (q : Int) := by omega
        by_cases hq2 : q < 195
        · have q1 : (q : Int) < 195 := by omega
          obtain ⟨i, hi, hz0, hz1, hz2⟩ := info_parts info_u8
          obtain ⟨R, hR⟩ : ∃ R, R = wr.heap.size := ⟨_, rfl⟩
          have HR := hide hR
          obtain ⟨w2, hw2⟩ : ∃ w2, w2 = wr.alloc (.cells (madeCells #[.int .u8 0] q) 5) := ⟨_, rfl⟩
          have h2 : Blk w2 R 5 (bv (List.replicate q 0)).toArray := by
            rw [hw2, hR, made_bv]
            exact Blk.new _ _ _
          have hb2 : Below w1.heap.size w1 w2 := by rw [hw2]; exact HB.out.alloc HB.out.size _
          have H2 := hide (And.intro h2 hb2)
          clear h2 hb2
          go_wp2_with (at_make; refine wpList_make_row _ rfl _ _ 66 rfl 5 i (.int .u8 0) Try.underlying66 hi hz0 hz1 rfl _ _ q rfl rfl ?e0 ?e1 ?_)
          case e0 => rw [hz2]; omega
          case e1 => omega
          rw [← hw2, ← hR]
          have HW2 := hide hw2
          clear hw2 hR
          go_wp2_with fail
          have HV := hide (show ∃ (k : Nat) (l : List UInt8), k ≤ q ∧ l.length = q ∧ Value.int .i64 0 = .int .i64 (k : Int) ∧ Blk w2 R 5 (bv l).toArray ∧ Below w1.heap.size w1 w2 from ⟨0, _, by omega, List.length_replicate, rfl, H2.out.1, H2.out.2⟩)
          go_loopw [10] (fun x wx => ∃ (k : Nat) (l : List UInt8), k ≤ q ∧ l.length = q ∧ x = .int .i64 (k : Int) ∧ Blk wx R 5 (bv l).toArray ∧ Below w1.heap.size w1 wx) (fun x _ => q - (intOf x).toNat)
          case atStart => exact HV.out
          case round =>
            obtain ⟨k, l, hk, hl, rfl, hbk, hb⟩ := hrel
            have k0 : (0 : Int) ≤ (k : Int) := by omega
            by_cases hk2 : k < q
            · have k1 : (k : Int) < (q : Int) := by omega
              have ck := (hbk.cell k).trans (bv_get l k (by omega))
              have fk := hbk.frozen k
              have hlt := hbk.lt
              have HK := hide (And.intro hbk hb)
              clear hbk hb
              have hcv : IntKind.u8.wrap ((k : Int) + 1) = (k : Int) + 1 := by
                simp [IntKind.wrap, IntKind.signed, IntKind.bits]
                omega
              go_wp2_with fail
              refine ⟨⟨k + 1, l.set k (UInt8.ofNat (k + 1)), by omega, by simpa using hl, by go_num, ?_, HK.out.2.setCell (p := ⟨R, k, none⟩) (by show _ ≤ R; rw [HR.out]; exact HB.out.size) _⟩, by simp [intOf]; omega⟩
              have h3 := HK.out.1.set_ k (.int .u8 (((UInt8.ofNat (k + 1)).toNat : Nat) : Int))
              rw [bv_set, show (((UInt8.ofNat (k + 1)).toNat : Nat) : Int) = (k : Int) + 1 by rw [UInt8.toNat_ofNat']; omega] at h3
              exact h3
            · obtain rfl : k = q := by omega
              have HK := hide (And.intro hbk hb)
              clear hbk hb HV
              obtain ⟨s, hs⟩ : ∃ s, s = wr.heap.size := ⟨_, rfl⟩
              obtain ⟨w3, hw3⟩ : ∃ w3, w3 = ((((wr.alloc (.cells #[.int .i64 5, .int .i64 1, .int .i64 1, .int .i64 2] 88)).alloc (.cells #[.int .i64 ((k : Int) % 5), .int .i64 2] 88)).alloc (.cells #[.int .i64 0, .int .i64 4] 88)).alloc (.cells #[.int .i64 0, .int .i64 1, .int .i64 0, .int .i64 1] 88)).alloc (.cells #[.slice (some ⟨R, 0, none⟩) k k, .slice (some ⟨wr.heap.size, 0, none⟩) 2 2, .int .i64 (k : Int), .int .i64 0, .slice (some ⟨R, 0, none⟩) k k, .slice (some ⟨wr.heap.size + 1, 0, none⟩) 1 1, .int .i64 ((k : Int) - 1), .int .i64 ((k : Int) % 6), .slice (some ⟨R, 0, none⟩) k k, .slice none 0 0, .int .i64 ((k : Int) % 2), .int .i64 0, .slice (some ⟨R, 0, none⟩) k k, .slice (some ⟨wr.heap.size + 1 + 1, 0, none⟩) 1 1, .int .i64 200, .int .i64 0, .slice (some ⟨R, 0, none⟩) k k, .slice (some ⟨wr.heap.size + 1 + 1 + 1, 0, none⟩) 2 2, .int .i64 (-1), .int .i64 0] 91) := ⟨_, rfl⟩
              have hm5 : (k : Int).tmod 5 = (k : Int) % 5 := Int.tmod_eq_emod_of_nonneg (by omega)
              have hm6 : (k : Int).tmod 6 = (k : Int) % 6 := Int.tmod_eq_emod_of_nonneg (by omega)
              have hm2 : (k : Int).tmod 2 = (k : Int) % 2 := Int.tmod_eq_emod_of_nonneg (by omega)
              have HP := hide (puts_law hw3 l hl HK.out.1)
              have hb3 : Below w1.heap.size w1 w3 := by rw [hw3]; exact ((((HK.out.2.alloc HK.out.2.size _).al _).al _).al _).al _
              have HB3 := hide hb3
              clear hb3
              have hs3 := HSH.out _ HB3.out
              have c0 := hs3.cell 0
              have c1 := hs3.cell 1
              have c2 := hs3.cell 2
              rw [hw3] at c0 c1 c2
              clear hs3
              go_wp2_with fail
              rw [← hw3]
              clear hw3 c0 c1 c2
              refine (writes_any 1 1 6 ((k : Int) % 4 - 1) (by omega) _ (by simp [putsOf]) HP.out.2 _ _ HP.out.1).mono ?_
              rintro e w9 ⟨rfl, hb9⟩
              have H9 := hide (HB3.out.next hb9)
              clear hb9
              dsimp only
              go_wp2_with fail
              go_roundw
              case rel =>
                iterate 63 (apply Exists.intro)
                refine and_comm.1 ⟨rfl, ?_⟩
                exact ⟨k + 1 + k % 3 * 20, by omega, by go_num, H9.out⟩
              case measure => simp [intOf]; omega
        · have hq3 : 195 ≤ q := by omega
          have hs3 := HSH.out _ HB.out
          have c0 := hs3.cell 0
          have c1 := hs3.cell 1
          have c2 := hs3.cell 2
          have hlt := hs3.lt
          clear hs3
          go_wp2_with fail
          refine (bread_no 1 1 6 _).mono ?_
          rintro e w3 ⟨rfl, hb3⟩
          have H3 := hide (HB.out.next hb3)
          clear hb3 c0 c1 c2 hlt
          have hs3 := HSH.out _ H3.out
          have c0 := hs3.cell 0
          have c1 := hs3.cell 1
          have c2 := hs3.cell 2
          have hlt := hs3.lt
          clear hs3
          dsimp only
          go_wp2_with fail
          refine (bwrite_no 1 1 6 _).mono ?_
          rintro e w4 ⟨rfl, hb4⟩
          have H4 := hide (H3.out.next hb4)
          clear hb4 c0 c1 c2 hlt
          dsimp only
          go_wp2_with fail
          refine (finds_any 0 0 0 0 (by omega) _ [] (by simp) _ (runs_nil _ _)).mono ?_
          rintro e w5 ⟨rfl, hb5⟩
          have H5 := hide (H4.out.next hb5)
          clear hb5
          have hs3 := HSH.out _ H5.out
          have c0 := hs3.cell 0
          have c1 := hs3.cell 1
          have c2 := hs3.cell 2
          have hlt := hs3.lt
          clear hs3
          obtain ⟨w6, hw6⟩ : ∃ w6, w6 = w5.alloc (.cells #[.slice none 0 0, .slice none 0 0, .int .i64 0, .int .i64 0] 91) := ⟨_, rfl⟩
          have hb6 : Below w1.heap.size w1 w6 := by rw [hw6]; exact H5.out.alloc H5.out.size _
          have HP := hide (puts_one hw6)
          have H6 := hide hb6
          clear hb6
          dsimp only
          go_wp2_with fail
          rw [← hw6]
          clear hw6 c0 c1 c2 hlt
          refine (writes_any 1 1 6 0 (by omega) _ (by simp) (by simp) _ _ HP.out).mono ?_
          rintro e w7 ⟨rfl, hb7⟩
          have H7 := hide (H6.out.next hb7)
          clear hb7
          dsimp only
          go_wp2_with fail
          refine (awake7_any _).mono ?_
          rintro e w8 ⟨rfl, hb8⟩
          have H8 := hide (H7.out.next hb8)
          clear hb8
          dsimp only
          go_wp2_with fail
          go_ret
          exact ⟨rfl, H1.out.1.trans (Below.mono H8.out (by have := H1.out.2; omega))⟩
end Go.Proofs.Ytfppddnfdinipaa
end
section
namespace Go.Proofs.Ytfppddnfdinipaa
open Go.RowKit Go.WideShapes Go.ChangeShapes
section
variable {H : Type} {enc : TypeId × Value → H} {P : Program}

theorem trod_int_any {e : TypeId} {k : IntKind} (he : P.underlying e = some (.int k)) (w w' : World) (b b' : Nat) (sp sp' : Nat → Bool) (hd hd' : Bool) (m : Nat) (cs : List Value) :
    DataW.trod enc P w b sp hd m e cs = DataW.trod enc P w' b' sp' hd' m e cs := by
  cases m with
  | zero => simp [DataW.trod]
  | succ m =>
    unfold DataW.trod
    rw [he]
    rcases cs with _ | ⟨v, _ | ⟨u, r⟩⟩
    · rfl
    · cases v <;> rfl
    · simp
theorem trod_ints_any {t e : TypeId} {n : Nat} {k : IntKind} (ht : P.underlying t = some (.array n e)) (he : P.underlying e = some (.int k)) (w w' : World) (b b' : Nat) (sp sp' : Nat → Bool) (hd hd' : Bool) (m : Nat) (cs : List Value) :
    DataW.trod enc P w b sp hd m t cs = DataW.trod enc P w' b' sp' hd' m t cs := by
  cases m with
  | zero => simp [DataW.trod]
  | succ m =>
    unfold DataW.trod
    simp only [ht]
    rw [show (fun i => DataW.trod enc P w b sp hd m e (List.take (P.cellsOf e) (List.drop (i * P.cellsOf e) cs))) = (fun i => DataW.trod enc P w' b' sp' hd' m e (List.take (P.cellsOf e) (List.drop (i * P.cellsOf e) cs))) from funext fun i => trod_int_any he ..]

/-- the byte that a cell holds -/
def byteOf : Value → UInt8
  | .int _ z => UInt8.ofNat z.toNat
  | _ => 0
theorem open_bytes {t e : TypeId} {n : Nat} {w : World} {r : Reach} {b0 b : Nat} {sp : Nat → Bool} {hd : Bool} {v : Value} {d : DataW H} {ps : List MemPlace} (ht : P.underlying t = some (.array n e)) (he : P.underlying e = some (.int .u8)) (h1 : P.cellsOf e = 1) (hn : P.cellsOf t = n)
    (hval : Value.okWide P w r b0 t v) (h : DataW.Trod enc P w b sp hd t v d ps) :
    ∃ l : List UInt8, v = .agg (bv l).toArray ∧ l.length = n ∧ ps = [] ∧ ∀ (w' : World) (b' : Nat) (sp' : Nat → Bool) (hd' : Bool), DataW.Trod enc P w' b' sp' hd' t v d [] := by
  obtain ⟨cs, rfl, hsz, _⟩ : ∃ cs, v = .agg cs ∧ cs.size = P.cellsOf t ∧ Row.okWide P w r b0 t cs := by
    simpa [Value.okWide, ht] using hval
  obtain ⟨fuel, hf⟩ := h
  obtain ⟨xs, m, rfl, hx, hl, hxs, hel⟩ := DataW.trod_array ht hf
  rw [h1] at hel
  have hc : ∀ i, i < n → ∃ z : Int, cs[i]? = some (.int .u8 z) ∧ xs[i]? = some (.lit (.int .u8 z), []) ∧ (Lit.int .u8 z).wf = true := by
    intro i hi
    have h2 := hel i hi
    rw [List.getElem?_eq_getElem (by omega)] at h2
    obtain ⟨z, e1, e2, e3⟩ := DataW.trod_int he h2
    refine ⟨z, ?_, by rw [List.getElem?_eq_getElem (by omega), e2], e3⟩
    have h0 : (((Value.agg cs).cells.toList.drop (i * 1)).take 1)[0]? = some (.int .u8 z) := by rw [e1]; rfl
    simpa [Value.cells] using h0
  have hps : ps = [] := by
    have h3 := congrArg Prod.snd hx
    simp only at h3
    rw [h3, List.flatMap_eq_nil_iff]
    intro y hy
    obtain ⟨i, hi⟩ := List.getElem?_of_mem hy
    have hi2 : i < n := by
      rw [← hxs]
      rcases Nat.lt_or_ge i xs.length with h | h
      · exact h
      · rw [List.getElem?_eq_none h] at hi; cases hi
    obtain ⟨z, _, e2, _⟩ := hc i hi2
    rw [e2] at hi
    injection hi with hi
    rw [← hi]
  let l : List UInt8 := (List.range n).map fun i => byteOf (cs.getD i undef)
  have hll : l.length = n := by simp [l]
  refine ⟨l, ?_, hll, hps, fun w' b' sp' hd' => ⟨m + 1, ?_⟩⟩
  · congr 1
    refine Array.ext_getElem? fun i => ?_
    by_cases hi : i < n
    · obtain ⟨z, e1, _, e3⟩ := hc i hi
      have hb := bounds_u8 e3
      rw [e1]
      simp only [bv, List.getElem?_toArray, List.getElem?_map, l, List.getElem?_range hi, Option.map_some, Array.getD_eq_getD_getElem?, e1, Option.getD_some, byteOf, UInt8.toNat_ofNat']
      congr 2
      omega
    · rw [Array.getElem?_eq_none (by omega), Array.getElem?_eq_none (by simp [bv, hll]; omega)]
  · rw [← hps, ← hf]
    exact trod_ints_any ht he ..
theorem ints_of_u8 {z : Int} (h : (Lit.int .u8 z).wf = true) : ∃ x : UInt8, z = (x.toNat : Int) := by
  have hb := bounds_u8 h
  exact ⟨UInt8.ofNat z.toNat, by rw [UInt8.toNat_ofNat']; omega⟩

/-- a law's answer: 'true', all arguments as they were, and all memory that was there as it was -/
theorem law_post {f : Func} {s : ChangeSpec} {fresh handsOn again : Bool} {W W' : World} {args : Array Value} {ds gs : List (DataW H)} {pa before : List MemPlace} {tb : TypeId}
    (hW : DataW.Whole enc P f.params.toList s.vars false W args.toList ds gs before) (hv : s.vars = []) (hfn : s.fn H (ds ++ gs) = { results := [.lit (.bool true)], args := ds }) (hr : f.resultTypes = #[tb]) (hu : P.underlying tb = some .bool)
    (hargs : ∀ sp : Nat → Bool, (∀ p ∈ before, sp p.block = true) → DataW.TrodAll enc P W' 0 sp true f.params.toList args.toList ds pa) (hps : before = pa) (hb : Below W.heap.size W W') :
    s.post enc P f false fresh handsOn again W args (.bool true) W' := by
  subst hps
  have hlt : ∀ p ∈ before, p.block < W.heap.size := fun p hp => hW.lt p hp
  have hold : ∀ p ∈ before, (fun b => decide (b < W.heap.size)) p.block = true := fun p hp => by simpa using hlt p hp
  have hres : ∀ (b : Nat) (sp : Nat → Bool) (hd : Bool), DataW.TrodAll enc P W' b sp hd f.resultTypes.toList ((Value.bool true).resultList f.resultTypes.size) (s.fn H (ds ++ gs)).results [] := by
    intro b sp hd
    rw [hfn, hr]
    exact trodAll_mk1 (shut_bool hu _)
  have hA : ∀ sp : Nat → Bool, (∀ p ∈ before, sp p.block = true) → DataW.TrodAll enc P W' 0 sp true f.params.toList args.toList (s.fn H (ds ++ gs)).args before := by
    intro sp h
    rw [hfn]
    exact hargs sp h
  have hV : ∀ sp : Nat → Bool, DataW.TrodVars enc P W' sp s.vars (s.fn H (ds ++ gs)).vars [] := by
    intro sp
    rw [hfn, hv]
    rfl
  have hok : ∀ (j : Nat) (t : TypeId) (r : Value), f.resultTypes[j]? = some t → ((Value.bool true).resultList f.resultTypes.size)[j]? = some r → Value.okWide P W' .any 0 t r := by
    exact ok_one hr rfl (okWide_bool_mk hu _)
  refine ⟨ds, gs, before, [], before, [], hW, hres _ _ _, hA _ hold, hV _, World.keptBut_mono (fun p hp => ⟨hp, ?_⟩) (hb.frame (· ∈ before)), fun _ => ?_⟩
  · simpa using hp
  · obtain ⟨_, _, _, _, _, hz, hn⟩ := hW
    refine ⟨hok, _, _, ([] ++ before) ++ [], ⟨[] ++ before, [], trodAll_append (hA _ (fun _ _ => rfl)) (hres _ _ _), hV _, rfl, ?_, ?_⟩, ?_⟩
    · intro b off hp
      have hin : MemPlace.cell b off ∈ before := by simpa using hp
      rw [hb.frozen (hlt _ hin)]
      exact hz b off hin
    · intro ha
      cases ha
    · intro p hp _
      simpa using hp
end
end Go.Proofs.Ytfppddnfdinipaa
end
section
namespace Go.Proofs.Ytfppddnfdinipaa
open Go.RowKit Go.WideShapes Go.ChangeShapes
theorem laidOut : laidOutB Try.prog = true := by kernel_rfl
section
variable {H : Type} {enc : TypeId × Value → H} {P : Program}
/-- all arguments read as they did, where nothing old has turned -/
theorem trodAll_stay (hl : laidOutB P = true) {W W' : World} (hb : Below W.heap.size W W') : ∀ {ts : List TypeId} {vs : List Value} {ds : List (DataW H)} {ps : List MemPlace}, (∀ t ∈ ts, P.readableRec t = true ∧ t < P.types.size) →
    DataW.TrodAll enc P W 0 (fun _ => true) true ts vs ds ps → (∀ x ∈ ps, x.block < W.heap.size) → DataW.TrodAll enc P W' 0 (fun b => decide (b < W.heap.size)) true ts vs ds ps
  | [], vs, ds, ps, _, h, _ => by
    obtain ⟨rfl, rfl, rfl⟩ := trodAll_nil h
    rfl
  | t :: ts, vs, ds, ps, ht, h, hlt => by
    obtain ⟨v, vs', d, ds', p, q, rfl, rfl, rfl, hd, hrest⟩ := trodAll_cons h
    have h1 := Below.trod hl (ht t (by simp)).1 (ht t (by simp)).2 hd hb (fun x hx => hlt x (by simp [hx]))
    have h2 := trodAll_stay hl hb (fun s hs => ht s (by simp [hs])) hrest (fun x hx => hlt x (by simp [hx]))
    exact ⟨p, q, h1, h2, rfl⟩
/-- a law's answer: 'true', all as it was -/
theorem law_end {f : Func} {s : ChangeSpec} {fresh handsOn : Bool} {W W' : World} {args : Array Value} {ds gs : List (DataW H)} {before : List MemPlace} {tb : TypeId} (hl : laidOutB P = true)
    (hW : DataW.Whole enc P f.params.toList s.vars false W args.toList ds gs before) (hv : s.vars = []) (hfn : s.fn H (ds ++ gs) = { results := [.lit (.bool true)], args := ds }) (hr : f.resultTypes = #[tb]) (hu : P.underlying tb = some .bool)
    (hp : f.params.toList.all (fun t => P.readableRec t && decide (t < P.types.size)) = true) (hb : Below W.heap.size W W') :
    s.post enc P f false fresh handsOn false W args (.bool true) W' := by
  have hW2 := hW
  obtain ⟨p, q, hA, hV, rfl, hz, hn⟩ := hW
  rw [hv] at hV
  obtain ⟨rfl, rfl⟩ := trodVars_none hV
  have hlt : ∀ x ∈ p ++ [], x.block < W.heap.size := fun x hx => hW2.lt x hx
  rw [List.append_nil] at hlt
  refine ⟨ds, [], p ++ [], [], p, [], hW2, ?_, ?_, ?_, World.keptBut_mono (fun x hx => ⟨hx, .inr (.inl (by simpa using hx))⟩) (hb.frame (· ∈ p ++ [])), fun h => by cases h⟩
  · rw [hfn, hr]
    exact trodAll_mk1 (shut_bool hu _)
  · rw [hfn]
    refine trodAll_stay hl hb (fun t ht => ?_) hA hlt
    have h := List.all_eq_true.1 hp t ht
    simpa using h
  · rw [hv]
    exact (by rw [hfn]; rfl)
theorem add_plain (b o j : Nat) : (⟨b, o, none⟩ : Addr).add j = ⟨b, o + j, none⟩ := by
  unfold Addr.add
  split
  · rename_i h; subst h; rfl
  · rfl
theorem cell_spot (w : World) (b o m : Nat) : w.cell? ⟨b, o, some m⟩ = none := by
  unfold World.cell?
  split <;> simp_all
/-- a slice of bytes that came in -/
theorem open_bslice {t e : TypeId} {w : World} {r : Reach} {b0 : Nat} {sp : Nat → Bool} {hd : Bool} {v : Value} {d : DataW H} {ps : List MemPlace} (ht : P.underlying t = some (.slice e)) (he : P.underlying e = some (.int .u8)) (hc : P.cellsOf e = 1)
    (hval : Value.okWide P w r b0 t v) (h : DataW.Trod enc P w 0 sp hd t v d ps) :
    ∃ (A : Option Addr) (cap : Nat) (l : List UInt8), v = .slice A l.length cap ∧ BytesAt w w.heap.size v l ∧ (A = none → cap = 0) ∧ ((d = .nil ∧ l = []) ∨ ∃ elems spare, d = .slice elems spare ∧ elems.length = l.length) := by
  obtain ⟨a0, len, cap, rfl⟩ := okWide_slice ht hval
  obtain ⟨fuel, hf⟩ := h
  rcases open_ints ht he hc hf with ⟨hcs, hx⟩ | ⟨a, len', cap', zs, hcs, _, hl, hm, hz, hx, hcell, hwz⟩
  · simp [Value.cells] at hcs
    obtain ⟨rfl, rfl, rfl⟩ := hcs
    simp only [Prod.mk.injEq] at hx
    obtain ⟨rfl, rfl⟩ := hx
    exact ⟨none, 0, [], rfl, ⟨none, 0, rfl, Nat.le_refl _, fun h => absurd h (by simp)⟩, fun _ => rfl, .inl ⟨rfl, rfl⟩⟩
  · simp [Value.cells] at hcs
    obtain ⟨rfl, rfl, rfl⟩ := hcs
    simp only [Prod.mk.injEq] at hx
    obtain ⟨rfl, rfl⟩ := hx
    have hlz : len ≤ zs.length := by rw [hz]; split <;> omega
    let l : List UInt8 := (zs.take len).map fun z => UInt8.ofNat z.toNat
    have hll : l.length = len := by simp [l]; omega
    have hcl : ∀ j, j < len → w.cell? (a.add j) = some (.int .u8 ((l.getD j 0).toNat : Int)) := by
      intro j hj
      rw [hcell j (by omega)]
      have hmem : zs.getD j 0 ∈ zs := by
        rw [List.getD_eq_getElem?_getD, List.getElem?_eq_getElem (by omega)]
        exact List.getElem_mem _
      have hb := bounds_u8 (hwz _ hmem)
      have e : l.getD j 0 = UInt8.ofNat (zs.getD j 0).toNat := by
        simp only [l, List.getD_eq_getElem?_getD, List.getElem?_map, List.getElem?_take_of_lt hj]
        rw [List.getElem?_eq_getElem (by omega)]
        rfl
      rw [e, UInt8.toNat_ofNat']
      congr 2
      omega
    refine ⟨some a, cap, l, by rw [hll], ⟨some a, cap, by rw [hll], by omega, fun h0 => ?_⟩, (fun h => by cases h), .inr ⟨_, _, rfl, ?_⟩⟩
    · have h1 := hcl 0 (by omega)
      have hlt := World.block_lt_of_cell? w _ h1
      obtain ⟨b, off, m⟩ := a
      cases m with
      | none =>
        refine ⟨b, off, rfl, by simpa [Addr.add] using hlt, fun j hj => ?_⟩
        have h2 := hcl j (by omega)
        rwa [add_plain] at h2
      | some m => exact absurd (show w.cell? ⟨b, off, some m⟩ = _ from h1) (by rw [cell_spot]; simp)
    · rw [hll]
      simp [lits, hlz]
/-- a slice of slices of bytes that came in -/
theorem open_brows {t e q : TypeId} {w : World} {r : Reach} {b0 : Nat} {hd : Bool} {v : Value} {d : DataW H} {ps : List MemPlace} (ht : P.underlying t = some (.slice e)) (he : P.underlying e = some (.slice q)) (hq : P.underlying q = some (.int .u8)) (ce : P.cellsOf e = 1) (cq : P.cellsOf q = 1)
    (hval : Value.okWide P w r b0 t v) (h : DataW.Trod enc P w 0 (fun _ => true) hd t v d ps) :
    ∃ (A : Option Addr) (cap : Nat) (ls : List (List UInt8)), v = .slice A ls.length cap ∧ PartsAt w w.heap.size v ls ∧ (A = none → cap = 0) ∧ (∀ j, j < ls.length → ∀ u, (∀ ad, A = some ad → w.cell? (ad.add j) = some u) → ∃ A' c', u = .slice A' (ls.getD j []).length c' ∧ (A' = none → c' = 0) ∧ c' ≤ maxLen) ∧
      (∀ elems spare, d = .slice elems spare → elems.length = ls.length) := by
  obtain ⟨a0, len, cap, rfl⟩ := okWide_slice ht hval
  obtain ⟨fuel, hf⟩ := h
  rcases Go.Deep.open_int_rows ht he hq ce cq hf with ⟨hcs, hx⟩ | ⟨a, len', cap', A, L, C, Z, hcs, _, hl, hm, hx, hrow⟩
  · simp [Value.cells] at hcs
    obtain ⟨rfl, rfl, rfl⟩ := hcs
    simp only [Prod.mk.injEq] at hx
    obtain ⟨rfl, rfl⟩ := hx
    exact ⟨none, 0, [], rfl, ⟨none, 0, rfl, Nat.le_refl _, fun h => absurd h (by simp)⟩, (fun _ => rfl), (fun j hj => absurd hj (by simp)), (fun _ _ h => by cases h)⟩
  · simp [Value.cells] at hcs
    obtain ⟨rfl, rfl, rfl⟩ := hcs
    simp only [Prod.mk.injEq] at hx
    obtain ⟨rfl, rfl⟩ := hx
    let row : Nat → List UInt8 := fun r => ((Z r).take (L r)).map fun z => UInt8.ofNat z.toNat
    let ls : List (List UInt8) := (List.range len).map row
    have hll : ls.length = len := by simp [ls]
    have hget : ∀ j, j < len → ls.getD j [] = row j := by intro j hj; simp [ls, List.getD, hj]
    have hrl : ∀ j, j < len → (row j).length = L j := by
      intro j hj
      obtain ⟨_, h1, _, h2, _⟩ := hrow j (by omega)
      simp [row]; omega
    have plain : ∀ (ad : Addr) (n : Nat) (f : Nat → Value), 0 < n → (∀ j, j < n → w.cell? (ad.add j) = some (f j)) → ∃ b off, ad = ⟨b, off, none⟩ ∧ b < w.heap.size ∧ ∀ j, j < n → w.cell? ⟨b, off + j, none⟩ = some (f j) := by
      intro ad n f hn hc
      have h1 := hc 0 hn
      obtain ⟨b, off, m⟩ := ad
      cases m with
      | none =>
        have hlt := World.block_lt_of_cell? w _ h1
        refine ⟨b, off, rfl, by simpa [Addr.add] using hlt, fun j hj => ?_⟩
        have h2 := hc j hj
        rwa [add_plain] at h2
      | some m => exact absurd (show w.cell? ⟨b, off, some m⟩ = _ from h1) (by rw [cell_spot]; simp)
    have hbytes : ∀ j, j < len → BytesAt w w.heap.size (.slice (A j) (L j) (C j)) (row j) := by
      intro j hj
      obtain ⟨_, h1, _, h2, h3, h4, h5⟩ := hrow j (by omega)
      refine ⟨A j, C j, by rw [hrl j hj], by rw [hrl j hj]; exact h1, fun h0 => ?_⟩
      rw [hrl j hj] at h0
      cases hA : A j with
      | none => have := h4 hA; omega
      | some ad =>
        obtain ⟨_, hc⟩ := h5 ad hA
        obtain ⟨b, off, rfl, hb, hcell⟩ := plain ad (L j) (fun c => .int .u8 ((Z j).getD c 0)) h0 (fun c hc' => hc c (by omega))
        refine ⟨b, off, rfl, hb, fun c hc' => ?_⟩
        rw [hrl j hj] at hc'
        rw [hcell c hc']
        have hmem : (Z j).getD c 0 ∈ Z j := by
          rw [List.getD_eq_getElem?_getD, List.getElem?_eq_getElem (by omega)]
          exact List.getElem_mem _
        have hb8 := bounds_u8 (h3 _ hmem)
        have e : (row j).getD c 0 = UInt8.ofNat ((Z j).getD c 0).toNat := by
          simp only [row, List.getD_eq_getElem?_getD, List.getElem?_map, List.getElem?_take_of_lt hc']
          rw [List.getElem?_eq_getElem (by omega)]
          rfl
        rw [e, UInt8.toNat_ofNat']
        congr 2
        omega
    refine ⟨some a, cap, ls, by rw [hll], ⟨some a, cap, by rw [hll], by omega, fun h0 => ?_⟩, (fun h => by cases h), fun j hj u hu => ?_, fun elems spare h => ?_⟩
    · rw [hll] at h0
      obtain ⟨b, off, rfl, hb, hcell⟩ := plain a len (fun j => .slice (A j) (L j) (C j)) h0 (fun j hj => (hrow j (by omega)).1)
      refine ⟨b, off, rfl, hb, fun j hj => ?_⟩
      rw [hll] at hj
      exact ⟨_, hcell j hj, by rw [hget j hj]; exact hbytes j hj⟩
    · rw [hll] at hj
      obtain ⟨h0, h1, h2, _, _, h4, _⟩ := hrow j (by omega)
      have h6 := hu a rfl
      rw [h0] at h6
      refine ⟨A j, C j, ?_, h4, h2⟩
      rw [hget j hj, hrl j hj]
      exact (Option.some.inj h6).symm
    · injection h with h _
      rw [← h, hll]
      simp
end
end Go.Proofs.Ytfppddnfdinipaa
end
section
namespace Go.Proofs.Ytfppddnfdinipaa
open Go.ChangeShapes Go.WideShapes Go.ChangeAt Go.RowKit
theorem Try.ownKBE : ownKnob Try.prog.godebug = none := by kernel_rfl
set_option maxRecDepth 100000 in
theorem blobEnds_lifted (os : Os) (started : os.Started) (H : Type) (enc : TypeId × Value → H) :
    ReturnsInHanded {} Try.checked os 9 .any (Rows.blobEndsSpec.pre6 enc Try.prog Try.f9 Rows.blobEndsRow.domain false) (Rows.blobEndsSpec.post enc Try.prog Try.f9 false true false false) := by
  refine returnsInHanded_of_change_sized (C := Try.checked) Try.ownKBE started (by kernel_rfl) Try.func9
    (ChangeSpec.witness6 (enc := enc) (C := Try.checked) false ⟨#[], #[], []⟩ 8 (by kernel_rfl) (by kernel_rfl) (by kernel_rfl) (by kernel_rfl)) ?_
  intro W base args ds gs before _ hW _ _ _
  have hW' := hW
  obtain ⟨p, q, hA0, hV, rfl, hfz, hnd⟩ := hW
  have hA : DataW.TrodAll enc Try.prog W 0 (fun _ => true) true Try.f9.params.toList args.toList ds p := hA0
  rw [Try.params9] at hA
  obtain ⟨rfl, rfl, rfl⟩ := trodAll_none hA
  obtain ⟨rfl, rfl⟩ := trodVars_none hV
  have fin : ∀ e W', e = Ending.returned (.bool true) ∧ Below W.heap.size W W' → ∃ v, e = .returned v ∧ Rows.blobEndsSpec.post enc Try.prog Try.f9 false true false false W #[] v W' := by
    rintro e W' ⟨rfl, hb⟩
    exact ⟨_, rfl, law_end laidOut hW' rfl rfl (by kernel_rfl) Try.underlying4 (by kernel_rfl) hb⟩
  exact (ends_any W).mono fin

theorem blobEnds_holds : Rows.BlobEndsSaid :=
  OpenClaim.holds_of_wide 9 Try.f9 rfl rfl rfl rfl rfl rfl rfl ⟨rfl, rfl, rfl, rfl, rfl⟩ rfl rfl rfl rfl rfl (by kernel_rfl) Try.func9 (by kernel_rfl)
    (of_decide_eq_true (by kernel_rfl)) (by unfold Func.isWrapper; first | (rw [if_pos (by decide +kernel)]; kernel_rfl) | (rw [if_neg (by decide +kernel)]; exact ⟨rfl, rfl⟩))
    (fun os started H enc _ => blobEnds_lifted os started H enc)
end Go.Proofs.Ytfppddnfdinipaa
end
