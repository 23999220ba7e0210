/- The walk of spencelaw02.HashFolds. -/
import Derived.Test.YtjmenaplgndnnaaRefI
import Derived.Test.YtjmenaplgndnnaaExec
import Derived.Test.YtjmenaplgndnnaaMade
namespace Go.Proofs.Ytjmenaplgndnnaa
open Go.RowKit
theorem sum_info32 (s : List UInt8) (hs : s.length = 32) : (Try.prog.info? 53).map (·.size) = some (bv s).toArray.size := by rw [List.size_toArray, bv, List.length_map, hs]; exact size27
set_option maxRecDepth 100000 in
set_option maxHeartbeats 1000000 in
theorem hashFolds_big (s : List UInt8) (tag : ByteArray) (ls : List (List UInt8)) (hl : ls.length ≤ 140737488355328) (hb : ∀ l ∈ ls, l.length ≤ 140737488355328) (ht : tag.size ≤ 140737488355328) (hbig : 6000 < ls.length + fl ls + tag.size) (v : Value) (w : World) (hv : RowsAt w w.heap.size v ls) :
    Calls Try.prog 5 #[.agg (bv s).toArray, .string tag, v] w fun e w' => e = .returned (.bool true) ∧ Below w.heap.size w w' := by
  obtain ⟨S, hS⟩ : ∃ S, S = (bv s).toArray := ⟨_, rfl⟩
  rw [← hS]
  clear hS
  have HV := hide (hv.alike (alike_of_below ((Below.refl w.heap.size w).alloc (Nat.le_refl _) (.cells S 53))))
  have HB := hide hb
  clear hv hb
  have HL := hide ((Below.refl w.heap.size w).alloc (Nat.le_refl _) (.cells S 53))
  go_enter Try.func5, Try.ntmps5
  go_wp2_with fail
  refine (size02_any ls hl HB.out v _ _ HV.out).mono ?_
  rintro e w' ⟨r, rfl, rfl, hr, hor⟩
  have h1 : (6000 : Int) < (r : Int) + (tag.size : Int) := by omega
  clear hor
  dsimp only
  go_wp2_with fail
  refine (awake_any _).mono ?_
  rintro e w1 ⟨rfl, hb1⟩
  have HB1 := hide hb1
  clear hb1
  dsimp only
  go_wp2_with fail
  go_ret
  exact ⟨rfl, HL.out.trans (HB1.out.mono HL.out.size)⟩
set_option maxRecDepth 100000 in
set_option maxHeartbeats 4000000 in
theorem hashFolds_small (s : List UInt8) (hs : s.length = 32) (tag : ByteArray) (ls : List (List UInt8)) (hsm : ls.length + fl ls + tag.size ≤ 6000) (v : Value) (w : World) (B : Nat) (hB : B ≤ w.heap.size) (hv : RowsAt w B v ls) :
    Calls Try.prog 5 #[.agg (bv s).toArray, .string tag, v] w fun e w' => e = .returned (.bool true) ∧ Below w.heap.size w w' := by
  have hel : ∀ l ∈ ls, l.length ≤ 6000 := fun l h => by have h1 := mem_flat_le h; unfold fl at hsm; omega
  have hll : ls.length ≤ 6000 := by omega
  have htl : tag.size ≤ 6000 := by omega
  obtain ⟨t, ht⟩ : ∃ t, t = tag.data.toList := ⟨_, rfl⟩
  have htn : t.length = tag.size := by rw [ht]; simp
  have hsi := sum_info32 s hs
  obtain ⟨S, hS⟩ : ∃ S, S = (bv s).toArray := ⟨_, rfl⟩
  rw [← hS] at hsi ⊢
  have HS := hide (And.intro hS hs)
  have hblk := Blk.new w 53 S
  have hal : Below w.heap.size w (w.alloc (.cells S 53)) := (Below.refl w.heap.size w).alloc (Nat.le_refl _) (.cells S 53)
  have HV := hide (hv.alike (alike_of_below (hal.mono hB)))
  have HEL := hide hel
  have HSM := hide hsm
  have HT := hide (And.intro ht htn)
  have H0 := hide (And.intro hblk hal)
  clear hv hel hsm ht htn hS hblk hal hs
  go_enter Try.func5, Try.ntmps5
  go_wp2_with fail
  refine (size02_any ls (by omega) (fun l h => by have := HEL.out l h; omega) v B _ HV.out).mono ?_
  rintro e w' ⟨r, rfl, rfl, hr, hor⟩
  have h1 : ¬ (6000 : Int) < (r : Int) + (tag.size : Int) := by have := HSM.out; omega
  have h2 : (r : Int) ≤ 6000 := by omega
  clear hor
  dsimp only
  go_wp2_with fail
  refine (lentRows_any ls (fun l h => by have := HEL.out l h; omega) (by omega) v _ B (by rw [size_alloc]; omega) HV.out).mono ?_
  rintro e w1 ⟨v1, us, rfl, hrow, hb1⟩
  obtain ⟨A1, cap1, rfl, _, _⟩ := hrow.cell
  have hs1 : w.heap.size + 1 ≤ w1.heap.size := by have := hb1.size; rw [size_alloc] at this; exact this
  have hblk1 : Blk w1 w.heap.size 53 S := H0.out.1.below hb1 H0.out.1.lt
  have hrows1 : RowsAt w1 B v ls := HV.out.alike (alike_of_below (hb1.mono (by rw [size_alloc]; omega)))
  have hbw1 : Below w.heap.size w w1 := H0.out.2.trans (hb1.mono (by rw [size_alloc]; omega))
  clear hb1
  dsimp only
  go_wp2_with fail
  obtain ⟨D, hD⟩ : ∃ D, D = fold s 32 := ⟨_, rfl⟩
  have hDl : D.length = 20 := by rw [hD]; exact length_fold _ _
  obtain ⟨E, hE⟩ : ∃ E, E = ofB t ls := ⟨_, rfl⟩
  have hEl : E.length = 20 := by rw [hE]; exact length_fold _ _
  have heq1 := run_eql_bv (P := Try.prog) 57 5 20 Try.underlying57 Try.underlying5 size5 D D hDl hDl
  rw [show (D == D) = true by simp] at heq1
  have heq2 := run_eql_bv (P := Try.prog) 57 5 20 Try.underlying57 Try.underlying5 size5 E E hEl hEl
  rw [show (E == E) = true by simp] at heq2
  have hB1 : B ≤ w1.heap.size := by omega
  have cF : ∀ W, Ext w1 W → Calls Try.prog 29 #[.agg S] W fun e w' => e = .returned (.agg (bv D).toArray) ∧ Ext W w' := fun W _ => by rw [HS.out.1, hD]; exact fold_any s HS.out.2 W
  have cR : ∀ W, Ext w1 W → Calls Try.prog 30 #[.agg S] W fun e w' => e = .returned (.agg (bv D).toArray) ∧ Ext W w' := fun W _ => by rw [HS.out.1, hD]; exact rfold_any s HS.out.2 W
  have cO : ∀ W, Ext w1 W → Calls Try.prog 31 #[.string tag, .slice A1 ls.length cap1] W fun e w' => e = .returned (.agg (bv E).toArray) ∧ Ext W w' := fun W hx => by
    rw [hE]
    exact of_any tag t HT.out.1 (by omega) ls (by have := HSM.out; unfold fl at this; omega) (by omega) _ W W.heap.size (Nat.le_refl _) (hrow.keep hx).parts
  have cQ : ∀ W, Ext w1 W → Calls Try.prog 32 #[.string tag, v] W fun e w' => e = .returned (.agg (bv E).toArray) ∧ Ext W w' := fun W hx => by
    rw [hE]
    exact rof_any tag t HT.out.1 ls (by have := HSM.out; have := HT.out.2; omega) _ W B (by have := hx.size; omega) (hrows1.alike (alike_of_below (Below.mono hx hB1)))
  have cK : ∀ W, Ext w1 W → Calls Try.prog 33 #[.slice A1 ls.length cap1, v] W fun e w' => e = .returned (.bool true) ∧ Ext W w' := fun W hx =>
    (keptRows_any ls (fun l h => by have := HEL.out l h; omega) (by omega) _ v us _ B W (hrow.keep hx) (hrows1.alike (alike_of_below (Below.mono hx hB1)))).mono fun e w' ⟨h1, k, h2⟩ => ⟨h1, by rw [h2]; exact below_drewN (Below.refl _ _) k⟩
  have cA : ∀ W, Ext w1 W → Calls Try.prog 27 #[] W fun e w' => e = .returned (.bool true) ∧ Ext W w' := fun W _ => awake_any W
  refine wp_made 22 [] (by kernel_rfl) (by kernel_rfl) (by intro p hp; cases hp) List.nodup_nil (by intro t ht; cases ht) ?_
  simp only [List.take_succ_cons, List.take_zero, List.drop_succ_cons, List.drop_zero]
  refine made_val (.agg S) (by kernel_rfl) (by kernel_rfl) (by kernel_rfl) (fun W hx => exec_load_blk 53 _ rfl w.heap.size rfl 53 S _ _ Try.underlying53 hsi W (hblk1.below hx hblk1.lt)) ?_
  simp only [Act.put, List.setIfInBounds_toArray, List.set_cons_zero, List.set_cons_succ]
  refine made_call (.agg (bv D).toArray) 29 #[.agg S] (by kernel_rfl) (by kernel_rfl) (by kernel_rfl) (fun W => by kernel_rfl) cF ?_
  simp only [Act.put, List.setIfInBounds_toArray, List.set_cons_zero, List.set_cons_succ]
  refine made_val (.agg S) (by kernel_rfl) (by kernel_rfl) (by kernel_rfl) (fun W hx => exec_load_blk 53 _ rfl w.heap.size rfl 53 S _ _ Try.underlying53 hsi W (hblk1.below hx hblk1.lt)) ?_
  simp only [Act.put, List.setIfInBounds_toArray, List.set_cons_zero, List.set_cons_succ]
  refine made_call (.agg (bv D).toArray) 30 #[.agg S] (by kernel_rfl) (by kernel_rfl) (by kernel_rfl) (fun W => by kernel_rfl) cR ?_
  simp only [Act.put, List.setIfInBounds_toArray, List.set_cons_zero, List.set_cons_succ]
  refine made_val (.bool true) (by kernel_rfl) (by kernel_rfl) (by kernel_rfl) (fun W _ => exec_binop_agg _ _ _ _ _ rfl _ _ rfl rfl (by kernel_rfl) _ heq1 W) ?_
  simp only [Act.put, List.setIfInBounds_toArray, List.set_cons_zero, List.set_cons_succ]
  refine made_val (.bool true) (by kernel_rfl) (by kernel_rfl) (by kernel_rfl) (fun _ _ => by kernel_rfl) ?_
  simp only [Act.put, List.setIfInBounds_toArray, List.set_cons_zero, List.set_cons_succ]
  refine made_val (.string tag) (by kernel_rfl) (by kernel_rfl) (by kernel_rfl) (fun _ _ => by kernel_rfl) ?_
  simp only [Act.put, List.setIfInBounds_toArray, List.set_cons_zero, List.set_cons_succ]
  refine made_val (.slice A1 ls.length cap1) (by kernel_rfl) (by kernel_rfl) (by kernel_rfl) (fun _ _ => by kernel_rfl) ?_
  simp only [Act.put, List.setIfInBounds_toArray, List.set_cons_zero, List.set_cons_succ]
  refine made_call (.agg (bv E).toArray) 31 #[.string tag, .slice A1 ls.length cap1] (by kernel_rfl) (by kernel_rfl) (by kernel_rfl) (fun W => by kernel_rfl) cO ?_
  simp only [Act.put, List.setIfInBounds_toArray, List.set_cons_zero, List.set_cons_succ]
  refine made_val (.string tag) (by kernel_rfl) (by kernel_rfl) (by kernel_rfl) (fun _ _ => by kernel_rfl) ?_
  simp only [Act.put, List.setIfInBounds_toArray, List.set_cons_zero, List.set_cons_succ]
  refine made_val v (by kernel_rfl) (by kernel_rfl) (by kernel_rfl) (fun _ _ => by kernel_rfl) ?_
  simp only [Act.put, List.setIfInBounds_toArray, List.set_cons_zero, List.set_cons_succ]
  refine made_call (.agg (bv E).toArray) 32 #[.string tag, v] (by kernel_rfl) (by kernel_rfl) (by kernel_rfl) (fun W => by kernel_rfl) cQ ?_
  simp only [Act.put, List.setIfInBounds_toArray, List.set_cons_zero, List.set_cons_succ]
  refine made_val (.bool true) (by kernel_rfl) (by kernel_rfl) (by kernel_rfl) (fun W _ => exec_binop_agg _ _ _ _ _ rfl _ _ rfl rfl (by kernel_rfl) _ heq2 W) ?_
  simp only [Act.put, List.setIfInBounds_toArray, List.set_cons_zero, List.set_cons_succ]
  refine made_val (.bool true) (by kernel_rfl) (by kernel_rfl) (by kernel_rfl) (fun _ _ => by kernel_rfl) ?_
  simp only [Act.put, List.setIfInBounds_toArray, List.set_cons_zero, List.set_cons_succ]
  refine made_val (.bool true) (by kernel_rfl) (by kernel_rfl) (by kernel_rfl) (fun _ _ => by kernel_rfl) ?_
  simp only [Act.put, List.setIfInBounds_toArray, List.set_cons_zero, List.set_cons_succ]
  refine made_val (.slice A1 ls.length cap1) (by kernel_rfl) (by kernel_rfl) (by kernel_rfl) (fun _ _ => by kernel_rfl) ?_
  simp only [Act.put, List.setIfInBounds_toArray, List.set_cons_zero, List.set_cons_succ]
  refine made_val v (by kernel_rfl) (by kernel_rfl) (by kernel_rfl) (fun _ _ => by kernel_rfl) ?_
  simp only [Act.put, List.setIfInBounds_toArray, List.set_cons_zero, List.set_cons_succ]
  refine made_call (.bool true) 33 #[.slice A1 ls.length cap1, v] (by kernel_rfl) (by kernel_rfl) (by kernel_rfl) (fun W => by kernel_rfl) cK ?_
  simp only [Act.put, List.setIfInBounds_toArray, List.set_cons_zero, List.set_cons_succ]
  refine made_val (.bool true) (by kernel_rfl) (by kernel_rfl) (by kernel_rfl) (fun _ _ => by kernel_rfl) ?_
  simp only [Act.put, List.setIfInBounds_toArray, List.set_cons_zero, List.set_cons_succ]
  refine made_val (.bool true) (by kernel_rfl) (by kernel_rfl) (by kernel_rfl) (fun _ _ => by kernel_rfl) ?_
  simp only [Act.put, List.setIfInBounds_toArray, List.set_cons_zero, List.set_cons_succ]
  refine made_call (.bool true) 27 #[] (by kernel_rfl) (by kernel_rfl) (by kernel_rfl) (fun W => by kernel_rfl) cA ?_
  simp only [Act.put, List.setIfInBounds_toArray, List.set_cons_zero, List.set_cons_succ]
  refine made_val (.bool true) (by kernel_rfl) (by kernel_rfl) (by kernel_rfl) (fun _ _ => by kernel_rfl) ?_
  simp only [Act.put, List.setIfInBounds_toArray, List.set_cons_zero, List.set_cons_succ]
  show ∀ w', _ → _
  intro w5 hx5
  simp only [ended]
  go_wp2_with fail
  go_ret
  exact ⟨rfl, hbw1.trans (Below.mono hx5 (by omega))⟩
end Go.Proofs.Ytjmenaplgndnnaa
