/- The walks of the document's digest (spenceref02): the constants, a turned word, a word of four bytes. -/
import Derived.Test.YtjmenaplgndnnaaShaC
import Derived.Test.YtjmenaplgndnnaaExec
namespace Go.Proofs.Ytjmenaplgndnnaa
open Go.RowKit
set_option maxHeartbeats 400000 in
theorem rks_any (w : World) : Calls Try.prog 115 #[] w fun e w' => e = .returned (.agg (uv Sha.ks)) ∧ Below w.heap.size w w' := by
  go_enter Try.func115, Try.ntmps115
  go_step
  go_step
  apply wp_region_lit
  refine wpList_value (o := ⟨some 0, _, _, _, _, _⟩) rfl (.pointer (some ⟨w.heap.size, 0, none⟩)) (w.alloc (.cells uz 216)) ?ha ?_
  case ha => kernel_rfl
  dsimp only [Act.put, List.setIfInBounds_toArray, List.set_cons_zero, List.set_cons_succ]
  go_step
  go_step
  go_step
  go_step
  apply wp_region_lit
  refine wpList_value (o := ⟨some 1, _, _, _, _, _⟩) rfl (.agg (uv Sha.ks)) (w.alloc (.cells uz 216)) ?hb ?_
  case hb => kernel_rfl
  dsimp only [Act.put, List.setIfInBounds_toArray, List.set_cons_zero, List.set_cons_succ]
  refine wpList_store_blk (o := ⟨none, _, _, _, _, _⟩) rfl 216 _ _ rfl w.heap.size uz (uv Sha.ks) 216 (Blk.new _ _ _) (by rw [uv_size]; exact size147) (by rw [uv_size, uz, uv_size, List.length_replicate]; rfl) (uv_one _) rfl rfl ?_
  rw [World.setRow_alloc_new]
  dsimp only [Act.put]
  go_wp2
  exact bodyPost_ret (results_cell_row rfl _ _ w.heap.size 216 _ (0,0) _ rfl (heap_alloc_new _ _) Try.underlying216 rfl size147) rfl ⟨rfl, (Below.refl _ _).alloc (Nat.le_refl _) _⟩
theorem turn_eq (x : Sha.W) (k : Nat) (h1 : 1 ≤ k) (h2 : k ≤ 31) : bits BinOp.or IntKind.u32 (U x / 2 ^ k) (U x * 2 ^ (32 - k) % 4294967296) = U (x.rotateRight k) := by
  rw [U_shl, U_shr, U_or, BitVec.rotateRight_def, Nat.mod_eq_of_lt (by omega)]
set_option maxHeartbeats 400000 in
theorem turn_any (x : Sha.W) (k : Nat) (h1 : 1 ≤ k) (h2 : k ≤ 31) (w : World) :
    Calls Try.prog 114 #[.int .u32 (U x), .int .i64 (k : Int)] w fun e w' => e = .returned (.int .u32 (U (x.rotateRight k))) ∧ ∃ n, w' = w.drewN n := by
  have q1 : (0 : Int) ≤ (k : Int) := by omega
  have q2 : (k : Int) ≤ 32 := by omega
  have q3 : (0 : Int) ≤ 32 - (k : Int) := by omega
  have q4 : 32 - (k : Int) ≤ 32 := by omega
  have q5 : IntKind.i64.wrap (32 - (k : Int)) = 32 - (k : Int) := IntWalk.i64_in _ (by omega)
  have q6 : (32 - (k : Int)).toNat = 32 - k := by omega
  have ht := turn_eq x k h1 h2
  go_enter Try.func114, Try.ntmps114
  go_wp2_with fail
  go_quiet (fail)
  go_wp2_with fail
  go_ret
  exact ⟨ret_int (by first | rfl | exact ht), _, rfl⟩
/-- bytes, the highest first -/
def hv (l : List UInt8) : Nat := l.foldl (fun n x => 256 * n + x.toNat) 0
theorem hv_snoc (l : List UInt8) (x : UInt8) : hv (l ++ [x]) = 256 * hv l + x.toNat := by simp [hv]
theorem word_hv (B : List UInt8) (t : Nat) (x0 x1 x2 x3 : UInt8) (h : B.getD (4 * t) 0 = x0 ∧ B.getD (4 * t + 1) 0 = x1 ∧ B.getD (4 * t + 2) 0 = x2 ∧ B.getD (4 * t + 3) 0 = x3) : (hv [x0, x1, x2, x3] : Int) = U (Sha.word B t) := by
  obtain ⟨e0, e1, e2, e3⟩ := h
  have l0 := x0.toNat_lt
  have l1 := x1.toNat_lt
  have l2 := x2.toNat_lt
  have l3 := x3.toNat_lt
  have hw : (Sha.word B t).toNat = 256 * (256 * (256 * x0.toNat + x1.toNat) + x2.toNat) + x3.toNat := by
    unfold Sha.word
    rw [e0, e1, e2, e3]
    simp only [BitVec.toNat_or, BitVec.toNat_shiftLeft, Sha.bw, BitVec.toNat_ofNat, Nat.shiftLeft_eq]
    rw [Nat.mod_eq_of_lt (show x0.toNat < 2 ^ 32 by omega), Nat.mod_eq_of_lt (show x1.toNat < 2 ^ 32 by omega), Nat.mod_eq_of_lt (show x2.toNat < 2 ^ 32 by omega), Nat.mod_eq_of_lt (show x3.toNat < 2 ^ 32 by omega),
      Nat.mod_eq_of_lt (show x0.toNat * 2 ^ 24 < 2 ^ 32 by omega), Nat.mod_eq_of_lt (show x1.toNat * 2 ^ 16 < 2 ^ 32 by omega), Nat.mod_eq_of_lt (show x2.toNat * 2 ^ 8 < 2 ^ 32 by omega)]
    have f1 : x0.toNat * 2 ^ 24 ||| x1.toNat * 2 ^ 16 = 2 ^ 16 * (256 * x0.toNat + x1.toNat) := by
      rw [Nat.mul_comm x0.toNat, ← Nat.two_pow_add_eq_or_of_lt (show x1.toNat * 2 ^ 16 < 2 ^ 24 by omega)]; omega
    have f2 : 2 ^ 16 * (256 * x0.toNat + x1.toNat) ||| x2.toNat * 2 ^ 8 = 2 ^ 8 * (256 * (256 * x0.toNat + x1.toNat) + x2.toNat) := by
      rw [← Nat.two_pow_add_eq_or_of_lt (show x2.toNat * 2 ^ 8 < 2 ^ 16 by omega)]; omega
    have f3 : 2 ^ 8 * (256 * (256 * x0.toNat + x1.toNat) + x2.toNat) ||| x3.toNat = 256 * (256 * (256 * x0.toNat + x1.toNat) + x2.toNat) + x3.toNat := by
      rw [← Nat.two_pow_add_eq_or_of_lt (show x3.toNat < 2 ^ 8 by omega)]
    rw [f1, f2, f3]
  unfold U
  rw [hw]
  simp [hv]
theorem hv_lt (l : List UInt8) (k : Nat) : hv (l.take k) < 256 ^ k := by
  induction k with
  | zero => simp [hv]
  | succ k ih =>
    by_cases h : k < l.length
    · rw [List.take_succ_eq_append_getElem h, hv_snoc, Nat.pow_succ]
      have := (l[k]).toNat_lt
      omega
    · rw [List.take_of_length_le (by omega)]
      rw [List.take_of_length_le (by omega)] at ih
      exact Nat.lt_of_lt_of_le ih (Nat.pow_le_pow_right (by omega) (by omega))
theorem hv_step (l : List UInt8) (k : Nat) (h : k < l.length) : hv (l.take (k + 1)) = 256 * hv (l.take k) + (l.getD k 0).toNat := by
  rw [List.take_succ_eq_append_getElem h, hv_snoc]
  simp [List.getD, h]
set_option maxHeartbeats 400000 in
theorem rword_any (l : List UInt8) (hl : l.length = 4) (b off n cap : Nat) (h4 : 4 ≤ n) (w : World) (hc : ∀ j, j < 4 → w.cell? ⟨b, off + j, none⟩ = some (.int .u8 ((l.getD j 0).toNat : Int))) :
    Calls Try.prog 113 #[.slice (some ⟨b, off, none⟩) n cap] w fun e w' => e = .returned (.int .u32 (hv l : Int)) ∧ w = w' := by
  have HC := hide hc
  clear hc
  go_enter Try.func113, Try.ntmps113
  go_wp2_with fail
  go_loop [3, 4] (fun s i => ∃ k m : Nat, k ≤ 4 ∧ i = .int .i64 (k : Int) ∧ s = .int .u32 (m : Int) ∧ m = hv (l.take k)) (fun _ i => (4 - intOf i).toNat)
  case atStart => exact ⟨0, 0, by omega, rfl, rfl, by simp [hv]⟩
  case round =>
    obtain ⟨k, m, hk, rfl, rfl, hm⟩ := hrel
    by_cases hlt : k < 4
    · have c := HC.out k hlt
      obtain ⟨x, hx⟩ : ∃ x, x = l.getD k 0 := ⟨_, rfl⟩
      rw [← hx] at c
      have hm2 : m < 16777216 := by
        rw [hm]
        have h1 := hv_lt l k
        have h2 : 256 ^ k ≤ 256 ^ 3 := Nat.pow_le_pow_right (by omega) (by omega)
        omega
      have hx2 := x.toNat_lt
      have i1 : (0 : Int) ≤ (k : Int) := by omega
      have i2 : (k : Int) < (n : Int) := by omega
      have HM := hide hm
      have HX := hide hx
      clear hm hx
      go_wp2_with fail
      go_round
      case rel =>
        refine ⟨k + 1, 256 * m + x.toNat, by omega, by go_num, ?_, by rw [hv_step l k (by omega), ← HM.out, ← HX.out]⟩
        first | go_num | (congr 1; omega)
      case measure => simp [intOf]; omega
    · obtain rfl : k = 4 := by omega
      go_wp2_with fail
      go_ret
      exact ⟨ret_int (by rw [List.take_of_length_le (by omega)]), rfl⟩
end Go.Proofs.Ytjmenaplgndnnaa
