/- The walks of the program's package hash, leaves first: a turned word, mixed words, the constants. -/
import Derived.Test.YtjmenaplgndnnaaBase
import Derived.Test.YtjmenaplgndnnaaSha
namespace Go.Proofs.Ytjmenaplgndnnaa
open Go.RowKit

/-! words as numbers: a name that the walk does not look behind -/
def U (x : Sha.W) : Int := (x.toNat : Int)
theorem U_lo (x : Sha.W) : 0 ≤ U x := by unfold U; omega
theorem U_hi (x : Sha.W) : U x ≤ 4294967295 := by unfold U; have := x.isLt; omega
theorem U_zero : U 0 = 0 := rfl
theorem U_xor (x y : Sha.W) : bits .xor .u32 (U x) (U y) = U (x ^^^ y) := by
  unfold U; rw [u32_xor_nat _ _ x.isLt y.isLt, BitVec.toNat_xor]
theorem U_or (x y : Sha.W) : bits .or .u32 (U x) (U y) = U (x ||| y) := by
  unfold U; rw [u32_or_nat _ _ x.isLt y.isLt, BitVec.toNat_or]
theorem U_and (x y : Sha.W) : bits .and .u32 (U x) (U y) = U (x &&& y) := by
  unfold U; rw [u32_and_nat _ _ x.isLt y.isLt, BitVec.toNat_and]
theorem U_add' (x y : Sha.W) : (U x + U y) % 4294967296 = U (x + y) := by
  unfold U; rw [BitVec.toNat_add]; omega
theorem U_add (x y : Sha.W) : IntKind.u32.wrap (U x + U y) = U (x + y) := by
  rw [IntKind.wrap_u32', U_add']
theorem U_shl (x : Sha.W) (j : Nat) : U x * 2 ^ j % 4294967296 = U (x <<< j) := by
  unfold U; rw [BitVec.toNat_shiftLeft, Nat.shiftLeft_eq, Int.natCast_emod, Int.natCast_mul, Int.natCast_pow]; rfl
theorem U_shr (x : Sha.W) (j : Nat) : U x / 2 ^ j = U (x >>> j) := by
  unfold U; rw [BitVec.toNat_ushiftRight, Nat.shiftRight_eq_div_pow, Int.natCast_ediv, Int.natCast_pow]; rfl
theorem U_shr10 (x : Sha.W) : U x / 1024 = U (x >>> 10) := U_shr x 10
theorem U_shr3 (x : Sha.W) : U x / 8 = U (x >>> 3) := U_shr x 3
theorem U_bw (b : UInt8) : U (Sha.bw b) = (b.toNat : Int) := by
  unfold U Sha.bw; rw [BitVec.toNat_ofNat]; have := b.toNat_lt; omega

theorem and31 (k : Nat) (h1 : 1 ≤ k) (h2 : k ≤ 31) : bits .and .u64 (IntKind.u64.wrap (-(k:Int))) 31 = ((32 - k : Nat) : Int) := by
  have e : IntKind.u64.wrap (-(k:Int)) = ((18446744073709551616 - k : Nat) : Int) := by
    rw [IntKind.wrap_u64]; omega
  rw [e, show (31 : Int) = ((31 : Nat) : Int) from rfl, u64_and_nat _ _ (by omega) (by omega), nat_mask5]
  omega
theorem rot_eq (x : Sha.W) (k j : Nat) (h1 : 1 ≤ k) (h2 : k ≤ 31) (hj : j = 32 - k) :
    bits BinOp.or IntKind.u32 (U x * 2 ^ j % 4294967296) (U x / 2 ^ (32 - j)) = U (x.rotateRight k) := by
  subst hj
  rw [U_shl, U_shr, U_or, show 32 - (32 - k) = k by omega]
  congr 1
  rw [BitVec.or_comm, BitVec.rotateRight_def, Nat.mod_eq_of_lt (by omega)]

set_option maxHeartbeats 400000 in
theorem rot_any (x : Sha.W) (k : Nat) (h1 : 1 ≤ k) (h2 : k ≤ 31) (w : World) :
    Calls Try.prog 123 #[.int .u32 (U x), .int .i64 (-(k:Int))] w fun e w' => e = .returned (.int .u32 (U (x.rotateRight k))) ∧ w = w' := by
  have ha := and31 k h1 h2
  obtain ⟨j, hj⟩ : ∃ j, j = 32 - k := ⟨_, rfl⟩
  rw [← hj] at ha
  have hj1 : 1 ≤ j := by omega
  have hj2 : j ≤ 31 := by omega
  have H := hide hj
  clear hj
  go_enter Try.func123, Try.ntmps123
  go_wp2
  go_ret
  exact ⟨ret_int (rot_eq x k j h1 h2 H.out), rfl⟩

theorem mix_snoc (x : Sha.W) (l : List Nat) (k : Nat) : Sha.mix x (l ++ [k]) = Sha.mix x l ^^^ x.rotateRight k := by
  simp [Sha.mix, List.foldl_append]
theorem mix_step (x : Sha.W) (l : List Nat) (k : Nat) (hk : k < l.length) : Sha.mix x (l.take (k + 1)) = Sha.mix x (l.take k) ^^^ x.rotateRight (l.getD k 0) := by
  rw [List.take_succ_eq_append_getElem hk, mix_snoc]; simp [List.getD, hk]

set_option maxHeartbeats 400000 in
theorem mixed_any (x : Sha.W) (l : List Nat) (hl : ∀ k, k < l.length → 1 ≤ l.getD k 0 ∧ l.getD k 0 ≤ 31) (h8 : l.length ≤ 8) (b c : Nat) (w : World)
    (hc : ∀ k, k < l.length → w.cell? ⟨b, k, none⟩ = some (.int .i64 ((l.getD k 0 : Nat) : Int))) :
    Calls Try.prog 118 #[.int .u32 (U x), .slice (some ⟨b, 0, none⟩) l.length c] w fun e w' => e = .returned (.int .u32 (U (Sha.mix x l))) ∧ w = w' := by
  have HL := hide hl
  have HC := hide hc
  clear hl hc
  go_enter Try.func118, Try.ntmps118
  go_wp2
  go_loop [4, 9] (fun a i => ∃ k : Nat, k ≤ l.length ∧ i = .int .i64 k ∧ a = .int .u32 (U (Sha.mix x (l.take k)))) (fun _ i => l.length - (intOf i).toNat)
  case atStart => exact ⟨0, Nat.zero_le _, rfl, by rw [List.take_zero]; rfl⟩
  case round =>
    obtain ⟨k, hk, rfl, rfl⟩ := hrel
    by_cases hlt : k < l.length
    · have hx := U_xor (Sha.mix x (l.take k)) (x.rotateRight (l.getD k 0))
      have hb := HL.out k hlt
      have hcell := HC.out k hlt
      obtain ⟨d, hd⟩ : ∃ d, d = l.getD k 0 := ⟨_, rfl⟩
      rw [← hd] at hx hcell hb
      have HD := hide hd
      clear hd
      obtain ⟨hb1, hb2⟩ := hb
      go_wp2_with (go_at_call 123; refine (rot_any _ _ hb1 hb2 _).mono ?_; rintro e w' ⟨rfl, rfl⟩)
      go_round
      case rel => exact ⟨k + 1, by omega, by go_num, by rw [mix_step x l k hlt, ← HD.out]⟩
      case measure => simp [intOf]; omega
    · go_wp2
      go_ret
      exact ⟨ret_int (by rw [List.take_of_length_le (by omega)]), rfl⟩

theorem mixed2_any (x : Sha.W) (a b : Nat) (ha : 1 ≤ a ∧ a ≤ 31) (hb : 1 ≤ b ∧ b ≤ 31) (g c : Nat) (w : World) (h0 : w.cell? ⟨g, 0, none⟩ = some (.int .i64 (a : Int))) (h1 : w.cell? ⟨g, 1, none⟩ = some (.int .i64 (b : Int))) :
    Calls Try.prog 118 #[.int .u32 (U x), .slice (some ⟨g, 0, none⟩) 2 c] w fun e w' => e = .returned (.int .u32 (U (Sha.mix x [a, b]))) ∧ w = w' :=
  mixed_any x [a, b] (fun k hk => by match k, hk with | 0, _ => exact ha | 1, _ => exact hb) (by simp) g c w (fun k hk => by match k, hk with | 0, _ => exact h0 | 1, _ => exact h1)
theorem mixed3_any (x : Sha.W) (a b d : Nat) (ha : 1 ≤ a ∧ a ≤ 31) (hb : 1 ≤ b ∧ b ≤ 31) (hd : 1 ≤ d ∧ d ≤ 31) (g c : Nat) (w : World) (h0 : w.cell? ⟨g, 0, none⟩ = some (.int .i64 (a : Int))) (h1 : w.cell? ⟨g, 1, none⟩ = some (.int .i64 (b : Int)))
    (h2 : w.cell? ⟨g, 2, none⟩ = some (.int .i64 (d : Int))) :
    Calls Try.prog 118 #[.int .u32 (U x), .slice (some ⟨g, 0, none⟩) 3 c] w fun e w' => e = .returned (.int .u32 (U (Sha.mix x [a, b, d]))) ∧ w = w' :=
  mixed_any x [a, b, d] (fun k hk => by match k, hk with | 0, _ => exact ha | 1, _ => exact hb | 2, _ => exact hd) (by simp) g c w (fun k hk => by match k, hk with | 0, _ => exact h0 | 1, _ => exact h1 | 2, _ => exact h2)
end Go.Proofs.Ytjmenaplgndnnaa
