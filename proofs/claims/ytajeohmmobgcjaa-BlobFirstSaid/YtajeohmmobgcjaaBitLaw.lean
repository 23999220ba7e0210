/- a bit of a number, asked for in two ways. -/
import Derived.Test.YtajeohmmobgcjaaBase
namespace Go.Proofs.Ytajeohmmobgcjaa
open Go
theorem and_pow_ne (Z m : Nat) : (Z &&& 2 ^ m ≠ 0) ↔ Z.testBit m = true := by
  constructor
  · intro h
    cases hb : Z.testBit m with
    | true => rfl
    | false =>
      exfalso
      apply h
      apply Nat.eq_of_testBit_eq
      intro i
      rw [Nat.testBit_and, Nat.testBit_two_pow, Nat.zero_testBit]
      by_cases e : m = i
      · subst e; rw [hb, Bool.false_and]
      · simp [e]
  · intro h e
    have : (Z &&& 2 ^ m).testBit m = true := by rw [Nat.testBit_and, h, Nat.testBit_two_pow_self]; rfl
    rw [e, Nat.zero_testBit] at this
    cases this
theorem int_bit (z : Int) (m : Nat) (hm : m < 62) : (((z % 18446744073709551616).toNat).testBit m = true) ↔ (z / 2 ^ m) % 2 = 1 := by
  rw [Nat.testBit_eq_decide_div_mod_eq, decide_eq_true_iff]
  have h0 : 0 ≤ z % 18446744073709551616 := Int.emod_nonneg _ (by omega)
  obtain ⟨Z, hZ⟩ : ∃ Z : Nat, z % 18446744073709551616 = (Z : Int) := ⟨(z % 18446744073709551616).toNat, by omega⟩
  rw [hZ, Int.toNat_natCast]
  have hp : (18446744073709551616 : Int) = 2 ^ m * (2 * 2 ^ (63 - m)) := by
    have : (18446744073709551616 : Int) = 2 ^ 64 := by decide
    rw [this, show (2 : Int) * 2 ^ (63 - m) = 2 ^ (63 - m + 1) by rw [Int.pow_succ]; omega, ← Int.pow_add]
    congr 1
    omega
  obtain ⟨q, hq⟩ : ∃ q, z = (Z : Int) + 18446744073709551616 * q := ⟨z / 18446744073709551616, by omega⟩
  have h2m : (0 : Int) < 2 ^ m := Int.pow_pos (by omega)
  have e : z / 2 ^ m = (Z : Int) / 2 ^ m + 2 * (2 ^ (63 - m) * q) := by
    rw [hq, hp, Int.mul_assoc, Int.add_mul_ediv_left _ _ (by omega), Int.mul_assoc]
  rw [e]
  have e2 : ((Z / 2 ^ m : Nat) : Int) = (Z : Int) / 2 ^ m := by
    rw [Int.natCast_ediv]
    simp
  rw [← e2]
  omega
theorem wake_bit (z : Int) (m : Nat) (hm : m < 62) : (bits .and .i64 (z / 2 ^ m) 1 == 1) = (bits .and .u64 (IntKind.u64.wrap z) (IntKind.u64.wrap (2 ^ m)) != 0) := by
  have h1 : bits .and .i64 (z / 2 ^ m) 1 = (z / 2 ^ m) % 2 := by
    have : (BitVec.ofInt 64 (z / 2 ^ m) &&& BitVec.ofInt 64 1).toNat = (((z / 2 ^ m) % 18446744073709551616).toNat) % 2 := by
      rw [BitVec.toNat_and, BitVec.toNat_ofInt, show (BitVec.ofInt 64 1).toNat = 1 by decide, Nat.and_one_is_mod, show ((2 ^ 64 : Nat) : Int) = 18446744073709551616 by decide]
    show IntKind.i64.wrap ((BitVec.ofInt 64 (z / 2 ^ m) &&& BitVec.ofInt 64 1).toNat : Int) = _
    rw [this]
    simp [IntKind.wrap, IntKind.signed, IntKind.bits]
    omega
  have h3 : (2 : Int) ^ m < 9223372036854775808 := by
    have : (2 : Int) ^ m ≤ 2 ^ 61 := by
      have := Nat.pow_le_pow_right (show 0 < 2 by omega) (show m ≤ 61 by omega)
      exact_mod_cast this
    have e : (2 : Int) ^ 61 = 2305843009213693952 := by decide
    omega
  have h4 : (0 : Int) < 2 ^ m := Int.pow_pos (by omega)
  have hw : IntKind.u64.wrap ((2 : Int) ^ m) = 2 ^ m := by
    simp [IntKind.wrap, IntKind.signed, IntKind.bits]
    omega
  have h2 : bits .and .u64 (IntKind.u64.wrap z) (IntKind.u64.wrap (2 ^ m)) = (((z % 18446744073709551616).toNat &&& 2 ^ m : Nat) : Int) := by
    have e1 : (BitVec.ofInt 64 (IntKind.u64.wrap z)).toNat = (z % 18446744073709551616).toNat := by
      rw [BitVec.toNat_ofInt]
      simp [IntKind.wrap, IntKind.signed, IntKind.bits]
    have e2 : (BitVec.ofInt 64 ((2 : Int) ^ m)).toNat = 2 ^ m := by
      rw [BitVec.toNat_ofInt]
      have : ((2 : Int) ^ m) % ((2 ^ 64 : Nat) : Int) = ((2 ^ m : Nat) : Int) := by
        rw [Int.emod_eq_of_lt (by omega) (by omega)]
        simp
      rw [this, Int.toNat_natCast]
    have hlt : (z % 18446744073709551616).toNat &&& 2 ^ m < 18446744073709551616 := Nat.lt_of_le_of_lt (Nat.and_le_left) (by omega)
    rw [hw]
    show IntKind.u64.wrap ((BitVec.ofInt 64 (IntKind.u64.wrap z) &&& BitVec.ofInt 64 ((2 : Int) ^ m)).toNat : Int) = _
    rw [BitVec.toNat_and, e1, e2]
    generalize (z % 18446744073709551616).toNat &&& 2 ^ m = t at hlt
    simp [IntKind.wrap, IntKind.signed, IntKind.bits]
    omega
  rw [h1, h2, Bool.eq_iff_iff]
  have h5 := int_bit z m hm
  have h6 := and_pow_ne (z % 18446744073709551616).toNat m
  rw [beq_iff_eq, ← h5, ← h6]
  simp only [bne_iff_ne, ne_eq]
  omega
end Go.Proofs.Ytajeohmmobgcjaa
