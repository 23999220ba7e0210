/- Numbers as bytes, plain: seven bits a byte, the lowest first; more says that others follow. -/
import Derived.Test.YtjmenaplgndnnaaSha
namespace Go.Proofs.Ytjmenaplgndnnaa
/-- a number's bytes -/
def num (n : Nat) : List UInt8 := if n < 128 then [UInt8.ofNat n] else UInt8.ofNat (n % 128 + 128) :: num (n / 128)
termination_by n
decreasing_by omega
theorem num_lo {n : Nat} (h : n < 128) : num n = [UInt8.ofNat n] := by rw [num, if_pos h]
theorem num_hi {n : Nat} (h : ¬ n < 128) : num n = UInt8.ofNat (n % 128 + 128) :: num (n / 128) := by rw [num, if_neg h]
theorem num_pos (n : Nat) : 0 < (num n).length := by
  by_cases h : n < 128
  · rw [num_lo h]; simp
  · rw [num_hi h]; simp
theorem num_le (k : Nat) : ∀ n, n < 128 ^ (k + 1) → (num n).length ≤ k + 1 := by
  induction k with
  | zero => intro n h; rw [num_lo (by omega)]; simp
  | succ k ih =>
    intro n h
    by_cases h1 : n < 128
    · rw [num_lo h1]; simp
    · rw [num_hi h1, List.length_cons]
      have h2 : n / 128 < 128 ^ (k + 1) := by rw [Nat.div_lt_iff_lt_mul (by omega)]; rw [Nat.pow_succ] at h; exact h
      have := ih _ h2
      omega
theorem num_len (n : Nat) (h : n < 18446744073709551616) : (num n).length ≤ 10 := num_le 9 n (by omega)
end Go.Proofs.Ytjmenaplgndnnaa
