/- The plain law: a fold goes past exclusive or; a digest of noughts but for one byte has that byte, in its place. -/
import Derived.Test.YtcckmnabjjamfaaFold
namespace Go.Proofs.Ytcckmnabjjamfaa
/-- two put together, of their first i bytes -/
def xorTo (a b : List UInt8) : Nat → List UInt8
  | 0 => List.replicate 32 0
  | i + 1 => (xorTo a b i).set i (a.getD i 0 ^^^ b.getD i 0)
theorem length_xorTo (a b : List UInt8) (i : Nat) : (xorTo a b i).length = 32 := by induction i with | zero => rfl | succ i ih => simp [xorTo, ih]
theorem getD_set_self (l : List UInt8) (i : Nat) (x : UInt8) (h : i < l.length) : (l.set i x).getD i 0 = x := by simp [List.getD, h]
theorem getD_set_other (l : List UInt8) (i j : Nat) (x : UInt8) (h : i ≠ j) : (l.set i x).getD j 0 = l.getD j 0 := by simp [List.getD, h]
theorem xorTo_get (a b : List UInt8) (n : Nat) (hn : n ≤ 32) : ∀ j, j < n → (xorTo a b n).getD j 0 = a.getD j 0 ^^^ b.getD j 0 := by
  induction n with
  | zero => intro j hj; omega
  | succ n ih =>
    intro j hj
    rw [xorTo]
    by_cases e : n = j
    · subst e
      rw [getD_set_self _ _ _ (by rw [length_xorTo]; omega)]
    · rw [getD_set_other _ _ _ _ e]
      exact ih (by omega) j (by omega)
theorem getD_noughts (m n : Nat) : (List.replicate m (0 : UInt8)).getD n 0 = 0 := by
  rw [List.getD_eq_getElem?_getD, List.getElem?_replicate]
  split <;> rfl
theorem x4 (p q r s : UInt8) : (p ^^^ q) ^^^ (r ^^^ s) = (p ^^^ r) ^^^ (q ^^^ s) := by
  rw [UInt8.xor_assoc, UInt8.xor_assoc, ← UInt8.xor_assoc q r s, UInt8.xor_comm q r, UInt8.xor_assoc r q s]
theorem fold_xor (a b c : List UInt8) (n : Nat) (h : ∀ j, j < n → c.getD j 0 = a.getD j 0 ^^^ b.getD j 0) (j : Nat) (hj : j < 20) : (fold c n).getD j 0 = (fold a n).getD j 0 ^^^ (fold b n).getD j 0 := by
  induction n with
  | zero => rw [fold, fold, fold, getD_noughts]; rfl
  | succ n ih =>
    have ih' := ih (fun j hj => h j (by omega))
    rw [fold, fold, fold]
    by_cases e : n % 20 = j
    · rw [e]
      rw [getD_set_self _ _ _ (by rw [length_fold]; exact hj), getD_set_self _ _ _ (by rw [length_fold]; exact hj), getD_set_self _ _ _ (by rw [length_fold]; exact hj), ih', h n (by omega)]
      exact x4 _ _ _ _
    · rw [getD_set_other _ _ _ _ e, getD_set_other _ _ _ _ e, getD_set_other _ _ _ _ e]
      exact ih'
theorem fold_one (k : Nat) (x : UInt8) (hk : k < 32) (n : Nat) (hn : n ≤ 32) (j : Nat) (hj : j < 20) : (fold ((List.replicate 32 0).set k x) n).getD j 0 = if k < n ∧ k % 20 = j then x else 0 := by
  induction n with
  | zero => rw [fold, getD_noughts, if_neg (by omega)]
  | succ n ih =>
    have ih' := ih (by omega)
    rw [fold]
    by_cases e : n % 20 = j
    · rw [e, getD_set_self _ _ _ (by rw [length_fold]; exact hj), ih']
      by_cases en : k = n
      · subst en
        rw [getD_set_self _ _ _ (by simpa using hk), if_neg (by omega), if_pos (by omega)]
        simp
      · rw [getD_set_other _ _ _ _ en]
        have h0 : (List.replicate 32 (0 : UInt8)).getD n 0 = 0 := getD_noughts _ _
        rw [h0]
        by_cases hkn : k < n ∧ k % 20 = j
        · rw [if_pos hkn, if_pos (by omega)]; simp
        · rw [if_neg hkn, if_neg (by omega)]; simp
    · rw [getD_set_other _ _ _ _ e, ih']
      by_cases hkn : k < n ∧ k % 20 = j
      · rw [if_pos hkn, if_pos (by omega)]
      · rw [if_neg hkn, if_neg (by omega)]
end Go.Proofs.Ytcckmnabjjamfaa
