/- A cursor, plain: numbers, bytes and texts got of bytes. No program is in sight here. -/
import Derived.Test.YtjmenaplgndnnaaNum
namespace Go.Proofs.Ytjmenaplgndnnaa
/-- a number's bytes are gone through: its value, and how many they are (0: none ended) -/
def scan : List UInt8 → Nat → Nat → Nat × Nat
  | [], _, acc => (acc, 0)
  | x :: r, k, acc => if k = 6 then (acc, 0) else if x.toNat < 128 then (acc + x.toNat * 128 ^ k, k + 1) else scan r (k + 1) (acc + (x.toNat - 128) * 128 ^ k)
/-- what is left, and what is wrong -/
structure Cu where
  rest : List UInt8
  wrong : Nat
def Cu.fail (c : Cu) (e : Nat) : Cu := ⟨[], if c.wrong = 0 then e else c.wrong⟩
/-- is the number that was gone through one that may be got? -/
def numOk (s : Nat × Nat) (most : Int) : Bool := !(s.2 == 0) && (s.2 == (num s.1).length && (decide (s.1 ≤ 1099511627776) && (decide (0 ≤ most) && decide ((s.1 : Int) ≤ most))))
def Cu.num (c : Cu) (most : Int) : Nat × Cu := if numOk (scan c.rest 0 0) most = true then ((scan c.rest 0 0).1, ⟨c.rest.drop (scan c.rest 0 0).2, c.wrong⟩) else (0, c.fail 4)
def Cu.rawOk (c : Cu) (many : Int) : Bool := c.wrong == 0 && (decide (0 ≤ many) && decide (many ≤ (c.rest.length : Int)))
def Cu.raw (c : Cu) (many : Int) : List UInt8 × Cu := if c.rawOk many = true then (c.rest.take many.toNat, ⟨c.rest.drop many.toNat, c.wrong⟩) else ([], c.fail 4)
def Cu.text (c : Cu) (most : Int) : List UInt8 × Cu :=
  if (c.num 1099511627776).2.wrong ≠ 0 then ([], (c.num 1099511627776).2) else if most < ((c.num 1099511627776).1 : Int) then ([], (c.num 1099511627776).2.fail 3) else (c.num 1099511627776).2.raw ((c.num 1099511627776).1 : Int)
def Cu.end_ (c : Cu) : Nat := if c.wrong = 0 ∧ c.rest ≠ [] then 4 else c.wrong

theorem scan_acc (r : List UInt8) : ∀ k acc, k ≤ 6 → acc < 128 ^ k → (scan r k acc).1 < 128 ^ 7 ∧ (scan r k acc).2 ≤ k + r.length := by
  induction r with
  | nil => intro k acc hk ha; exact ⟨Nat.lt_of_lt_of_le ha (Nat.pow_le_pow_right (by omega) (by omega)), by simp [scan]⟩
  | cons x r ih =>
    intro k acc hk ha
    rw [scan]
    have hx := x.toNat_lt
    by_cases h6 : k = 6
    · rw [if_pos h6]; subst h6; exact ⟨Nat.lt_of_lt_of_le ha (Nat.pow_le_pow_right (by omega) (by omega)), by simp⟩
    · rw [if_neg h6]
      by_cases h : x.toNat < 128
      · rw [if_pos h]
        refine ⟨?_, by simp⟩
        have h1 : x.toNat * 128 ^ k ≤ 127 * 128 ^ k := Nat.mul_le_mul_right _ (by omega)
        have h2 : 128 ^ (k + 1) ≤ 128 ^ 7 := Nat.pow_le_pow_right (by omega) (by omega)
        rw [Nat.pow_succ] at h2
        show acc + x.toNat * 128 ^ k < _
        omega
      · rw [if_neg h]
        have h1 : (x.toNat - 128) * 128 ^ k ≤ 127 * 128 ^ k := Nat.mul_le_mul_right _ (by omega)
        have h2 := ih (k + 1) (acc + (x.toNat - 128) * 128 ^ k) (by omega) (by rw [Nat.pow_succ]; omega)
        exact ⟨h2.1, by have := h2.2; simp; omega⟩
/-- bytes that are a number's: all but the last one say that others follow -/
def wfn : List UInt8 → Bool
  | [] => false
  | [x] => decide (x.toNat < 128)
  | x :: y :: r => decide (128 ≤ x.toNat) && wfn (y :: r)
def val : List UInt8 → Nat
  | [] => 0
  | [x] => x.toNat
  | x :: y :: r => (x.toNat - 128) + 128 * val (y :: r)
theorem wfn_num (n : Nat) : wfn (num n) = true ∧ val (num n) = n := by
  induction n using Nat.strongRecOn with
  | _ n ih =>
    by_cases h : n < 128
    · rw [num_lo h]
      have e : (UInt8.ofNat n).toNat = n := by rw [UInt8.toNat_ofNat']; omega
      simp [wfn, val, e, h]
    · rw [num_hi h]
      have e : (UInt8.ofNat (n % 128 + 128)).toNat = n % 128 + 128 := by rw [UInt8.toNat_ofNat']; omega
      have h2 := ih (n / 128) (by omega)
      have h3 := num_pos (n / 128)
      cases hq : num (n / 128) with
      | nil => rw [hq] at h3; simp at h3
      | cons y r =>
        rw [hq] at h2
        simp only [wfn, val, e, h2.1, h2.2]
        refine ⟨by simp, by omega⟩
theorem num_only : ∀ (u : List UInt8) (n : Nat), wfn u = true → val u = n → u.length = (num n).length → u = num n
  | [], _, h, _, _ => by simp [wfn] at h
  | [x], n, h, hv, hl => by
    simp only [wfn, decide_eq_true_eq] at h
    simp only [val] at hv
    subst hv
    rw [num_lo h]
    congr 1
    apply UInt8.toNat_inj.1
    rw [UInt8.toNat_ofNat']; omega
  | x :: y :: r, n, h, hv, hl => by
    simp only [wfn, Bool.and_eq_true, decide_eq_true_eq] at h
    simp only [val] at hv
    by_cases hn : n < 128
    · rw [num_lo hn] at hl; simp at hl
    · have hx := x.toNat_lt
      rw [num_hi hn] at hl ⊢
      have h1 : n / 128 = val (y :: r) := by omega
      have h2 : n % 128 = x.toNat - 128 := by omega
      rw [h1] at hl ⊢
      rw [num_only (y :: r) (val (y :: r)) h.2 rfl (by simpa using hl)]
      have e2 := num_only (y :: r) (val (y :: r)) h.2 rfl (by simpa using hl)
      rw [← e2]
      congr 1
      apply UInt8.toNat_inj.1
      rw [UInt8.toNat_ofNat']; omega
/-- what was gone through stands ahead -/
theorem scan_spec (r : List UInt8) : ∀ k acc, k ≤ 6 → (scan r k acc).2 ≠ 0 → ∃ u t, r = u ++ t ∧ wfn u = true ∧ (scan r k acc).1 = acc + val u * 128 ^ k ∧ (scan r k acc).2 = k + u.length := by
  induction r with
  | nil => intro k acc _ h; simp [scan] at h
  | cons x r ih =>
    intro k acc hk h
    rw [scan] at h ⊢
    by_cases h6 : k = 6
    · rw [if_pos h6] at h; simp at h
    · rw [if_neg h6] at h ⊢
      by_cases hx : x.toNat < 128
      · rw [if_pos hx] at h ⊢
        exact ⟨[x], r, rfl, by simp [wfn, hx], by simp [val], by simp⟩
      · rw [if_neg hx] at h ⊢
        obtain ⟨u, t, rfl, hw, hv, hl⟩ := ih (k + 1) _ (by omega) h
        cases u with
        | nil => simp [wfn] at hw
        | cons y u =>
          refine ⟨x :: y :: u, t, rfl, by simp only [wfn, hw]; simp; omega, ?_, by rw [hl]; simp; omega⟩
          rw [hv, Nat.pow_succ]
          simp only [val]
          rw [Nat.add_mul, Nat.mul_comm 128 (val (y :: u)), Nat.mul_assoc, Nat.mul_comm 128, Nat.add_assoc]
theorem scan_num : ∀ (u : List UInt8) (t : List UInt8) (k acc : Nat), wfn u = true → k + u.length ≤ 6 → scan (u ++ t) k acc = (acc + val u * 128 ^ k, k + u.length)
  | [], _, _, _, h, _ => by simp [wfn] at h
  | [x], t, k, acc, h, hk => by
    simp only [wfn, decide_eq_true_eq] at h
    simp only [List.length_cons, List.length_nil] at hk
    rw [List.cons_append, scan, if_neg (by omega), if_pos h]
    rfl
  | x :: y :: r, t, k, acc, h, hk => by
    simp only [wfn, Bool.and_eq_true, decide_eq_true_eq] at h
    simp only [List.length_cons] at hk
    rw [List.cons_append, scan, if_neg (by omega), if_neg (by omega), scan_num (y :: r) t (k + 1) _ h.2 (by simp; omega)]
    simp only [val, List.length_cons, Nat.pow_succ]
    congr 1
    · rw [Nat.add_mul, Nat.mul_comm 128 (val (y :: r)), Nat.mul_assoc, Nat.mul_comm 128, Nat.add_assoc]
    · omega
theorem num_six (n : Nat) (h : n ≤ 1099511627776) : (num n).length ≤ 6 := num_le 5 n (by omega)
/-- a number that stands ahead is got -/
theorem num_got (n : Nat) (h : n ≤ 1099511627776) (t : List UInt8) (w : Nat) (most : Int) (hm : (n : Int) ≤ most) : (Cu.mk (num n ++ t) w).num most = (n, ⟨t, w⟩) := by
  have h1 := wfn_num n
  have h2 := num_six n h
  have h3 := num_pos n
  have hs : scan (num n ++ t) 0 0 = (n, (num n).length) := by rw [scan_num _ _ _ _ h1.1 (by omega), h1.2]; simp
  have hk : numOk (scan (num n ++ t) 0 0) most = true := by
    rw [hs]
    simp only [numOk, Bool.and_eq_true, Bool.not_eq_true', beq_eq_false_iff_ne, beq_iff_eq, decide_eq_true_eq]
    exact ⟨by omega, trivial, h, by omega, hm⟩
  unfold Cu.num
  show (if numOk (scan (num n ++ t) 0 0) most = true then _ else _) = _
  rw [if_pos hk]
  show ((scan (num n ++ t) 0 0).1, Cu.mk ((num n ++ t).drop (scan (num n ++ t) 0 0).2) w) = _
  rw [hs]
  simp
/-- a number that was got stood ahead -/
theorem num_stood (c : Cu) (most : Int) (h : numOk (scan c.rest 0 0) most = true) : ∃ t, c.rest = num (scan c.rest 0 0).1 ++ t ∧ c.num most = ((scan c.rest 0 0).1, ⟨t, c.wrong⟩) ∧ (scan c.rest 0 0).1 ≤ 1099511627776 ∧ ((scan c.rest 0 0).1 : Int) ≤ most := by
  have h0 := h
  simp only [numOk, Bool.and_eq_true, Bool.not_eq_true', beq_eq_false_iff_ne, beq_iff_eq, decide_eq_true_eq] at h
  obtain ⟨h1, h2, h3, h4, h5⟩ := h
  obtain ⟨u, t, hr, hw, hv, hl⟩ := scan_spec c.rest 0 0 (by omega) h1
  have hu : u = num (scan c.rest 0 0).1 := num_only u _ hw (by rw [hv]; simp) (by omega)
  refine ⟨t, by rw [← hu]; exact hr, ?_, h3, h5⟩
  unfold Cu.num
  rw [if_pos h0]
  have e : c.rest.drop (scan c.rest 0 0).2 = t := by
    rw [hl, Nat.zero_add]
    conv => lhs; rw [hr]
    simp
  rw [e]
end Go.Proofs.Ytjmenaplgndnnaa
