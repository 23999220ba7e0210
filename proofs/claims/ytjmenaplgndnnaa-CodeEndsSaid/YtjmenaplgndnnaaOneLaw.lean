/- The plain law: what is got of bytes, to their end, is made into just these bytes; the smaller one of two numbers has no more bytes; unlike ones have unlike bytes. -/
import Derived.Test.YtjmenaplgndnnaaCur
import Derived.Test.YtjmenaplgndnnaaMaker4
namespace Go.Proofs.Ytjmenaplgndnnaa
/-- as long as nothing is wrong, what was put and what is left are the bytes -/
def OneInv (b : List UInt8) (c : Cu) (mb : List UInt8) (bad : Bool) : Prop := c.wrong = 0 → bad = false ∧ mb ++ c.rest = b
theorem fail_wrong (c : Cu) (e : Nat) (he : e ≠ 0) : (c.fail e).wrong ≠ 0 := by
  unfold Cu.fail
  split
  · exact he
  · assumption
theorem OneInv.fail {b mb' : List UInt8} {c : Cu} {e : Nat} {bad : Bool} (he : e ≠ 0) : OneInv b (c.fail e) mb' bad := fun h => absurd h (fail_wrong c e he)
theorem num_cases (c : Cu) (most : Int) : (∃ n t, c.rest = num n ++ t ∧ c.num most = (n, ⟨t, c.wrong⟩) ∧ n ≤ 1099511627776 ∧ (n : Int) ≤ most) ∨ c.num most = (0, c.fail 4) := by
  by_cases h : numOk (scan c.rest 0 0) most = true
  · obtain ⟨t, h1, h2, h3, h4⟩ := num_stood c most h
    exact .inl ⟨_, t, h1, h2, h3, h4⟩
  · refine .inr ?_
    unfold Cu.num
    rw [if_neg h]
theorem OneInv.num {b mb : List UInt8} {c : Cu} {bad : Bool} (h : OneInv b c mb bad) (most : Int) : OneInv b (c.num most).2 (mkNum mb bad ((c.num most).1 : Int)).1 (mkNum mb bad ((c.num most).1 : Int)).2 := by
  rcases num_cases c most with ⟨n, t, hr, hn, hle, _⟩ | hf
  · rw [hn]
    intro hw
    obtain ⟨h1, h2⟩ := h hw
    subst h1
    rw [hr] at h2
    simp only [mkNum, if_pos (show (0 : Int) ≤ (n : Int) ∧ (n : Int) ≤ 1099511627776 by omega), Bool.false_eq_true, if_false, Int.toNat_natCast]
    exact ⟨trivial, by rw [List.append_assoc]; exact h2⟩
  · rw [hf]
    exact OneInv.fail (by omega)
theorem OneInv.raw {b mb : List UInt8} {c : Cu} {bad : Bool} (h : OneInv b c mb bad) (many : Int) : OneInv b (c.raw many).2 (mb ++ (c.raw many).1) bad := by
  unfold Cu.raw
  split
  · intro hw
    obtain ⟨h1, h2⟩ := h hw
    exact ⟨h1, by show mb ++ List.take many.toNat c.rest ++ List.drop many.toNat c.rest = b; rw [List.append_assoc, List.take_append_drop]; exact h2⟩
  · exact OneInv.fail (by omega)
theorem OneInv.text {b mb : List UInt8} {c : Cu} {bad : Bool} (h : OneInv b c mb bad) (most : Int) (hm : most ≤ 1048576) : OneInv b (c.text most).2 (mkText mb bad (c.text most).1).1 (mkText mb bad (c.text most).1).2 := by
  unfold Cu.text
  split
  · rename_i hw
    exact fun h0 => absurd h0 hw
  · split
    · exact OneInv.fail (by omega)
    · rename_i hw hle
      rcases num_cases c 1099511627776 with ⟨n, t, hr, hn, hle2, _⟩ | hf
      · rw [hn] at hw hle ⊢
        simp only at hw hle ⊢
        unfold Cu.raw
        split
        · rename_i hok
          intro hw0
          obtain ⟨h1, h2⟩ := h hw0
          subst h1
          simp only [Cu.rawOk, Bool.and_eq_true, beq_iff_eq, decide_eq_true_eq] at hok
          have hnl : n ≤ t.length := by have := hok.2.2; omega
          have htl : (t.take n).length = n := by rw [List.length_take]; omega
          simp only [Int.toNat_natCast]
          unfold mkText
          rw [htl, if_pos (by omega), if_neg (by simp)]
          refine ⟨rfl, ?_⟩
          show mb ++ _ ++ List.take n t ++ List.drop n t = b
          rw [List.append_assoc, List.append_assoc, List.take_append_drop]
          rw [hr] at h2
          exact h2
        · exact OneInv.fail (by omega)
      · rw [hf] at hw
        exact absurd (by simpa using hw) (fail_wrong c 4 (by omega))
theorem OneInv.end_ {b mb : List UInt8} {c : Cu} {bad : Bool} (h : OneInv b c mb bad) (he : c.end_ = 0) : bad = false ∧ mb = b := by
  unfold Cu.end_ at he
  split at he
  · cases he
  · rename_i h1
    obtain ⟨h2, h3⟩ := h he
    have h4 : c.rest = [] := by
      cases hr : c.rest with
      | nil => rfl
      | cons x r => exact absurd ⟨he, by rw [hr]; simp⟩ h1
    rw [h4, List.append_nil] at h3
    exact ⟨h2, h3⟩
theorem num_len_mono : ∀ (x y : Nat), x ≤ y → (num x).length ≤ (num y).length := by
  intro x
  induction x using Nat.strongRecOn with
  | _ x ih =>
    intro y h
    by_cases hx : x < 128
    · rw [num_lo hx]
      have := num_pos y
      simp; omega
    · rw [num_hi hx, num_hi (n := y) (by omega), List.length_cons, List.length_cons]
      have := ih (x / 128) (by omega) (y / 128) (by omega)
      omega
theorem num_inj {x y : Nat} (h : num x = num y) : x = y := by
  rw [← (wfn_num x).2, ← (wfn_num y).2, h]
theorem rest_le_num (c : Cu) (most : Int) : (c.num most).2.rest.length ≤ c.rest.length := by
  rcases num_cases c most with ⟨n, t, hr, hn, _, _⟩ | hf
  · rw [hn, hr]; simp
  · rw [hf]; simp [Cu.fail]
theorem rest_le_raw (c : Cu) (k : Int) : (c.raw k).2.rest.length ≤ c.rest.length ∧ (c.raw k).1.length ≤ c.rest.length := by
  unfold Cu.raw
  split
  · simp only [List.length_drop, List.length_take]; omega
  · simp [Cu.fail]
theorem rest_le_text (c : Cu) (k : Int) : (c.text k).2.rest.length ≤ c.rest.length ∧ (c.text k).1.length ≤ c.rest.length := by
  have h := rest_le_num c 1099511627776
  unfold Cu.text
  split
  · exact ⟨h, by simp⟩
  · split
    · simp [Cu.fail]
    · have h2 := rest_le_raw (c.num 1099511627776).2 ((c.num 1099511627776).1 : Int)
      omega
theorem mkNum_len (l : List UInt8) (bad : Bool) (n : Int) (hn : n < 18446744073709551616) : (mkNum l bad n).1.length ≤ l.length + 10 := by
  unfold mkNum
  split
  · split
    · simp
    · have := num_len n.toNat (by omega)
      simp; omega
  · simp
theorem mkText_len (l : List UInt8) (bad : Bool) (u : List UInt8) : (mkText l bad u).1.length ≤ l.length + 10 + u.length := by
  unfold mkText
  split
  · split
    · simp; omega
    · have := num_len u.length (by omega)
      simp; omega
  · simp; omega
end Go.Proofs.Ytjmenaplgndnnaa
