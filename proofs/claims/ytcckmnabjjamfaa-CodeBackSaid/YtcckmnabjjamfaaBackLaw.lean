/- The plain law: what is made is got, in its order, and then nothing is left; what was got whole had just the bytes that were made. -/
import Derived.Test.YtcckmnabjjamfaaOneLaw
import Derived.Test.YtcckmnabjjamfaaPartsM
namespace Go.Proofs.Ytcckmnabjjamfaa
/-- one part got: is it what was put? -/
def got1 (c : Cu) (p : Part) : Bool × Cu :=
  if p.what % 3 = 0 then (decide (((c.num p.n).1 : Int) = p.n), (c.num p.n).2)
  else if p.what % 3 = 1 then (decide ((c.raw (p.b.length : Int)).1 = p.b), (c.raw (p.b.length : Int)).2)
  else (decide ((c.text (p.b.length : Int)).1 = p.b), (c.text (p.b.length : Int)).2)
def gotL : Cu → List Part → Bool × Cu
  | c, [] => (true, c)
  | c, p :: ps => if (got1 c p).1 = true then gotL (got1 c p).2 ps else (false, (got1 c p).2)
/-- one part put -/
def put1 (l : List UInt8) (bad : Bool) (p : Part) : List UInt8 × Bool :=
  if p.what % 3 = 0 then mkNum l bad p.n else if p.what % 3 = 1 then (l ++ p.b, bad) else mkText l bad p.b
def putL : List UInt8 → Bool → List Part → List UInt8 × Bool
  | l, bad, [] => (l, bad)
  | l, bad, p :: ps => putL (put1 l bad p).1 (put1 l bad p).2 ps
theorem putL_snoc (ps : List Part) : ∀ (l : List UInt8) (bad : Bool) (p : Part), putL l bad (ps ++ [p]) = put1 (putL l bad ps).1 (putL l bad ps).2 p := by
  induction ps with
  | nil => intro l bad p; rfl
  | cons q ps ih => intro l bad p; exact ih _ _ _
theorem put1_len (l : List UInt8) (bad : Bool) (p : Part) (hn : i64 p.n) : (put1 l bad p).1.length ≤ l.length + 10 + p.b.length := by
  unfold put1
  split
  · have := mkNum_len l bad p.n (by have := hn.2; omega); omega
  · split
    · simp only [List.length_append]; omega
    · have := mkText_len l bad p.b; omega
/-- what breaks stays broken -/
theorem put1_bad (l : List UInt8) (p : Part) : (put1 l true p).2 = true := by
  unfold put1 mkNum mkText
  split
  · split <;> simp
  · split
    · rfl
    · split <;> simp
theorem putL_bad (ps : List Part) : ∀ l, (putL l true ps).2 = true := by
  induction ps with
  | nil => intro l; rfl
  | cons p ps ih =>
    intro l
    show (putL (put1 l true p).1 (put1 l true p).2 ps).2 = true
    rw [put1_bad]; exact ih _
/-- what one part is made into -/
def enc1 (p : Part) : List UInt8 := if p.what % 3 = 0 then num p.n.toNat else if p.what % 3 = 1 then p.b else num p.b.length ++ p.b
def ok1 (p : Part) : Prop := (p.what % 3 = 0 → 0 ≤ p.n ∧ p.n ≤ 1099511627776) ∧ (p.what % 3 ≠ 0 → p.what % 3 ≠ 1 → p.b.length ≤ 1048576)
theorem put1_ok (l : List UInt8) (p : Part) (h : (put1 l false p).2 = false) : (put1 l false p).1 = l ++ enc1 p ∧ ok1 p := by
  unfold put1 at h ⊢
  unfold enc1 ok1
  by_cases h0 : p.what % 3 = 0
  · simp only [h0, if_true] at h ⊢
    unfold mkNum at h ⊢
    by_cases h1 : 0 ≤ p.n ∧ p.n ≤ 1099511627776
    · rw [if_pos h1]
      exact ⟨by simp, fun _ => h1, fun h2 => absurd rfl h2⟩
    · rw [if_neg h1] at h; cases h
  · simp only [h0, if_false] at h ⊢
    by_cases h1 : p.what % 3 = 1
    · simp only [h1, if_true]
      simp
    · simp only [h1, if_false] at h ⊢
      unfold mkText at h ⊢
      by_cases h2 : p.b.length ≤ 1048576
      · rw [if_pos h2]
        exact ⟨by simp, fun h3 => absurd h3 (by simp), fun _ _ => h2⟩
      · rw [if_neg h2] at h; cases h
theorem putL_ok (ps : List Part) : ∀ l, (putL l false ps).2 = false → (putL l false ps).1 = l ++ (ps.map enc1).flatten ∧ ∀ p ∈ ps, ok1 p := by
  induction ps with
  | nil => intro l _; exact ⟨by simp [putL], by simp⟩
  | cons p ps ih =>
    intro l h
    have h' : (putL (put1 l false p).1 (put1 l false p).2 ps).2 = false := h
    have hb : (put1 l false p).2 = false := by
      cases hq : (put1 l false p).2 with
      | false => rfl
      | true => rw [hq, putL_bad] at h'; cases h'
    obtain ⟨h1, h2⟩ := put1_ok l p hb
    rw [hb] at h'
    obtain ⟨h3, h4⟩ := ih _ h'
    refine ⟨?_, fun q hq => ?_⟩
    · show (putL (put1 l false p).1 (put1 l false p).2 ps).1 = _
      rw [hb, h3, h1]
      simp
    · rcases List.mem_cons.1 hq with rfl | hq
      · exact h2
      · exact h4 q hq
theorem raw_ok (b t : List UInt8) (w : Nat) (hw : w = 0) : (Cu.mk (b ++ t) w).raw (b.length : Int) = (b, ⟨t, w⟩) := by
  unfold Cu.raw
  rw [if_pos (by simp [Cu.rawOk, hw]; omega)]
  simp
/-- what is made is got -/
theorem got1_ok (p : Part) (h : ok1 p) (t : List UInt8) : got1 ⟨enc1 p ++ t, 0⟩ p = (true, ⟨t, 0⟩) := by
  unfold got1 enc1
  by_cases h0 : p.what % 3 = 0
  · obtain ⟨h1, h2⟩ := h.1 h0
    simp only [h0, if_true]
    rw [num_got p.n.toNat (by omega) t 0 p.n (by omega)]
    simp only [Prod.mk.injEq, decide_eq_true_eq, and_true]
    omega
  · simp only [h0, if_false]
    by_cases h1 : p.what % 3 = 1
    · simp only [h1, if_true]
      rw [raw_ok p.b t 0 rfl]
      simp
    · simp only [h1, if_false]
      have h2 := h.2 h0 h1
      have hn := num_got p.b.length (by omega) (p.b ++ t) 0 1099511627776 (by omega)
      rw [List.append_assoc]
      have ht : (Cu.mk (num p.b.length ++ (p.b ++ t)) 0).text (p.b.length : Int) = (p.b, ⟨t, 0⟩) := by
        unfold Cu.text
        rw [hn]
        simp only [ne_eq, not_true, if_false]
        rw [if_neg (by omega), raw_ok p.b t 0 rfl]
      rw [ht]
      simp
theorem gotL_ok (ps : List Part) : ∀ t, (∀ p ∈ ps, ok1 p) → gotL ⟨(ps.map enc1).flatten ++ t, 0⟩ ps = (true, ⟨t, 0⟩) := by
  induction ps with
  | nil => intro t _; simp [gotL]
  | cons p ps ih =>
    intro t h
    have h1 := got1_ok p (h p (by simp)) ((ps.map enc1).flatten ++ t)
    have e : ((p :: ps).map enc1).flatten ++ t = enc1 p ++ ((ps.map enc1).flatten ++ t) := by simp
    rw [e, gotL, h1]
    simp only [if_true]
    exact ih t fun q hq => h q (by simp [hq])
theorem fail_rest (c : Cu) (e : Nat) : (c.fail e).rest = [] := rfl
/-- what was got whole had just the bytes of what was put -/
theorem got1_only (c : Cu) (p : Part) (hg : (got1 c p).1 = true) (hw : (got1 c p).2.wrong = 0) : c.rest.length = (enc1 p).length + (got1 c p).2.rest.length := by
  unfold got1 at hg hw ⊢
  unfold enc1
  by_cases h0 : p.what % 3 = 0
  · simp only [h0, if_true] at hg hw ⊢
    rcases num_cases c p.n with ⟨n, t, hr, hn, _, _⟩ | hf
    · rw [hn] at hg ⊢
      simp only [decide_eq_true_eq] at hg
      rw [hr, ← hg, Int.toNat_natCast]; simp
    · rw [hf] at hw
      exact absurd hw (fail_wrong c 4 (by omega))
  · simp only [h0, if_false] at hg hw ⊢
    have rawcase : ∀ (c : Cu) (k : Int), (c.raw k).2.wrong = 0 → c.rest.length = (c.raw k).1.length + (c.raw k).2.rest.length := by
      intro c k hk
      unfold Cu.raw at hk ⊢
      split
      · simp only [List.length_take, List.length_drop]; omega
      · rename_i hno
        rw [if_neg hno] at hk
        exact absurd hk (fail_wrong c 4 (by omega))
    by_cases h1 : p.what % 3 = 1
    · simp only [h1, if_true] at hg hw ⊢
      have h2 := rawcase c _ hw
      simp only [decide_eq_true_eq] at hg
      rw [hg] at h2
      exact h2
    · simp only [h1, if_false] at hg hw ⊢
      simp only [decide_eq_true_eq] at hg
      unfold Cu.text at hg hw ⊢
      split at hw
      · rename_i h3; exact absurd hw h3
      · rename_i h3
        rw [if_neg h3] at hg ⊢
        split at hw
        · exact absurd hw (fail_wrong _ 3 (by omega))
        · rename_i h4
          rw [if_neg h4] at hg ⊢
          have h5 := rawcase _ _ hw
          rcases num_cases c 1099511627776 with ⟨n, t, hr, hn, _, _⟩ | hf
          · rw [hn] at hg h5 hw ⊢
            simp only at hg h5 hw ⊢
            have h6 : ((Cu.mk t c.wrong).raw (n : Int)).1.length = n := by
              unfold Cu.raw at hw ⊢
              split
              · rename_i hok
                simp only [Cu.rawOk, Bool.and_eq_true, decide_eq_true_eq] at hok
                simp only [List.length_take, Int.toNat_natCast]; omega
              · rename_i hno
                rw [if_neg hno] at hw
                exact absurd hw (fail_wrong _ 4 (by omega))
            rw [hg] at h5 h6
            rw [h6, List.length_append, hr, List.length_append]
            omega
          · rw [hf] at h3
            exact absurd (by simpa using h3) (fail_wrong c 4 (by omega))
theorem got1_wrong (c : Cu) (p : Part) (hc : c.wrong ≠ 0) : (got1 c p).2.wrong ≠ 0 := by
  have f : ∀ (c : Cu) (e : Nat), c.wrong ≠ 0 → (c.fail e).wrong ≠ 0 := by
    intro c e h
    unfold Cu.fail
    rw [if_neg h]; exact h
  have hn : ∀ k, (c.num k).2.wrong ≠ 0 := by
    intro k
    unfold Cu.num
    split
    · exact hc
    · exact f c 4 hc
  have hr : ∀ (c : Cu) k, c.wrong ≠ 0 → (c.raw k).2.wrong ≠ 0 := by
    intro c k h
    unfold Cu.raw
    split
    · exact h
    · exact f c 4 h
  unfold got1
  split
  · exact hn _
  · split
    · exact hr c _ hc
    · unfold Cu.text
      rw [if_pos (hn _)]
      exact hn _
theorem gotL_only (ps : List Part) : ∀ c : Cu, (∀ p ∈ ps, ok1 p) → (gotL c ps).1 = true → (gotL c ps).2.wrong = 0 → c.rest.length = (ps.map enc1).flatten.length + (gotL c ps).2.rest.length := by
  induction ps with
  | nil => intro c _ _ _; simp [gotL]
  | cons p ps ih =>
    intro c h hg hw
    rw [gotL] at hg hw ⊢
    split at hg
    · rename_i h1
      rw [if_pos h1] at hw ⊢
      have hw1 : (got1 c p).2.wrong = 0 := by
        rcases Nat.eq_zero_or_pos (got1 c p).2.wrong with h2 | h2
        · exact h2
        · exfalso
          have : ∀ (ps : List Part) (c : Cu), c.wrong ≠ 0 → (gotL c ps).2.wrong ≠ 0 := by
            intro ps
            induction ps with
            | nil => intro c h; exact h
            | cons q ps ih =>
              intro c h
              rw [gotL]
              split
              · exact ih _ (got1_wrong c q h)
              · exact got1_wrong c q h
          exact this ps _ (by omega) hw
      have h2 := got1_only c p h1 hw1
      have h3 := ih _ (fun q hq => h q (by simp [hq])) hg hw
      simp only [List.map_cons, List.flatten_cons, List.length_append]
      omega
    · cases hg
end Go.Proofs.Ytcckmnabjjamfaa
