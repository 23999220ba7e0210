/- A sponge, as plain lists: what it holds when some bytes have been taken, and what it holds behind some more. No program is in sight here. -/
import Derived.Test.YtjmenaplgndnnaaSha
import Derived.Laws.CopyOwn
namespace Go.Proofs.Ytjmenaplgndnnaa.Sha
open Go

/-- the state behind q blocks of a row -/
def stN (c : List UInt8) : Nat → St
  | 0 => first
  | q + 1 => comp (stN c q) ((c.drop (64 * q)).take 64)
theorem stN_append (c d : List UInt8) (q : Nat) (h : 64 * q ≤ c.length) : stN (c ++ d) q = stN c q := by
  induction q with
  | zero => rfl
  | succ q ih =>
    rw [stN, stN, ih (by omega), List.drop_append_of_le_length (by omega), List.take_append_of_le_length (by simp; omega)]

/-- a sponge that has taken the bytes c -/
structure Sponge (c : List UInt8) (s : St) (B : List UInt8) : Prop where
  st : s = stN c (c.length / 64)
  len : B.length = 64
  rest : B.take (c.length % 64) = c.drop (64 * (c.length / 64))

theorem splice_take {B d : List UInt8} {k : Nat} (h : k + d.length ≤ B.length) : (splice B k d).take (k + d.length) = B.take k ++ d := by
  unfold splice
  rw [← List.append_assoc, List.take_append_of_le_length (by simp; omega), List.take_of_length_le (by simp; omega)]

/-- bytes that do not fill the block -/
theorem Sponge.part {c d : List UInt8} {s : St} {B : List UInt8} (h : Sponge c s B) (hd : c.length % 64 + d.length < 64) : Sponge (c ++ d) s (splice B (c.length % 64) d) := by
  have e1 : (c ++ d).length / 64 = c.length / 64 := by rw [List.length_append]; omega
  have e2 : (c ++ d).length % 64 = c.length % 64 + d.length := by rw [List.length_append]; omega
  have hl := h.len
  refine ⟨?_, ?_, ?_⟩
  · rw [e1, stN_append _ _ _ (by omega)]
    exact h.st
  · rw [length_splice _ _ _ (by omega)]
    exact hl
  · rw [e1, e2, splice_take (by omega), h.rest, List.drop_append_of_le_length (by omega)]

/-- bytes that just fill the block -/
theorem Sponge.fill {c d : List UInt8} {s : St} {B : List UInt8} (h : Sponge c s B) (hd : c.length % 64 + d.length = 64) :
    Sponge (c ++ d) (comp s (splice B (c.length % 64) d)) (splice B (c.length % 64) d) := by
  have e1 : (c ++ d).length / 64 = c.length / 64 + 1 := by rw [List.length_append]; omega
  have e2 : (c ++ d).length % 64 = 0 := by rw [List.length_append]; omega
  have hl := h.len
  have e3 : splice B (c.length % 64) d = c.drop (64 * (c.length / 64)) ++ d := by
    have h2 := splice_take (B := B) (d := d) (k := c.length % 64) (by omega)
    rw [List.take_of_length_le (by rw [length_splice _ _ _ (by omega)]; omega), h.rest] at h2
    exact h2
  refine ⟨?_, ?_, ?_⟩
  · rw [e1, stN, stN_append _ _ _ (by omega), ← h.st, e3, List.drop_append_of_le_length (by omega), List.take_of_length_le (by rw [List.length_append, List.length_drop]; omega)]
  · rw [length_splice _ _ _ (by omega)]
    exact hl
  · rw [e1, e2, List.take_zero, List.drop_eq_nil_of_le (by rw [List.length_append]; omega)]

theorem Sponge.nil : Sponge [] first (List.replicate 64 0) := ⟨rfl, by simp, by simp⟩

/-- a number's eight bytes, the highest first -/
def be (n : Nat) : List UInt8 := [UInt8.ofNat (n / 2 ^ 56), UInt8.ofNat (n / 2 ^ 48), UInt8.ofNat (n / 2 ^ 40), UInt8.ofNat (n / 2 ^ 32), UInt8.ofNat (n / 2 ^ 24), UInt8.ofNat (n / 2 ^ 16), UInt8.ofNat (n / 2 ^ 8), UInt8.ofNat n]
/-- how many noughts stand behind so many bytes -/
def noughts (n : Nat) : Nat := (119 - n % 64) % 64
/-- a row, and what stands behind it -/
def pad (c : List UInt8) : List UInt8 := c ++ [128] ++ List.replicate (noughts c.length) 0 ++ be (8 * c.length)
theorem length_pad (c : List UInt8) : (pad c).length = c.length + 1 + noughts c.length + 8 := by simp [pad, be]; omega
theorem pad_mod (c : List UInt8) : (pad c).length % 64 = 0 := by rw [length_pad]; unfold noughts; omega
/-- bytes' digest -/
def sum (c : List UInt8) : List UInt8 := out (stN (pad c) ((pad c).length / 64))

end Go.Proofs.Ytjmenaplgndnnaa.Sha
