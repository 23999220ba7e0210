/- A derivation's text tells it: plain. Chapter 19: tables of derivations, plain: what is added, what is kept. Chapter 19: what is kept of a table, plain. class.of. class.Table. slices.Clone of a derivation's inputs. class.owned. class.copied. FreTail's law, where what an operation may do to the world is told by the slot that it writes. Printed by gen/two.py. -/
import Derived.Test.YtidiepbmbbflhaaMG1
import Derived.Test.YtidiepbmbbflhaaMG4
import Derived.Test.YtidiepbmbbflhaaAt
import Derived.Test.YtidiepbmbbflhaaMG3
import Derived.Test.YtidiepbmbbflhaaQuietTail
import Derived.Below
section
namespace Go.Proofs.Ytidiepbmbbflhaa
open Go Go.RowKit Go.Maps
set_option maxRecDepth 100000
theorem split_at {α : Type} {s : α} : ∀ {a b : List α} {r q : List α}, s ∉ a → s ∉ b → a ++ s :: r = b ++ s :: q → a = b ∧ r = q
  | [], [], _, _, _, _, h => by
    injection h with _ h
    exact ⟨rfl, h⟩
  | [], y :: b, _, _, _, hb, h => by
    injection h with h _
    exact absurd (by rw [h]; exact List.mem_cons_self ..) hb
  | x :: a, [], _, _, ha, _, h => by
    injection h with h _
    exact absurd (by rw [h]; exact List.mem_cons_self ..) ha
  | x :: a, y :: b, _, _, ha, hb, h => by
    injection h with h1 h2
    obtain ⟨h3, h4⟩ := split_at (fun h => ha (List.mem_cons_of_mem _ h)) (fun h => hb (List.mem_cons_of_mem _ h)) h2
    exact ⟨by rw [h1, h3], h4⟩
theorem lines_inj {α : Type} {s : α} : ∀ {a b : List (List α)}, (∀ x ∈ a, s ∉ x) → (∀ x ∈ b, s ∉ x) → (a.flatMap fun x => x ++ [s]) = (b.flatMap fun x => x ++ [s]) → a = b
  | [], [], _, _, _ => rfl
  | [], y :: b, _, _, h => by simp at h
  | x :: a, [], _, _, h => by simp at h
  | x :: a, y :: b, ha, hb, h => by
    rw [List.flatMap_cons, List.flatMap_cons, List.append_assoc, List.append_assoc] at h
    obtain ⟨h1, h2⟩ := split_at (ha x (List.mem_cons_self ..)) (hb y (List.mem_cons_self ..)) h
    rw [h1, lines_inj (fun z hz => ha z (List.mem_cons_of_mem _ hz)) (fun z hz => hb z (List.mem_cons_of_mem _ hz)) h2]
theorem join_lines (s : UInt8) : ∀ (l : List (List UInt8)) (x : List UInt8), Lib.join (x :: l) [s] ++ [s] = (x :: l).flatMap fun x => x ++ [s]
  | [], x => by simp [Lib.join_one]
  | y :: l, x => by
    have h := join_lines s l y
    rw [List.flatMap_cons, ← h]
    simp [Lib.join, List.intercalate]
/-! names -/
theorem runes_all (s : ByteArray) : ∀ (fuel pos : Nat), s.size ≤ pos + fuel → runesOk s fuel pos = true → ∀ i (h : i < s.size), pos ≤ i → signP ((s[i]'h).toNat : Int) = true
  | 0, pos, hf, _, i, h, hp => by omega
  | f + 1, pos, hf, hr, i, h, hp => by
    have hps : pos < s.size := by omega
    rw [runesOk, if_pos hps, Bool.and_eq_true] at hr
    by_cases ha : (s[pos]'hps).toNat < 128
    · rw [decode_ascii s pos hps ha] at hr
      rcases Nat.lt_or_ge pos i with hlt | hge
      · exact runes_all s f (pos + 1) (by omega) hr.2 i h hlt
      · obtain rfl : i = pos := by omega
        exact hr.1
    · have hd := (decode_high s pos hps (by omega)).1
      have h1 := hr.1
      unfold signP at h1
      rw [decide_eq_false (by omega)] at h1
      cases h1
theorem name_sign {s : ByteArray} (h : nameP s = true) : ∀ b ∈ s.data.toList, signP (b.toNat : Int) = true := fun b hb => by
  unfold nameP at h
  rw [Bool.and_eq_true] at h
  obtain ⟨i, hi⟩ := List.getElem?_of_mem hb
  obtain ⟨h1, h2⟩ := List.getElem?_eq_some_iff.1 hi
  have h3 := runes_all s s.size 0 (by omega) h.1 i (by simpa using h1) (Nat.zero_le _)
  rw [← h2]
  exact h3
theorem name_free {s : ByteArray} (h : nameP s = true) : (10 : UInt8) ∉ s.data.toList ∧ (32 : UInt8) ∉ s.data.toList := by
  refine ⟨fun hm => ?_, fun hm => ?_⟩
  · have := name_sign h _ hm
    exact absurd this (by decide +kernel)
  · have := name_sign h _ hm
    exact absurd this (by decide +kernel)
/-! letters -/
def vOut : List UInt8 → Nat
  | [] => 0
  | b :: l => alphabet.idxOf b + 32 * vOut l
def vIn : List UInt8 → Nat
  | [] => 0
  | b :: l => b.toNat + 256 * vIn l
theorem vOut_snoc : ∀ (l : List UInt8) (b : UInt8), vOut (l ++ [b]) = vOut l + alphabet.idxOf b * 32 ^ l.length
  | [], b => by simp [vOut]
  | x :: l, b => by
    show alphabet.idxOf x + 32 * vOut (l ++ [b]) = _
    rw [vOut_snoc l b, List.length_cons, Nat.pow_succ]
    show _ = alphabet.idxOf x + 32 * vOut l + _
    rw [Nat.mul_add, Nat.add_assoc, show 32 * (alphabet.idxOf b * 32 ^ l.length) = alphabet.idxOf b * (32 ^ l.length * 32) by rw [Nat.mul_comm 32, Nat.mul_assoc]]
theorem vIn_snoc : ∀ (l : List UInt8) (b : UInt8), vIn (l ++ [b]) = vIn l + b.toNat * 256 ^ l.length
  | [], b => by simp [vIn]
  | x :: l, b => by
    show x.toNat + 256 * vIn (l ++ [b]) = _
    rw [vIn_snoc l b, List.length_cons, Nat.pow_succ]
    show _ = x.toNat + 256 * vIn l + _
    rw [Nat.mul_add, Nat.add_assoc, show 256 * (b.toNat * 256 ^ l.length) = b.toNat * (256 ^ l.length * 256) by rw [Nat.mul_comm 256, Nat.mul_assoc]]
theorem vIn_inj : ∀ {a b : List UInt8}, a.length = b.length → vIn a = vIn b → a = b
  | [], [], _, _ => rfl
  | [], _ :: _, h, _ => by simp at h
  | _ :: _, [], h, _ => by simp at h
  | x :: a, y :: b, h, e => by
    have e : x.toNat + 256 * vIn a = y.toNat + 256 * vIn b := e
    have h1 := x.toNat_lt
    have h2 := y.toNat_lt
    have h3 : x = y := UInt8.toNat_inj.1 (by omega)
    have h4 : a = b := vIn_inj (by simpa using h) (by omega)
    rw [h3, h4]
theorem letter_idx : ∀ k, k < 32 → alphabet.idxOf (letterAt k) = k ∧ letterAt k ∈ alphabet := by decide +kernel
structure LtInv (p : List UInt8) (s : Nat × Nat × List UInt8) : Prop where
  v : vOut s.2.2 + s.1 * 32 ^ s.2.2.length = vIn p
  n : 5 * s.2.2.length + s.2.1 = 8 * p.length
  a : s.1 < 2 ^ s.2.1
  l : ∀ b ∈ s.2.2, b ∈ alphabet
theorem lt_emit {p : List UInt8} {h m : Nat} {o : List UInt8} (hi : LtInv p (h, m, o)) (hm : 5 ≤ m) : LtInv p (h / 32, m - 5, o ++ [letterAt (h % 32)]) := by
  obtain ⟨h1, h2⟩ := letter_idx (h % 32) (by omega)
  have hv := hi.v
  have hn := hi.n
  have ha := hi.a
  dsimp only at hv hn ha
  refine ⟨?_, ?_, ?_, ?_⟩
  · dsimp only
    rw [vOut_snoc, h1, List.length_append, List.length_singleton, Nat.pow_succ, ← hv, Nat.add_assoc]
    congr 1
    have e : h * 32 ^ o.length = (h % 32 + h / 32 * 32) * 32 ^ o.length := by
      congr 1
      omega
    rw [e, Nat.add_mul, Nat.mul_assoc (h / 32), Nat.mul_comm 32 (32 ^ o.length)]
  · dsimp only
    rw [List.length_append, List.length_singleton]
    omega
  · dsimp only
    have e : (2 : Nat) ^ m = 2 ^ (m - 5) * 32 := by
      rw [show (32 : Nat) = 2 ^ 5 from rfl, ← Nat.pow_add]
      congr 1
      omega
    rw [e] at ha
    exact Nat.div_lt_of_lt_mul (by rw [Nat.mul_comm]; exact ha)
  · intro b hb
    rcases List.mem_append.1 hb with hb | hb
    · exact hi.l b hb
    · rw [List.mem_singleton.1 hb]; exact h2
theorem lt_step {p : List UInt8} {s : Nat × Nat × List UInt8} (hi : LtInv p s) (hm : s.2.1 < 5) (x : UInt8) : LtInv (p ++ [x]) (ltStep s x) ∧ (ltStep s x).2.1 < 5 := by
  obtain ⟨h, m, o⟩ := s
  have hv := hi.v
  have hn := hi.n
  have ha := hi.a
  dsimp only at hv hn ha hm
  have h0 : LtInv (p ++ [x]) (h + x.toNat * 2 ^ m, m + 8, o) := by
    refine ⟨?_, ?_, ?_, hi.l⟩
    · dsimp only
      rw [vIn_snoc, Nat.add_mul, ← Nat.add_assoc, hv]
      congr 1
      rw [Nat.mul_assoc]
      congr 1
      rw [show (32 : Nat) = 2 ^ 5 from rfl, show (256 : Nat) = 2 ^ 8 from rfl, ← Nat.pow_mul, ← Nat.pow_mul, ← Nat.pow_add]
      congr 1
      omega
    · dsimp only
      rw [List.length_append, List.length_singleton]
      omega
    · dsimp only
      have hx := x.toNat_lt
      have e : (2 : Nat) ^ (m + 8) = 256 * 2 ^ m := by rw [Nat.pow_add, Nat.mul_comm]
      rw [e]
      have h9 : x.toNat * 2 ^ m ≤ 255 * 2 ^ m := Nat.mul_le_mul_right _ (by omega)
      omega
  have e : ltStep (h, m, o) x = drain 2 (h + x.toNat * 2 ^ m) (m + 8) o := rfl
  rw [e, drain, if_pos (by omega)]
  have h1 := lt_emit h0 (by omega)
  rw [drain]
  split
  · rename_i h5
    exact ⟨lt_emit h1 h5, by show m + 8 - 5 - 5 < 5; omega⟩
  · rename_i h5
    exact ⟨h1, by show m + 8 - 5 < 5; omega⟩
theorem letters_inv (h : List UInt8) : ∀ (p : List UInt8) (s : Nat × Nat × List UInt8), LtInv p s → s.2.1 < 5 → LtInv (p ++ h) (h.foldl ltStep s) ∧ (h.foldl ltStep s).2.1 < 5 := by
  induction h with
  | nil => intro p s hi hm; rw [List.append_nil]; exact ⟨hi, hm⟩
  | cons x h ih =>
    intro p s hi hm
    have h1 := lt_step hi hm x
    have h2 := ih (p ++ [x]) _ h1.1 h1.2
    rwa [List.append_assoc] at h2
theorem letters_val {h : Hsh} (hh : okH h) : vOut (lettersP h) = vIn h ∧ (lettersP h).length = 32 ∧ ∀ b ∈ lettersP h, b ∈ alphabet := by
  obtain ⟨hi, hm⟩ := letters_inv h [] (0, 0, []) ⟨rfl, rfl, by decide, fun b hb => by cases hb⟩ (by decide)
  rw [List.nil_append] at hi
  have hn := hi.n
  have hl : h.length = 20 := hh
  have hm0 : (h.foldl ltStep (0, 0, [])).2.1 = 0 := by omega
  have ha := hi.a
  rw [hm0] at ha
  have ha0 : (h.foldl ltStep (0, 0, [])).1 = 0 := by omega
  have hv := hi.v
  rw [ha0, Nat.zero_mul, Nat.add_zero] at hv
  exact ⟨hv, by unfold lettersP; omega, hi.l⟩
theorem letters_inj {a b : Hsh} (ha : okH a) (hb : okH b) (h : lettersP a = lettersP b) : a = b :=
  vIn_inj (Eq.trans (show a.length = 20 from ha) (show b.length = 20 from hb).symm) (by rw [← (letters_val ha).1, h, (letters_val hb).1])
theorem alpha_free : (10 : UInt8) ∉ alphabet ∧ (32 : UInt8) ∉ alphabet ∧ (45 : UInt8) ∉ alphabet := by decide +kernel
theorem letters_free {h : Hsh} (hh : okH h) : (10 : UInt8) ∉ lettersP h ∧ (32 : UInt8) ∉ lettersP h ∧ (45 : UInt8) ∉ lettersP h :=
  ⟨fun hm => alpha_free.1 ((letters_val hh).2.2 _ hm), fun hm => alpha_free.2.1 ((letters_val hh).2.2 _ hm), fun hm => alpha_free.2.2 ((letters_val hh).2.2 _ hm)⟩
/-! digits -/
theorem digit_inj : ∀ a : Nat, a < 16 → ∀ b : Nat, b < 16 → digitAt (a : Int) = digitAt (b : Int) → a = b := by decide +kernel
theorem digit_free : ∀ a : Nat, a < 16 → digitAt (a : Int) ≠ 45 ∧ digitAt (a : Int) ≠ 10 := by decide +kernel
theorem digit_inj9 {a b : Int} (ha : 0 ≤ a ∧ a < 16) (hb : 0 ≤ b ∧ b < 16) (h : digitAt a = digitAt b) : a = b := by
  obtain ⟨n, rfl⟩ := Int.eq_ofNat_of_zero_le ha.1
  obtain ⟨m, rfl⟩ := Int.eq_ofNat_of_zero_le hb.1
  rw [digit_inj n (by omega) m (by omega) h]
theorem shownB_inj : ∀ {a b : List Int}, (∀ x ∈ a, 0 ≤ x ∧ x ≤ 255) → (∀ x ∈ b, 0 ≤ x ∧ x ≤ 255) → shownB a = shownB b → a = b
  | [], [], _, _, _ => rfl
  | [], y :: b, _, _, h => by simp [shownB] at h
  | x :: a, [], _, _, h => by simp [shownB] at h
  | x :: a, y :: b, ha, hb, h => by
    have h : digitAt (x / 16) :: digitAt (x % 16) :: shownB a = digitAt (y / 16) :: digitAt (y % 16) :: shownB b := h
    injection h with h1 h
    injection h with h2 h3
    have hx := ha x (List.mem_cons_self ..)
    have hy := hb y (List.mem_cons_self ..)
    have e1 := digit_inj9 (by omega) (by omega) h1
    have e2 := digit_inj9 (by omega) (by omega) h2
    have e : x = y := by omega
    rw [e, shownB_inj (fun z hz => ha z (List.mem_cons_of_mem _ hz)) (fun z hz => hb z (List.mem_cons_of_mem _ hz)) h3]
theorem shownB_free {a : List Int} (ha : ∀ x ∈ a, 0 ≤ x ∧ x ≤ 255) : ∀ b ∈ shownB a, b ≠ 45 ∧ b ≠ 10 := fun b hb => by
  obtain ⟨c, hc, hm⟩ := List.mem_flatMap.1 hb
  have h0 := ha c hc
  have key : ∀ k : Int, 0 ≤ k → k < 16 → digitAt k ≠ 45 ∧ digitAt k ≠ 10 := fun k h1 h2 => by
    obtain ⟨n, rfl⟩ := Int.eq_ofNat_of_zero_le h1
    exact digit_free n (by omega)
  simp only [List.mem_cons, List.not_mem_nil, or_false] at hm
  rcases hm with rfl | rfl
  · exact key _ (by omega) (by omega)
  · exact key _ (by omega) (by omega)
theorem shownP_free {a : List Int} (ha : ∀ x ∈ a, 0 ≤ x ∧ x ≤ 255) : (10 : UInt8) ∉ shownP a := fun hm => by
  unfold shownP at hm
  split at hm
  · exact absurd hm (by decide)
  · exact (shownB_free ha _ hm).2 rfl
theorem shownP_inj {a b : List Int} (ha : ∀ x ∈ a, 0 ≤ x ∧ x ≤ 255) (hb : ∀ x ∈ b, 0 ≤ x ∧ x ≤ 255) (h : shownP a = shownP b) : a = b := by
  have key : ∀ {a : List Int}, a ≠ [] → (∀ x ∈ a, 0 ≤ x ∧ x ≤ 255) → shownB a ≠ [45] := fun {a} hn ha e => by
    have : (45 : UInt8) ∈ shownB a := by rw [e]; exact List.mem_cons_self ..
    exact (shownB_free ha _ this).1 rfl
  unfold shownP at h
  split at h
  · rename_i h1
    split at h
    · rename_i h2; rw [h1, h2]
    · rename_i h2; exact absurd h.symm (key h2 hb)
  · rename_i h1
    split at h
    · exact absurd h (key h1 ha)
    · exact shownB_inj ha hb h
/-! lines -/
theorem bytes_ext {a b : ByteArray} (h : a.data.toList = b.data.toList) : a = b := by
  obtain ⟨a⟩ := a
  obtain ⟨b⟩ := b
  congr 1
  exact Array.toList_inj.1 h
/-- an input that can be written -/
structure Wr (x : Nam) : Prop where
  name : nameP x.1 = true
  ok : okN x
  yes : x.2.2.2 = true → x.2.1 = zeroP
  no : x.2.2.2 = false → nameP x.2.1.2 = true ∧ x.2.2.1 = zeroH
theorem line_yes {x : Nam} (h : x.2.2.2 = true) : (lineS x).data.toList = [99, 108, 97, 115, 115, 32] ++ (x.1.data.toList ++ 32 :: lettersP x.2.2.1) := by
  unfold lineS
  rw [if_pos h]
  simp
theorem line_no {x : Nam} (h : x.2.2.2 = false) : (lineS x).data.toList = [115, 114, 99, 32] ++ (x.1.data.toList ++ 32 :: (lettersP x.2.1.1 ++ 45 :: x.2.1.2.data.toList)) := by
  unfold lineS pathS
  rw [if_neg (by rw [h]; decide)]
  simp
theorem line_free {x : Nam} (hx : Wr x) : (10 : UInt8) ∉ (lineS x).data.toList := by
  have hn := (name_free hx.name).1
  cases hc : x.2.2.2 with
  | true =>
    rw [line_yes hc]
    have hl := (letters_free hx.ok.2.2).1
    simp [hn, hl]
  | false =>
    rw [line_no hc]
    have hl := (letters_free hx.ok.2.1.1).1
    have h2 := (name_free (hx.no hc).1).1
    simp [hn, hl, h2]
theorem line_inj {x y : Nam} (hx : Wr x) (hy : Wr y) (h : lineS x = lineS y) : x = y := by
  have h : (lineS x).data.toList = (lineS y).data.toList := by rw [h]
  obtain ⟨n1, ⟨p1, s1⟩, c1, b1⟩ := x
  obtain ⟨n2, ⟨p2, s2⟩, c2, b2⟩ := y
  have hn1 := (name_free hx.name).2
  have hn2 := (name_free hy.name).2
  dsimp only at hn1 hn2
  cases b1 with
  | true =>
    cases b2 with
    | true =>
      rw [line_yes rfl, line_yes rfl] at h
      obtain ⟨h1, h2⟩ := split_at hn1 hn2 (List.append_cancel_left h)
      have e1 := bytes_ext h1
      have e2 := letters_inj hx.ok.2.2 hy.ok.2.2 h2
      have e3 := (hx.yes rfl).trans (hy.yes rfl).symm
      dsimp only at e1 e2 e3
      rw [e1, e2, e3]
    | false =>
      rw [line_yes rfl, line_no rfl] at h
      simp at h
  | false =>
    cases b2 with
    | true =>
      rw [line_no rfl, line_yes rfl] at h
      simp at h
    | false =>
      rw [line_no rfl, line_no rfl] at h
      obtain ⟨h1, h2⟩ := split_at hn1 hn2 (List.append_cancel_left h)
      obtain ⟨h3, h4⟩ := split_at (letters_free hx.ok.2.1.1).2.2 (letters_free hy.ok.2.1.1).2.2 h2
      have e1 := bytes_ext h1
      have e2 := letters_inj hx.ok.2.1.1 hy.ok.2.1.1 h3
      have e3 := bytes_ext h4
      have e4 := (hx.no rfl).2.trans (hy.no rfl).2.symm
      dsimp only at e1 e2 e3 e4
      rw [e1, e2, e3, e4]
theorem can_wr : ∀ {l : List Nam} {b : ByteArray}, canAll l b = true → (∀ x ∈ l, okN x) → ∀ x ∈ l, Wr x
  | [], _, _, _, x, hx => by cases hx
  | y :: l, b, h, ho, x, hx => by
    rw [canAll, Bool.and_eq_true] at h
    rcases List.mem_cons.1 hx with rfl | hx
    · have h1 := h.1
      unfold canP at h1
      simp only [Bool.and_eq_true] at h1
      refine ⟨h1.1.1, ho _ (List.mem_cons_self ..), fun hc => ?_, fun hc => ?_⟩
      · have h2 := h1.2
        rw [if_pos hc] at h2
        exact of_decide_eq_true h2
      · have h2 := h1.2
        rw [if_neg (by rw [hc]; decide), Bool.and_eq_true] at h2
        exact ⟨h2.1, of_decide_eq_true h2.2⟩
    · exact can_wr h.2 (fun z hz => ho z (List.mem_cons_of_mem _ hz)) x hx
theorem map_inj9 {α β : Type} {f : α → β} : ∀ {a b : List α}, (∀ x ∈ a, ∀ y ∈ b, f x = f y → x = y) → a.map f = b.map f → a = b
  | [], [], _, _ => rfl
  | [], _ :: _, _, h => by cases h
  | _ :: _, [], _, h => by cases h
  | x :: a, y :: b, hf, h => by
    injection h with h1 h2
    rw [hf x (List.mem_cons_self ..) y (List.mem_cons_self ..) h1, map_inj9 (fun u hu v hv => hf u (List.mem_cons_of_mem _ hu) v (List.mem_cons_of_mem _ hv)) h2]
theorem text_lines (d : Drv) : (textP d).data.toList = ((linesP d).map (·.data.toList)).flatMap fun x => x ++ [10] := by
  unfold textP
  rw [ByteArray.data_append, Array.toList_append]
  exact join_lines 10 _ _
theorem lines_free {d : Drv} (h : CanP d = true) (ho : ∀ x ∈ d.2.1, okN x) (hb : ∀ x ∈ d.2.2, 0 ≤ x ∧ x ≤ 255) : ∀ x ∈ (linesP d).map (·.data.toList), (10 : UInt8) ∉ x := fun x hx => by
  unfold CanP at h
  simp only [Bool.and_eq_true] at h
  obtain ⟨s, hs, rfl⟩ := List.mem_map.1 hx
  unfold linesP at hs
  rcases List.mem_cons.1 hs with rfl | hs
  · have hn := (name_free h.2.1).1
    simp [hn]
  · rcases List.mem_append.1 hs with hs | hs
    · obtain ⟨y, hy, rfl⟩ := List.mem_map.1 hs
      exact line_free (can_wr h.1 ho y hy)
    · rw [List.mem_singleton.1 hs]
      have hn := shownP_free hb
      simp [hn]
/-- a text tells its derivation -/
theorem text_inj {a b : Drv} (ha : CanP a = true) (hb : CanP b = true) (hoa : ∀ x ∈ a.2.1, okN x) (hob : ∀ x ∈ b.2.1, okN x) (hba : ∀ x ∈ a.2.2, 0 ≤ x ∧ x ≤ 255) (hbb : ∀ x ∈ b.2.2, 0 ≤ x ∧ x ≤ 255) (h : textP a = textP b) : a = b := by
  have h1 : (textP a).data.toList = (textP b).data.toList := by rw [h]
  rw [text_lines, text_lines] at h1
  have h2 := lines_inj (lines_free ha hoa hba) (lines_free hb hob hbb) h1
  have h3 : linesP a = linesP b := map_inj9 (fun x _ y _ e => bytes_ext e) h2
  unfold linesP at h3
  injection h3 with e1 e2
  have hl : (a.2.1.map lineS).length = (b.2.1.map lineS).length := by
    have := congrArg List.length e2
    simpa using this
  obtain ⟨e3, e4⟩ := List.append_inj e2 hl
  unfold CanP at ha hb
  simp only [Bool.and_eq_true] at ha hb
  have n1 : a.1 = b.1 := bytes_ext (by
    have := congrArg (·.data.toList) e1
    simpa using this)
  have n2 : a.2.1 = b.2.1 := map_inj9 (fun x hx y hy e => line_inj (can_wr ha.1 hoa x hx) (can_wr hb.1 hob y hy) e) e3
  have n3 : a.2.2 = b.2.2 := shownP_inj hba hbb (by
    injection e4 with e4 _
    have := congrArg (·.data.toList) e4
    simpa using this)
  obtain ⟨x, y, z⟩ := a
  obtain ⟨x2, y2, z2⟩ := b
  dsimp only at n1 n2 n3
  rw [n1, n2, n3]
end Go.Proofs.Ytidiepbmbbflhaa
end
section
namespace Go.Proofs.Ytidiepbmbbflhaa
open Go Go.RowKit Go.Maps
set_option maxRecDepth 100000
namespace Dr
variable {H : Type} [DecidableEq H]
theorem rightA_app : ∀ (l m : List (It H)) (known : List H), rightA known (l ++ m) = (rightA known l && rightA (known ++ css l) m)
  | [], m, known => by simp [rightA, css]
  | x :: l, m, known => by
    have e : known ++ css (x :: l) = known ++ [x.cls] ++ css l := by simp [css]
    rw [List.cons_append, rightA, rightA, rightA_app l m (known ++ [x.cls]), e]
    simp only [Bool.and_assoc]
theorem rightP_snoc {l : List (It H)} {x : It H} : rightP (l ++ [x]) = true ↔ rightP l = true ∧ x.ok = true ∧ x.cls ∉ css l ∧ ∀ c ∈ x.ins, c ∈ css l := by
  unfold rightP
  rw [rightA_app]
  simp only [rightA, List.nil_append, Bool.and_eq_true, Bool.not_eq_true', List.all_eq_true, List.contains_iff_mem, and_true]
  constructor
  · rintro ⟨h1, ⟨h2, h3⟩, h4⟩
    exact ⟨h1, h2, by simpa using h3, fun c hc => by simpa using h4 c hc⟩
  · rintro ⟨h1, h2, h3, h4⟩
    exact ⟨h1, ⟨h2, by simpa using h3⟩, fun c hc => by simpa using h4 c hc⟩
theorem rightP_take {l : List (It H)} (h : rightP l = true) (i : Nat) : rightP (l.take i) = true := by
  unfold rightP at h ⊢
  have e := List.take_append_drop i l
  rw [← e, rightA_app, Bool.and_eq_true] at h
  exact h.1
theorem rightP_at {l : List (It H)} (h : rightP l = true) {i : Nat} {x : It H} (hx : l[i]? = some x) : x.ok = true ∧ x.cls ∉ css (l.take i) ∧ ∀ c ∈ x.ins, c ∈ css (l.take i) := by
  have h1 := rightP_take h (i + 1)
  rw [List.take_add_one, hx] at h1
  exact (rightP_snoc.1 h1).2
theorem rightA_filter (Q : H → Bool) : ∀ (l : List (It H)) (known : List H), rightA known l = true → (∀ x ∈ l, Q x.cls = true → ∀ c ∈ x.ins, Q c = true) → rightA (known.filter Q) (l.filter fun x => Q x.cls) = true
  | [], known, _, _ => rfl
  | x :: l, known, h, hQ => by
    simp only [rightA, Bool.and_eq_true, Bool.not_eq_true', List.all_eq_true] at h
    obtain ⟨⟨⟨h1, h2⟩, h3⟩, h4⟩ := h
    have h2 : x.cls ∉ known := by simpa using h2
    have h3 : ∀ c ∈ x.ins, c ∈ known := fun c hc => by simpa using h3 c hc
    have ih := rightA_filter Q l _ h4 fun y hy => hQ y (List.mem_cons_of_mem _ hy)
    rw [List.filter_append] at ih
    cases hq : Q x.cls with
    | true =>
      rw [List.filter_cons_of_pos (by simpa using hq)]
      rw [List.filter_cons_of_pos (by simpa using hq), List.filter_nil] at ih
      simp only [rightA, Bool.and_eq_true, Bool.not_eq_true', List.all_eq_true]
      refine ⟨⟨⟨h1, ?_⟩, fun c hc => ?_⟩, ih⟩
      · have : x.cls ∉ known.filter Q := fun hm => h2 (List.mem_filter.1 hm).1
        simpa using this
      · have : c ∈ known.filter Q := List.mem_filter.2 ⟨h3 c hc, hQ x (List.mem_cons_self ..) hq c hc⟩
        simpa using this
    | false =>
      rw [List.filter_cons_of_neg (by simp [hq])]
      rw [List.filter_cons_of_neg (by simp [hq]), List.filter_nil, List.append_nil] at ih
      exact ih
theorem rightP_filter {l : List (It H)} (Q : H → Bool) (h : rightP l = true) (hQ : ∀ x ∈ l, Q x.cls = true → ∀ c ∈ x.ins, Q c = true) : rightP (l.filter fun x => Q x.cls) = true := rightA_filter Q l [] h hQ
end Dr
/-- a derivation as memory holds it -/
def OkD (d : Drv) : Prop := (∀ x ∈ d.2.1, okN x) ∧ ∀ x ∈ d.2.2, 0 ≤ x ∧ x ≤ 255
variable (hof : Drv → Hsh)
def tabP (l : List Itm) : Bool := Dr.rightP (l.map itP) && l.all fun x => decide (hof x.2 = x.1)
def findI (l : List Itm) (c : Hsh) : Option Itm := l.find? fun x => decide (x.1 = c)
/-- a table with a derivation: the table, its class, the error -/
def addP (l : List Itm) (d : Drv) : List Itm × Hsh × Int :=
  if tabP hof l = true then
    (if putE d = 0 then
      (if ((clsP d.2.1).all fun c => (findI l c).isSome) = true then
        (match findI l (hof d) with
        | some x => if textP x.2 = textP d then (l, hof d, 0) else ([], zeroH, 14)
        | none => (l ++ [(hof d, d)], hof d, 0))
      else ([], zeroH, 5))
    else ([], zeroH, putE d))
  else ([], zeroH, 2)
variable {hof}
theorem tab_right {l : List Itm} (h : tabP hof l = true) : Dr.rightP (l.map itP) = true := by
  unfold tabP at h
  rw [Bool.and_eq_true] at h
  exact h.1
theorem tab_of {l : List Itm} (h : tabP hof l = true) {x : Itm} (hx : x ∈ l) : hof x.2 = x.1 := by
  unfold tabP at h
  rw [Bool.and_eq_true, List.all_eq_true] at h
  exact of_decide_eq_true (h.2 x hx)
theorem findI_css {l : List Itm} {c : Hsh} : (findI l c).isSome = true ↔ c ∈ Dr.css (l.map itP) := by
  unfold findI
  rw [find_known]
  exact ⟨known_mem, css_known⟩
theorem findI_none {l : List Itm} {c : Hsh} (h : findI l c = none) : c ∉ Dr.css (l.map itP) := fun hm => by
  have := findI_css.2 hm
  rw [h] at this
  cases this
theorem findI_some {l : List Itm} {c : Hsh} {x : Itm} (h : findI l c = some x) : x ∈ l ∧ x.1 = c :=
  ⟨List.mem_of_find?_eq_some h, by simpa using List.find?_some h⟩
theorem findI_at {l : List Itm} (hr : Dr.rightP (l.map itP) = true) {x : Itm} (hx : x ∈ l) : findI l x.1 = some x := find_some ((Dr.rightP_iff _).1 hr) hx
theorem findD_of {l : List Itm} {c : Hsh} {x : Itm} (h : findI l c = some x) : findD l c = x.2 := by
  unfold findD
  unfold findI at h
  rw [h]
  rfl
/-- what is so where something was added -/
theorem add_ok {l : List Itm} {d : Drv} {next : List Itm} {h : Hsh} (ha : addP hof l d = (next, h, 0)) : tabP hof l = true ∧ putE d = 0 ∧ (∀ c ∈ clsP d.2.1, c ∈ Dr.css (l.map itP)) ∧ h = hof d ∧ ((∃ x, findI l (hof d) = some x ∧ textP x.2 = textP d ∧ next = l) ∨ (findI l (hof d) = none ∧ next = l ++ [(hof d, d)])) := by
  unfold addP at ha
  split at ha
  · rename_i h1
    split at ha
    · rename_i h2
      split at ha
      · rename_i h3
        rw [List.all_eq_true] at h3
        refine ⟨h1, h2, fun c hc => findI_css.1 (h3 c hc), ?_⟩
        split at ha
        · rename_i x hx
          split at ha
          · rename_i h4
            simp only [Prod.mk.injEq] at ha
            exact ⟨ha.2.1.symm, .inl ⟨x, hx, h4, ha.1.symm⟩⟩
          · simp only [Prod.mk.injEq] at ha
            exact absurd ha.2.2 (by decide)
        · rename_i hx
          simp only [Prod.mk.injEq] at ha
          exact ⟨ha.2.1.symm, .inr ⟨hx, ha.1.symm⟩⟩
      · simp only [Prod.mk.injEq] at ha
        exact absurd ha.2.2 (by decide)
    · rename_i h2
      simp only [Prod.mk.injEq] at ha
      exact absurd ha.2.2 h2
  · simp only [Prod.mk.injEq] at ha
    exact absurd ha.2.2 (by decide)
theorem add_bad {l : List Itm} {d : Drv} (h : (addP hof l d).2.2 ≠ 0) : (addP hof l d).1 = [] ∧ (addP hof l d).2.1 = zeroH := by
  unfold addP at h ⊢
  split
  · rename_i h1
    rw [if_pos h1] at h
    split
    · rename_i h2
      rw [if_pos h2] at h
      split
      · rename_i h3
        rw [if_pos h3] at h
        split
        · rename_i x hx
          rw [hx] at h
          dsimp only at h
          split
          · rename_i h4
            rw [if_pos h4] at h
            exact absurd rfl h
          · exact ⟨rfl, rfl⟩
        · rename_i hx
          rw [hx] at h
          exact absurd rfl h
      · exact ⟨rfl, rfl⟩
    · exact ⟨rfl, rfl⟩
  · exact ⟨rfl, rfl⟩
theorem tab_snoc {l : List Itm} {d : Drv} (h : tabP hof l = true) (hp : putE d = 0) (hc : ∀ c ∈ clsP d.2.1, c ∈ Dr.css (l.map itP)) (hn : findI l (hof d) = none) : tabP hof (l ++ [(hof d, d)]) = true := by
  unfold tabP
  rw [Bool.and_eq_true, List.all_eq_true]
  refine ⟨?_, fun x hx => ?_⟩
  · rw [List.map_append]
    exact Dr.rightP_snoc.2 ⟨tab_right h, decide_eq_true hp, findI_none hn, hc⟩
  · rcases List.mem_append.1 hx with hx | hx
    · exact decide_eq_true (tab_of h hx)
    · rw [List.mem_singleton.1 hx]
      exact decide_eq_true rfl
theorem put_can {d : Drv} (h : putE d = 0) : CanP d = true := by
  unfold putE at h
  split at h
  · assumption
  · exact absurd h (by decide)
/-- what is added stays a table; those that were there stay; it is found; added again it changes nothing -/
theorem add_grows {l : List Itm} {d : Drv} {next : List Itm} {h : Hsh} (ha : addP hof l d = (next, h, 0)) (hd : OkD d) (hl : ∀ x ∈ l, OkD x.2) :
    tabP hof next = true ∧ h = hof d ∧ (∃ x, findI next h = some x ∧ x.2 = d) ∧ next.take l.length = l ∧ l.length ≤ next.length ∧ next.length ≤ l.length + 1 ∧ addP hof next d = (next, h, 0) ∧ (∀ x ∈ next, OkD x.2) ∧ putE d = 0 := by
  obtain ⟨h1, h2, h3, rfl, h4⟩ := add_ok ha
  rcases h4 with ⟨x, hx, ht, rfl⟩ | ⟨hn, rfl⟩
  · obtain ⟨hm, hc⟩ := findI_some hx
    have hpx : putE x.2 = 0 := by
      obtain ⟨i, hi⟩ := List.getElem?_of_mem hm
      have := (Dr.rightP_at (tab_right h1) (i := i) (x := itP x) (by rw [List.getElem?_map, hi]; rfl)).1
      exact of_decide_eq_true this
    have ox := hl x hm
    exact ⟨h1, rfl, ⟨x, hx, text_inj (put_can hpx) (put_can h2) ox.1 hd.1 ox.2 hd.2 ht⟩, List.take_length, Nat.le_refl _, Nat.le_succ _, ha, hl, h2⟩
  · have ht := tab_snoc h1 h2 h3 hn
    have hf : findI (l ++ [(hof d, d)]) (hof d) = some (hof d, d) := findI_at (tab_right ht) (x := (hof d, d)) (by simp)
    refine ⟨ht, rfl, ⟨_, hf, rfl⟩, by simp, by simp, by simp, ?_, fun x hx => ?_, h2⟩
    · unfold addP
      rw [if_pos ht, if_pos h2, if_pos (List.all_eq_true.2 fun c hc => findI_css.2 (by rw [List.map_append]; unfold Dr.css; rw [List.map_append]; exact List.mem_append_left _ (h3 c hc))), hf]
      exact if_pos rfl
    · rcases List.mem_append.1 hx with hx | hx
      · exact hl x hx
      · rw [List.mem_singleton.1 hx]; exact hd
theorem tab_take {l : List Itm} (h : tabP hof l = true) (i : Nat) : tabP hof (l.take i) = true := by
  unfold tabP
  rw [Bool.and_eq_true, List.all_eq_true]
  refine ⟨?_, fun x hx => decide_eq_true (tab_of h (List.mem_of_mem_take hx))⟩
  rw [List.map_take]
  exact Dr.rightP_take (tab_right h) i
/-- a table is made anew by adding what it has, in its order -/
theorem add_anew {l : List Itm} (h : tabP hof l = true) {i : Nat} {x : Itm} (hx : l[i]? = some x) : addP hof (l.take i) x.2 = (l.take (i + 1), x.1, 0) := by
  have hat := Dr.rightP_at (tab_right h) (i := i) (x := itP x) (by rw [List.getElem?_map, hx]; rfl)
  rw [← List.map_take] at hat
  have ho := tab_of h (List.mem_of_getElem? hx)
  have hn : findI (l.take i) (hof x.2) = none := by
    cases e : findI (l.take i) (hof x.2) with
    | none => rfl
    | some y =>
      refine absurd (findI_css.1 (by rw [e]; rfl : (findI (l.take i) (hof x.2)).isSome = true)) ?_
      rw [ho]
      exact hat.2.1
  have hall : ((clsP x.2.2.1).all fun c => (findI (l.take i) c).isSome) = true := List.all_eq_true.2 fun c hc => findI_css.2 (hat.2.2 c hc)
  unfold addP
  rw [if_pos (tab_take h i), if_pos (of_decide_eq_true hat.1), if_pos hall, hn, ho, List.take_add_one, hx]
  rfl
end Go.Proofs.Ytidiepbmbbflhaa
end
section
namespace Go.Proofs.Ytidiepbmbbflhaa
open Go Go.RowKit Go.Maps
set_option maxRecDepth 100000
theorem placeH_in {H : Type} [DecidableEq H] {l : List H} {c : H} {p : Nat} (h : placeH l c = (p : Int)) : c ∈ l := by
  unfold placeH at h
  split at h
  · assumption
  · omega
/-- what is needed is closed -/
theorem needs_closed9 {H : Type} [DecidableEq H] {l : List (Dr.It H)} (hr : Dr.Right l) {k : H} {y : Dr.It H} (hy : y ∈ l) (hm : y.cls ∈ Dr.needsP l k) : ∀ c ∈ y.ins, c ∈ Dr.needsP l k := fun c hc => by
  obtain ⟨i, hi⟩ := List.getElem?_of_mem hm
  obtain ⟨n, z, hz, h1, h2, _⟩ := part_plain hr hi
  have e := Dr.eq_of_cls hr (List.mem_of_getElem? hz) hy h1
  rw [e] at h2
  obtain ⟨⟨p, hp, _⟩, _⟩ := h2 c hc
  exact placeH_in hp
/-- which are kept -/
def askP (l : List Itm) (keep : List Hsh) (c : Hsh) : Bool := keep.any fun k => decide (c ∈ needsL l k)
def keepP (l : List Itm) (keep : List Hsh) : List Itm := l.filter fun x => askP l keep x.1
theorem ask_iff {l : List Itm} {keep : List Hsh} {c : Hsh} : askP l keep c = true ↔ ∃ k ∈ keep, c ∈ needsL l k := by
  unfold askP
  rw [List.any_eq_true]
  exact ⟨fun ⟨k, h1, h2⟩ => ⟨k, h1, of_decide_eq_true h2⟩, fun ⟨k, h1, h2⟩ => ⟨k, h1, decide_eq_true h2⟩⟩
theorem keep_mem {l : List Itm} {keep : List Hsh} {x : Itm} : x ∈ keepP l keep ↔ x ∈ l ∧ ∃ k ∈ keep, x.1 ∈ needsL l k := by
  unfold keepP
  rw [List.mem_filter, ask_iff]
theorem needsL_at {l : List Itm} (hr : Dr.rightP (l.map itP) = true) {k h : Hsh} (hm : h ∈ needsL l k) : k ∈ Dr.css (l.map itP) ∧ h ∈ Dr.needsP (l.map itP) k := by
  unfold needsL at hm
  rw [if_pos hr] at hm
  split at hm
  · rename_i hk
    exact ⟨known_mem hk, hm⟩
  · cases hm
variable {hof : Drv → Hsh}
theorem keep_tab {l : List Itm} (h : tabP hof l = true) (keep : List Hsh) : tabP hof (keepP l keep) = true := by
  have hr := tab_right h
  have hR := (Dr.rightP_iff _).1 hr
  unfold tabP
  rw [Bool.and_eq_true, List.all_eq_true]
  refine ⟨?_, fun x hx => decide_eq_true (tab_of h (keep_mem.1 hx).1)⟩
  have e : (keepP l keep).map itP = (l.map itP).filter fun y => askP l keep y.cls := by
    unfold keepP
    rw [List.filter_map]
    rfl
  rw [e]
  refine Dr.rightP_filter (askP l keep) hr fun y hy hq c hc => ?_
  obtain ⟨k, hk, hm⟩ := ask_iff.1 hq
  obtain ⟨h1, h2⟩ := needsL_at hr hm
  exact ask_iff.2 ⟨k, hk, by rw [(needs_known hr h1).2]; exact needs_closed9 hR hy h2 c hc⟩
theorem keep_find {l : List Itm} (h : tabP hof l = true) {keep : List Hsh} {k : Hsh} (hk : k ∈ keep) : (findI (keepP l keep) k).isSome = (findI l k).isSome := by
  have hr := tab_right h
  cases e : (findI l k).isSome with
  | true =>
    have hc := findI_css.1 e
    obtain ⟨x, hx, rfl⟩ := css_mem hc
    have hself : x.1 ∈ needsL l x.1 := by
      have := (last_is hr hc rfl).2
      exact List.mem_of_getElem? this
    exact findI_css.2 (List.mem_map.2 ⟨itP x, List.mem_map.2 ⟨x, keep_mem.2 ⟨hx, x.1, hk, hself⟩, rfl⟩, rfl⟩)
  | false =>
    cases e2 : (findI (keepP l keep) k).isSome with
    | false => rfl
    | true =>
      obtain ⟨x, hx, rfl⟩ := css_mem (findI_css.1 e2)
      have h9 : (findI l x.1).isSome = true := findI_css.2 (List.mem_map.2 ⟨itP x, List.mem_map.2 ⟨x, (keep_mem.1 hx).1, rfl⟩, rfl⟩)
      rw [h9] at e
      cases e
/-- what is kept, and was not asked for, is used -/
theorem keep_used {l : List Itm} (h : tabP hof l = true) {keep : List Hsh} {x : Itm} (hx : x ∈ keepP l keep) (hn : x.1 ∉ keep) : 0 < (Dr.usersP ((keepP l keep).map itP) x.1).length := by
  have hr := tab_right h
  have hR := (Dr.rightP_iff _).1 hr
  obtain ⟨hxl, k, hk, hm⟩ := keep_mem.1 hx
  obtain ⟨hkc, hm2⟩ := needsL_at hr hm
  obtain ⟨i, hi⟩ := List.getElem?_of_mem hm2
  have hlast := Dr.needs_last hR hkc
  have hil := (List.getElem?_eq_some_iff.1 hi).1
  have hi2 : i + 1 < (Dr.needsP (l.map itP) k).length := by
    rcases Nat.lt_or_ge (i + 1) (Dr.needsP (l.map itP) k).length with h1 | h1
    · exact h1
    · have e : i = (Dr.needsP (l.map itP) k).length - 1 := by omega
      rw [e, hlast.2] at hi
      injection hi with hi
      rw [hi] at hk
      exact absurd hk hn
  obtain ⟨j, y, hj, hy, hin⟩ := Dr.needs_used hR hkc hi2 hi
  obtain ⟨z, hz, rfl⟩ := List.mem_map.1 hy
  have hzk : z ∈ keepP l keep := keep_mem.2 ⟨hz, k, hk, by rw [(needs_known hr hkc).2]; exact List.mem_of_getElem? hj⟩
  have hu : z.1 ∈ Dr.usersP ((keepP l keep).map itP) x.1 := Dr.mem_users.2 ⟨itP z, List.mem_map.2 ⟨z, hzk, rfl⟩, hin, rfl⟩
  exact List.length_pos_of_mem hu
/-- where each one stands -/
def posI (l : List Itm) (x : Itm) : Nat := posD (l.map itP) x.1
theorem pos_at {l : List Itm} (hr : Dr.Right (l.map itP)) {i : Nat} {x : Itm} (hx : l[i]? = some x) : posI l x = i :=
  Dr.idx_at hr (n := i) (x := itP x) (by rw [List.getElem?_map, hx]; rfl)
theorem pos_lt {l : List Itm} (hr : Dr.Right (l.map itP)) {x : Itm} (hx : x ∈ l) : l[posI l x]? = some x := by
  obtain ⟨i, hi⟩ := List.getElem?_of_mem hx
  rw [pos_at hr hi]
  exact hi
theorem keep_order {l : List Itm} (hr : Dr.Right (l.map itP)) (keep : List Hsh) {i : Nat} {x y : Itm} (hx : (keepP l keep)[i]? = some x) (hy : (keepP l keep)[i + 1]? = some y) : posI l x < posI l y := by
  have hp : l.Pairwise fun a b => posI l a < posI l b := by
    rw [List.pairwise_iff_getElem]
    intro i j hi hj hij
    rw [pos_at hr (List.getElem?_eq_getElem hi), pos_at hr (List.getElem?_eq_getElem hj)]
    exact hij
  have h2 : (keepP l keep).Pairwise fun a b => posI l a < posI l b := hp.sublist List.filter_sublist
  rw [List.pairwise_iff_getElem] at h2
  obtain ⟨a1, a2⟩ := List.getElem?_eq_some_iff.1 hx
  obtain ⟨b1, b2⟩ := List.getElem?_eq_some_iff.1 hy
  have := h2 i (i + 1) a1 b1 (by omega)
  rwa [a2, b2] at this
/-! all that there was, added again -/
structure AgainP (hof : Drv → Hsh) (l : List Itm) (i : Nat) (g : List Itm) : Prop where
  tab : tabP hof g = true
  sub : ∀ x ∈ g, x ∈ l
  all : ∀ x ∈ l.take i, x ∈ g
theorem again_keep {l : List Itm} (h : tabP hof l = true) (keep : List Hsh) : AgainP hof l 0 (keepP l keep) :=
  ⟨keep_tab h keep, fun x hx => (keep_mem.1 hx).1, fun x hx => by simp at hx⟩
theorem again_step {l g : List Itm} {i : Nat} {x : Itm} (h : tabP hof l = true) (ha : AgainP hof l i g) (hx : l[i]? = some x) : ∃ next, addP hof g x.2 = (next, x.1, 0) ∧ AgainP hof l (i + 1) next := by
  have hr := tab_right h
  have hat := Dr.rightP_at hr (i := i) (x := itP x) (by rw [List.getElem?_map, hx]; rfl)
  rw [← List.map_take] at hat
  have hxm := List.mem_of_getElem? hx
  have ho := tab_of h hxm
  have hcl : ∀ c ∈ clsP x.2.2.1, c ∈ Dr.css (g.map itP) := fun c hc => by
    obtain ⟨y, hy, rfl⟩ := css_mem (hat.2.2 c hc)
    exact List.mem_map.2 ⟨itP y, List.mem_map.2 ⟨y, ha.all y hy, rfl⟩, rfl⟩
  have hall : ((clsP x.2.2.1).all fun c => (findI g c).isSome) = true := List.all_eq_true.2 fun c hc => findI_css.2 (hcl c hc)
  have htk : ∀ (next : List Itm), (∀ y ∈ g, y ∈ next) → x ∈ next → ∀ y ∈ l.take (i + 1), y ∈ next := fun next h1 h2 y hy => by
    rw [List.take_add_one, hx] at hy
    rcases List.mem_append.1 hy with hy | hy
    · exact h1 y (ha.all y hy)
    · rw [show y = x by simpa using hy]; exact h2
  cases e : findI g (hof x.2) with
  | some y =>
    obtain ⟨hy, hc⟩ := findI_some e
    have hyx : y = x := by
      have h1 := findI_at hr (ha.sub y hy)
      have h2 := findI_at hr hxm
      rw [hc, ho, h2] at h1
      exact (Option.some.inj h1).symm
    refine ⟨g, ?_, ha.tab, ha.sub, htk g (fun _ h => h) (hyx ▸ hy)⟩
    unfold addP
    rw [if_pos ha.tab, if_pos (of_decide_eq_true hat.1), if_pos hall, e]
    dsimp only
    rw [if_pos (by rw [hyx]), ho]
  | none =>
    have ht := tab_snoc ha.tab (of_decide_eq_true hat.1) hcl e
    have ex : (hof x.2, x.2) = x := by rw [ho]
    rw [ex] at ht
    refine ⟨g ++ [x], ?_, ht, fun y hy => ?_, htk _ (fun y hy => List.mem_append_left _ hy) (by simp)⟩
    · unfold addP
      rw [if_pos ha.tab, if_pos (of_decide_eq_true hat.1), if_pos hall, e]
      dsimp only
      rw [ex, ho]
    · rcases List.mem_append.1 hy with hy | hy
      · exact ha.sub y hy
      · rw [List.mem_singleton.1 hy]; exact hxm
theorem nodup_le {α : Type} [DecidableEq α] : ∀ {a b : List α}, a.Nodup → (∀ x ∈ a, x ∈ b) → a.length ≤ b.length
  | [], b, _, _ => Nat.zero_le _
  | x :: a, b, hn, hs => by
    obtain ⟨h1, h2⟩ := List.nodup_cons.1 hn
    have hx := hs x (List.mem_cons_self ..)
    have h3 : a.length ≤ (b.erase x).length := nodup_le h2 fun y hy => (List.mem_erase_of_ne (fun e => h1 (by rw [← e]; exact hy))).2 (hs y (List.mem_cons_of_mem _ hy))
    rw [List.length_erase_of_mem hx] at h3
    have := List.length_pos_of_mem hx
    rw [List.length_cons]
    omega
theorem again_len {l g : List Itm} (h : tabP hof l = true) (ha : AgainP hof l l.length g) : g.length = l.length := by
  have n1 := ((Dr.rightP_iff _).1 (tab_right h)).nodup
  have n2 := ((Dr.rightP_iff _).1 (tab_right ha.tab)).nodup
  have e : ∀ q : List Itm, (Dr.css (q.map itP)).length = q.length := css_len
  have h1 := nodup_le n1 (b := Dr.css (g.map itP)) fun c hc => by
    obtain ⟨x, hx, rfl⟩ := css_mem hc
    exact List.mem_map.2 ⟨itP x, List.mem_map.2 ⟨x, ha.all x (by rw [List.take_length]; exact hx), rfl⟩, rfl⟩
  have h2 := nodup_le n2 (b := Dr.css (l.map itP)) fun c hc => by
    obtain ⟨x, hx, rfl⟩ := css_mem hc
    exact List.mem_map.2 ⟨itP x, List.mem_map.2 ⟨x, ha.sub x hx, rfl⟩, rfl⟩
  rw [e, e] at h1 h2
  omega
end Go.Proofs.Ytidiepbmbbflhaa
end
section
namespace Go.Proofs.Ytidiepbmbbflhaa
open Go Go.RowKit Go.Maps
set_option maxRecDepth 100000
/-- a derivation's class -/
def hofP (d : Drv) : Hsh := ofB [99, 108, 97, 115, 115] [(textP d).data.toList]
theorem hofP_ok (d : Drv) : okH (hofP d) := by
  show (ofB _ _).length = 20
  unfold ofB
  exact length_fold _ _
theorem text_small {d : Drv} (h : putE d = 0) : (textP d).size ≤ 2000 := by
  unfold putE at h
  split at h
  · split at h
    · exact absurd h (by decide)
    · omega
  · exact absurd h (by decide)
theorem parts_one {w w' : World} {g cap : Nat} {s : ByteArray} (hb : Blk w' w.heap.size 32 #[.slice (some ⟨g, 0, none⟩) s.size cap]) (hs : w'.heap.size = w.heap.size + 1) (hc : s.size ≤ cap) (hg : g < w.heap.size) (hk : ∀ b, b < w.heap.size → w'.heap[b]? = w.heap[b]?) (h : BytesOf w g s) : PartsAt w' w'.heap.size (.slice (some ⟨w.heap.size, 0, none⟩) 1 1) [s.data.toList] := by
  have ht : TextAt w' 5 g s := ⟨by rw [hk g hg]; exact h.1, fun j hj => (World.cell?_of_block (hk g hg)).trans (h.2 j hj)⟩
  refine ⟨_, 1, rfl, Nat.le_refl _, fun _ => ⟨w.heap.size, 0, rfl, by omega, fun j hj => ?_⟩⟩
  have hj0 : j = 0 := by simp at hj; omega
  subst hj0
  exact ⟨_, hb.cell 0, (TB.of_text (base := 0) hc (by omega) ht).bytes⟩
set_option maxHeartbeats 1000000 in
theorem of_ok (w : World) (d : Drv) (v1 v2 : Value) (h : DrvAt w w.heap.size d v1 v2) (hp : putE d = 0) :
    Calls Try.prog 22 #[.agg (dC d v1 v2).toArray] w fun e w' => e = .returned (.agg (bv (hofP d)).toArray) ∧ Below w.heap.size w w' := by
  go_enter Try.func22, Try.ntmps22
  go_wp2_with (first | ((with_reducible refine at_slot 1 ?_); (refine wpList_boxA (o := ⟨some 1, _, _, _, _, _⟩) rfl 34 (.tmp 0) rfl (dC d v1 v2).toArray rfl ?_); intro w1 hn; have H1 := hide hn; clear hn; simp only [Act.put, List.setIfInBounds_toArray, List.set_cons_zero, List.set_cons_succ]) | ((with_reducible refine at_slot 2 ?_); (refine wpList_newZ (o := ⟨some 2, _, _, _, _, _⟩) rfl 27 zcH (by kernel_rfl) ?_); intro w2 hn; have H2 := hide (And.intro (H1.out.blk.below hn.below H1.out.blk.lt) (And.intro hn.blk (And.intro (H1.out.below.trans (Below.mono hn.below H1.out.below.size)) (show w.heap.size < w1.heap.size by have := H1.out.size; omega)))); clear hn; simp only [Act.put, List.setIfInBounds_toArray, List.set_cons_zero, List.set_cons_succ]) | ((with_reducible refine at_slot 3 ?_); (refine wpList_value (o := ⟨some 3, _, _, _, _, _⟩) rfl (.agg ((dC d v1 v2).toArray)) w2 (exec_load_blk (o := ⟨some 3, _, _, _, _, _⟩) 34 (.tmp 1) rfl w.heap.size rfl 34 _ _ w2 H2.out.1 Try.underlying34 rfl (by kernel_rfl)) ?_)))
  refine (written_ok w2 d v1 v2 (h.alike9 H2.out.2.2.1) hp).mono ?_
  rintro e w3 ⟨g, cap, rfl, k1, k2, k3, k4, hb⟩
  dsimp only
  have H3 := hide (And.intro (H2.out.2.1.below hb H2.out.2.1.lt) (And.intro k1 (And.intro k2 (And.intro k4 (H2.out.2.2.1.trans (Below.mono hb H2.out.2.2.1.size))))))
  clear k1 k2 k3 k4 hb
  go_wp2_with (first | ((with_reducible refine at_slot 5 ?_); (refine wpList_row1 (o := ⟨some 5, _, _, _, _, _⟩) rfl 88 (.tmp 4) rfl 32 1 (.slice none 0 0) (.slice (some ⟨g, 0, none⟩) (textP d).size cap) rfl Try.underlying88 (by kernel_rfl) (by decide) (by decide) (fun w => by kernel_rfl) rfl ?_); intro w4 hn; have H4 := hide hn; clear hn; simp only [Act.put, List.setIfInBounds_toArray, List.set_cons_zero, List.set_cons_succ]))
  have hpt := parts_one H4.out.blk H4.out.size H3.out.2.2.1 H3.out.2.2.2.1 (fun b hb => H4.out.below.block b hb) H3.out.2.1
  refine (of_any ⟨#[99, 108, 97, 115, 115]⟩ [99, 108, 97, 115, 115] rfl (by decide) [(textP d).data.toList] (by have := text_small hp; simpa using Nat.le_trans this (by decide)) (by show 1 ≤ 1000000000; decide) _ w4 w4.heap.size (Nat.le_refl _) hpt).mono ?_
  rintro e w5 ⟨rfl, hb⟩
  dsimp only
  have hb35 := H4.out.below.trans (Below.mono hb H4.out.below.size)
  have H5 := hide (And.intro (H3.out.1.below hb35 H3.out.1.lt) (H3.out.2.2.2.2.trans (Below.mono hb35 H3.out.2.2.2.2.size)))
  have hok := hofP_ok d
  have hsz := hszD hok
  have hszz : zcH.size = (bv (hofP d)).toArray.size := by rw [show (bv (hofP d)).toArray.size = 20 by rw [List.size_toArray, bvL]; exact hok]; kernel_rfl
  have hone : (bv (hofP d)).toArray.all (·.oneCell') = true := all_oneCell_toArray (bv1 _)
  clear hb hb35 hpt
  go_wp2_with (first | ((with_reducible refine at_store 2 6 ?_); (with_reducible refine wpList_store_blkA (o := ⟨none, _, _, _, _, _⟩) rfl 27 (.tmp 2) (.tmp 6) rfl w1.heap.size zcH (bv (hofP d)).toArray 27 H5.out.1 ?_ ?_ ?_ ?_ ?_ ?_); (exact hsz); (exact hszz); (exact hone); rfl; rfl; intro w9 hk9 hg9; have H9 := hide (And.intro hk9 (H5.out.2.grown hg9 H5.out.2.size (fun b hb => by have := Option.some.inj hb; have := H2.out.2.2.2; omega))); clear hk9 hg9; simp only [Act.put, List.setIfInBounds_toArray, List.set_cons_zero, List.set_cons_succ]))
  refine bodyPost_ret (results_cell_row rfl _ _ w1.heap.size 27 (bv (hofP d)).toArray (0, 0) _ rfl H9.out.1 Try.underlying27 rfl hsz) rfl ⟨rfl, H9.out.2⟩
set_option maxHeartbeats 1000000 in
theorem of_no (w : World) (d : Drv) (v1 v2 : Value) (h : DrvAt w w.heap.size d v1 v2) (hp : ¬ putE d = 0) :
    Calls Try.prog 22 #[.agg (dC d v1 v2).toArray] w fun e w' => e = .panicked [{ v := thrown (putE d), recovered := false }] ∧ Below w.heap.size w w' := by
  go_enter Try.func22, Try.ntmps22
  go_wp2_with (first | ((with_reducible refine at_slot 1 ?_); (refine wpList_boxA (o := ⟨some 1, _, _, _, _, _⟩) rfl 34 (.tmp 0) rfl (dC d v1 v2).toArray rfl ?_); intro w1 hn; have H1 := hide hn; clear hn; simp only [Act.put, List.setIfInBounds_toArray, List.set_cons_zero, List.set_cons_succ]) | ((with_reducible refine at_slot 2 ?_); (refine wpList_newZ (o := ⟨some 2, _, _, _, _, _⟩) rfl 27 zcH (by kernel_rfl) ?_); intro w2 hn; have H2 := hide (And.intro (H1.out.blk.below hn.below H1.out.blk.lt) (And.intro hn.blk (And.intro (H1.out.below.trans (Below.mono hn.below H1.out.below.size)) (show w.heap.size < w1.heap.size by have := H1.out.size; omega)))); clear hn; simp only [Act.put, List.setIfInBounds_toArray, List.set_cons_zero, List.set_cons_succ]) | ((with_reducible refine at_slot 3 ?_); (refine wpList_value (o := ⟨some 3, _, _, _, _, _⟩) rfl (.agg ((dC d v1 v2).toArray)) w2 (exec_load_blk (o := ⟨some 3, _, _, _, _, _⟩) 34 (.tmp 1) rfl w.heap.size rfl 34 _ _ w2 H2.out.1 Try.underlying34 rfl (by kernel_rfl)) ?_)))
  refine (written_no w2 d v1 v2 (h.alike9 H2.out.2.2.1) hp).mono ?_
  rintro e w3 ⟨rfl, hb⟩
  dsimp only
  change bodyPost Try.prog Try.f22 _ _ _ _
  simp only [bodyPost]
  exact ⟨trivial, trivial, H2.out.2.2.1.trans (Below.mono hb H2.out.2.2.1.size)⟩
end Go.Proofs.Ytidiepbmbbflhaa
end
section
namespace Go.Proofs.Ytidiepbmbbflhaa
open Go Go.RowKit Go.Maps
set_option maxRecDepth 100000
set_option maxHeartbeats 1000000 in
theorem table1_any (w : World) (x : Itm) (v1 v2 : Value) (hx : okH x.1) (h : DrvAt w w.heap.size x.2 v1 v2) (hp : putE x.2 = 0) :
    Calls Try.prog 26 #[.agg (tC x v1 v2).toArray] w fun e w' => e = .returned (.bool (!decide (hofP x.2 = x.1))) ∧ Below w.heap.size w w' := by
  go_enter Try.func26, Try.ntmps26
  go_wp2_with (first | ((with_reducible refine at_slot 1 ?_); (refine wpList_boxA (o := ⟨some 1, _, _, _, _, _⟩) rfl 43 (.tmp 0) rfl (tC x v1 v2).toArray rfl ?_); intro w1 hn; have H1 := hide hn; clear hn; simp only [Act.put, List.setIfInBounds_toArray, List.set_cons_zero, List.set_cons_succ]))
  have hat : DrvAt w1 w1.heap.size x.2 v1 v2 := h.alike9 H1.out.below
  have HAT := hide hat
  have hr := rangeAt_blk H1.out.blk
  have HR := hide hr
  have hg1 := H1.out.blk.lt
  have hszx := hszD hx
  have hszx1 : (Try.prog.info? 27).map (·.size) = some (bv x.1).length := by simpa using hszx
  clear hat hr hszx
  refine Fre.wp_made (X := Bel) 6 [] (by kernel_rfl) (by kernel_rfl) (by simp) (by simp) (by simp) ?_
  simp only [List.take_succ_cons, List.take_zero, List.drop_succ_cons, List.drop_zero]
  refine Fre.made_val (.pointer (some ⟨w.heap.size, 20, none⟩)) (by kernel_rfl) (by kernel_rfl) (by kernel_rfl) (fun _ _ => by kernel_rfl) ?_
  simp only [Act.put, List.setIfInBounds_toArray, List.set_cons_zero, List.set_cons_succ]
  refine Fre.made_val (.agg (dC x.2 v1 v2).toArray) (by kernel_rfl) (by kernel_rfl) (by kernel_rfl) (fun W9 hW9 => exec_load_mid (o := ⟨some 4, _, _, _, _, _⟩) 34 (.tmp 3) rfl w.heap.size 20 rfl (dC x.2 v1 v2) _ W9 (rangeAt_same (item_drv hx H1.out.blk) (Below.block hW9 _ hg1)) Try.underlying34 rfl (by kernel_rfl)) ?_
  simp only [Act.put, List.setIfInBounds_toArray, List.set_cons_zero, List.set_cons_succ]
  refine Fre.made_call (.agg (bv (hofP x.2)).toArray) 22 #[.agg (dC x.2 v1 v2).toArray] (by kernel_rfl) (by kernel_rfl) (by kernel_rfl) (fun W9 => by kernel_rfl) (fun W9 hW9 => of_ok W9 x.2 v1 v2 (HAT.out.alike9 hW9) hp) ?_
  simp only [Act.put, List.setIfInBounds_toArray, List.set_cons_zero, List.set_cons_succ]
  refine Fre.made_val (.pointer (some ⟨w.heap.size, 0, none⟩)) (by kernel_rfl) (by kernel_rfl) (by kernel_rfl) (fun _ _ => by kernel_rfl) ?_
  simp only [Act.put, List.setIfInBounds_toArray, List.set_cons_zero, List.set_cons_succ]
  refine Fre.made_val (.agg (bv x.1).toArray) (by kernel_rfl) (by kernel_rfl) (by kernel_rfl) (fun W9 hW9 => exec_load_mid (o := ⟨some 7, _, _, _, _, _⟩) 27 (.tmp 6) rfl w.heap.size 0 rfl (bv x.1) _ W9 (rangeAt_same (item_cls hx H1.out.blk) (Below.block hW9 _ hg1)) Try.underlying27 rfl hszx1) ?_
  simp only [Act.put, List.setIfInBounds_toArray, List.set_cons_zero, List.set_cons_succ]
  refine Fre.made_val (.bool (!decide (hofP x.2 = x.1))) (by kernel_rfl) (by kernel_rfl) (by kernel_rfl) (fun W9 hW9 => exec_binop_agg (o := ⟨some 8, _, _, _, _, _⟩) .neq 27 (.tmp 5) (.tmp 7) _ rfl (bv (hofP x.2)).toArray (bv x.1).toArray rfl rfl (by kernel_rfl) _ (fun W => bin_neq_hash (hofP x.2) x.1 (hofP_ok _) hx W) W9) ?_
  simp only [Act.put, List.setIfInBounds_toArray, List.set_cons_zero, List.set_cons_succ]
  intro wx hx9
  have HX := hide (H1.out.below.trans (Below.mono hx9 H1.out.below.size))
  clear hx9
  dsimp only [Fre.ended, List.drop]
  go_wp2_with fail
  go_ret
  exact ⟨rfl, HX.out⟩
set_option maxHeartbeats 400000 in
theorem index_any9 (w : World) (l : List Itm) (A : Option Addr) (cap : Nat) (h : itmsLay.At w w.heap.size [.slice A l.length cap] l) (f : Itm → Bool) (hcl : ∀ (W : World) (x : Itm) (v1 v2 : Value), x ∈ l → DrvAt W W.heap.size x.2 v1 v2 → okH x.1 → Calls Try.prog 26 #[.agg (tC x v1 v2).toArray] W fun e w' => e = .returned (.bool (f x)) ∧ Below W.heap.size W w') :
    Calls Try.prog 42 #[.slice A l.length cap, .func (.func 26) #[] #[]] w fun e w' => ∃ r : Int, e = .returned (.int .i64 r) ∧ decide (0 ≤ r) = l.any f ∧ Below w.heap.size w w' := by
  obtain ⟨A', cap', e, hcl', hcm9, _, hA⟩ := slice_open h
  injection e with e1 e2 e3
  subst e1 e3
  have k9 : (l.length : Int) ≤ 9223372036854775807 := by simp only [maxLen] at hcm9; omega
  have HA := hide hA
  have hcl9 := hide hcl
  clear hA hcl' hcm9 e2 h hcl
  go_enter Try.func42, Try.ntmps42
  go_wp2_with fail
  go_loopw [8] (fun x8 wr => ∃ j : Nat, j ≤ l.length ∧ x8 = .int .i64 (j : Int) ∧ (∀ y ∈ l.take j, f y = false) ∧ Below w.heap.size w wr) (fun x8 _ => l.length - (intOf x8).toNat)
  case atStart => exact ⟨0, by omega, rfl, (fun y hy => by simp at hy), Below.refl _ _⟩
  case round =>
    obtain ⟨wo, rfl⟩ : ∃ wo, wo = wr := ⟨_, rfl⟩
    obtain ⟨j, hj, rfl, hall, hb⟩ := hrel
    have HB := hide (And.intro hall hb)
    clear hall hb
    have j0 : (0 : Int) ≤ (j : Int) := by omega
    by_cases hj2 : j < l.length
    · have j1 : (j : Int) < (l.length : Int) := by omega
      obtain ⟨x, hx⟩ : ∃ x, l[j]? = some x := ⟨_, List.getElem?_eq_getElem hj2⟩
      obtain ⟨b, off, rfl, hlb, hE⟩ := HA.out (by omega)
      obtain ⟨cs, hr, hatx⟩ := hE j x hx
      obtain ⟨q1, q2, rfl, hxo, hxd⟩ := itmLay_at.1 hatx
      obtain ⟨B1, k1, rfl, _⟩ := slice_open hxd.ins
      obtain ⟨B2, k2, rfl, _⟩ := slice_open hxd.rcp
      obtain ⟨q1, hq1⟩ : ∃ q1, q1 = Value.slice B1 x.2.2.1.length k1 := ⟨_, rfl⟩
      obtain ⟨q2, hq2⟩ : ∃ q2, q2 = Value.slice B2 x.2.2.2.length k2 := ⟨_, rfl⟩
      have hone1 : q1.oneCell' = true ∧ q2.oneCell' = true := by rw [hq1, hq2]; exact ⟨rfl, rfl⟩
      rw [← hq1, ← hq2] at hr hatx
      rw [← hq1, ← hq2] at hxd
      have HX := hide (And.intro (rangeAt_same hr (HB.out.2.block b (by omega))) (And.intro hxo hxd))
      have HXX := hide hx
      have hszt2 : (Try.prog.info? 43).map (·.size) = some (tC x q1 q2).toArray.size := by rw [show (tC x q1 q2).toArray.size = 23 by rw [List.size_toArray]; exact tC_len hxo]; kernel_rfl
      have hszt : (Try.prog.info? 43).map (·.size) = some (tC x q1 q2).length := by simpa using hszt2
      have hszzt : zcT.size = (tC x q1 q2).toArray.size := by rw [show (tC x q1 q2).toArray.size = 23 by rw [List.size_toArray]; exact tC_len hxo]; kernel_rfl
      have honet : (tC x q1 q2).toArray.all (·.oneCell') = true := all_oneCell_toArray (tC_one x hone1.1 hone1.2)
      have hszx : (Try.prog.info? 27).map (·.size) = some (bv x.1).length := by have := hszD hxo; simpa using this
      have hszx2 := hszD hxo
      clear hx hE hr hatx hxd hq1 hq2
      go_wp2_with (first | ((with_reducible refine at_slot 14 ?_); (refine wpList_value (o := ⟨some 14, _, _, _, _, _⟩) rfl (.pointer (some ⟨b, off + (j : Int).toNat * 23, none⟩)) wo (exec_index_off (o := ⟨some 14, _, _, _, _, _⟩) 25 43 (.tmp 12) (.tmp 13) rfl b off l.length cap (j : Int) .i64 rfl rfl ⟨j0, j1⟩ 23 Try.underlying25 sz_itm wo) ?_; rw [show off + (j : Int).toNat * 23 = off + j * 23 by omega])) | ((with_reducible refine at_slot 15 ?_); (refine wpList_value (o := ⟨some 15, _, _, _, _, _⟩) rfl (.agg (tC x q1 q2).toArray) wo (exec_load_mid (o := ⟨some 15, _, _, _, _, _⟩) 43 (.tmp 14) rfl b (off + j * 23) rfl (tC x q1 q2) _ wo HX.out.1 Try.underlying43 rfl hszt) ?_)))
      refine (hcl9.out wo x q1 q2 (List.mem_of_getElem? HXX.out) (HX.out.2.2.alike9 HB.out.2) HX.out.2.1).mono ?_
      rintro e w9 ⟨rfl, hb⟩
      dsimp only
      have H9 := hide (HB.out.2.trans (Below.mono hb HB.out.2.size))
      clear hb
      cases he : f x
      · have HE := hide he
        clear he
        go_wp2_with fail
        go_roundw
        case rel => exact ⟨j + 1, by omega, by go_num, (fun y hy => by rw [List.take_add_one, HXX.out] at hy; rcases List.mem_append.1 hy with hy | hy; exact HB.out.1 y hy; rw [show y = x from by simpa using hy]; exact HE.out), H9.out⟩
        case measure => simp [intOf]; omega
      · have hany : l.any f = true := List.any_eq_true.2 ⟨x, List.mem_of_getElem? HXX.out, he⟩
        have HE := hide hany
        clear he hany
        go_wp2_with fail
        go_ret
        exact ⟨j, rfl, by rw [HE.out]; exact decide_eq_true j0, H9.out⟩
    · obtain rfl : j = l.length := by omega
      have hany : l.any f = false := by
        rw [List.any_eq_false]
        intro y hy
        rw [HB.out.1 y (by rw [List.take_length]; exact hy)]
        decide
      have HE := hide hany
      clear hany
      go_wp2_with fail
      go_ret
      exact ⟨-1, rfl, by rw [HE.out]; rfl, HB.out.2⟩
theorem contains_any9 (w : World) (l : List Itm) (A : Option Addr) (cap : Nat) (h : itmsLay.At w w.heap.size [.slice A l.length cap] l) (f : Itm → Bool) (hcl : ∀ (W : World) (x : Itm) (v1 v2 : Value), x ∈ l → DrvAt W W.heap.size x.2 v1 v2 → okH x.1 → Calls Try.prog 26 #[.agg (tC x v1 v2).toArray] W fun e w' => e = .returned (.bool (f x)) ∧ Below W.heap.size W w') :
    Calls Try.prog 25 #[.slice A l.length cap, .func (.func 26) #[] #[]] w fun e w' => e = .returned (.bool (l.any f)) ∧ Below w.heap.size w w' := by
  go_enter Try.func25, Try.ntmps25
  go_wp2_with fail
  refine (index_any9 w l A cap h f hcl).mono ?_
  rintro e w9 ⟨r, rfl, hr, hb⟩
  dsimp only
  by_cases h0 : 0 ≤ r
  · rw [decide_eq_true h0] at hr
    have HR := hide hr
    clear hr
    go_wp2_with fail
    go_ret
    exact ⟨by rw [← HR.out]; rfl, hb⟩
  · rw [decide_eq_false h0] at hr
    have HR := hide hr
    clear hr
    go_wp2_with fail
    go_ret
    exact ⟨by rw [← HR.out]; rfl, hb⟩
theorem right_put {l : List Itm} (h : Dr.rightP (l.map itP) = true) : ∀ x ∈ l, putE x.2 = 0 := fun x hx => by
  obtain ⟨i, hi⟩ := List.getElem?_of_mem hx
  exact of_decide_eq_true (Dr.rightP_at h (i := i) (x := itP x) (by rw [List.getElem?_map, hi]; rfl)).1
theorem tab_eq {l : List Itm} (h : Dr.rightP (l.map itP) = true) : tabP hofP l = !(l.any fun y => !decide (hofP y.2 = y.1)) := by
  unfold tabP
  rw [h, Bool.true_and, List.all_eq_not_any_not]
/-- class.Table -/
theorem table_any (w : World) (l : List Itm) (A : Option Addr) (cap : Nat) (h : itmsLay.At w w.heap.size [.slice A l.length cap] l) (hl : ∀ x ∈ l, x.2.2.1.length ≤ 1000000) :
    Calls Try.prog 10 #[.slice A l.length cap] w fun e w' => e = .returned (.bool (tabP hofP l)) ∧ Below w.heap.size w w' := by
  go_enter Try.func10, Try.ntmps10
  go_wp2_with fail
  refine (right_any w l A cap h hl).mono ?_
  rintro e w2 ⟨rfl, hb⟩
  dsimp only
  have H2 := hide hb
  clear hb
  cases hrt : Dr.rightP (l.map itP)
  · have ht : tabP hofP l = false := by unfold tabP; rw [hrt]; rfl
    have HT := hide ht
    clear ht hrt
    go_wp2_with fail
    go_ret
    exact ⟨by rw [HT.out]; rfl, H2.out⟩
  · have hp : ∀ x ∈ l, putE x.2 = 0 := right_put hrt
    have ht : tabP hofP l = !(l.any fun y => !decide (hofP y.2 = y.1)) := tab_eq hrt
    have HT := hide ht
    clear ht hrt
    go_wp2_with fail
    refine (contains_any9 w2 l A cap (itms_alike h H2.out) (fun y => !decide (hofP y.2 = y.1)) (fun W y u1 u2 hy hat ho => table1_any W y u1 u2 ho hat (hp y hy))).mono ?_
    rintro e w3 ⟨rfl, hb⟩
    dsimp only
    have H3 := hide (H2.out.trans (Below.mono hb H2.out.size))
    clear hb
    cases hq : (l.any fun y => !decide (hofP y.2 = y.1))
    · have HQ := hide hq
      clear hq
      go_wp2_with fail
      go_ret
      exact ⟨by rw [HT.out, HQ.out]; rfl, H3.out⟩
    · have HQ := hide hq
      clear hq
      go_wp2_with fail
      go_ret
      exact ⟨by rw [HT.out, HQ.out]; rfl, H3.out⟩
end Go.Proofs.Ytidiepbmbbflhaa
end
section
namespace Go.Proofs.Ytidiepbmbbflhaa
open Go Go.RowKit Go.Maps
set_option maxRecDepth 100000
set_option maxHeartbeats 400000 in
theorem cloneN_any (w : World) (l : List Nam) (v : Value) (h : namsLay.At w w.heap.size [v] l) (hl : l.length ≤ 1000000) :
    Calls Try.prog 49 #[v] w fun e w' => ∃ u, e = .returned u ∧ w'.ownsRow w.heap.size 72 43 u l.length (l.flatMap nC) ∧ Below w.heap.size w w' := by
  obtain ⟨inm, hih, hq0, hq1, hq2⟩ := info_parts info_namI
  have HJ := hide (And.intro hih (And.intro hq0 (And.intro hq1 hq2)))
  clear hih hq0 hq1 hq2
  obtain ⟨A, cap, rfl, h1, h2, h3, _⟩ := slice_open h
  cases A with
  | none =>
    have hc0 := h3 rfl
    obtain rfl : l = [] := List.eq_nil_of_length_eq_zero (by omega)
    subst hc0
    clear h1 h2 h3
    go_enter Try.func49, Try.ntmps49
    go_wp2_with (first | ((with_reducible refine at_slot 4 ?_); (refine wpList_value (o := ⟨some 4, _, _, _, _, _⟩) rfl (.bool true) w (by kernel_rfl) ?_)))
    go_ret
    exact ⟨_, rfl, World.ownsRow_nil _ _ _ _, Below.refl _ _⟩
  | some ad =>
    clear h1 h2 h3
    have hs0 := (slice_src (L := namLay) (f := nC) (by decide) (fun {w B cs x} h => (namLay_at.1 h).1) (fun x u hu => nC_one x u hu) h).2
    have HS := hide hs0
    clear hs0
    go_enter Try.func49, Try.ntmps49
    go_wp2_with (first | ((with_reducible refine at_slot 4 ?_); (refine wpList_value (o := ⟨some 4, _, _, _, _, _⟩) rfl (.bool false) w (by kernel_rfl) ?_)) | ((with_reducible refine at_slot 5 ?_); (refine wpList_newS (o := ⟨some 5, _, _, _, _, _⟩) rfl 0 72 #[] (by kernel_rfl) ?_); intro w1 hn; have hown : w1.ownsRow w.heap.size 72 43 (.slice (some ⟨w.heap.size, 0, none⟩) 0 0) 0 [] := ⟨rfl, .inr ⟨w.heap.size, 0, #[], rfl, Nat.le_refl _, hn.blk, Nat.le_refl _, Nat.zero_le _, rfl, rfl⟩⟩; have H1 := hide (And.intro hown (And.intro hn.below hn.size)); clear hn hown; simp only [Act.put, List.setIfInBounds_toArray, List.set_cons_zero, List.set_cons_succ]) | (at_builtin; ((with_reducible refine at_slot 7 ?_); refine wpList_appS (o := ⟨some 7, _, _, _, _, _⟩) rfl _ _ 31 rfl w.heap.size 72 inm _ 43 80 Try.underlying31 HJ.out.1 HJ.out.2.1 HJ.out.2.2.1 HJ.out.2.2.2 rfl (by decide) _ (0) ([]) H1.out.1 (some ad) l.length cap (l.flatMap nC) (HS.out.below H1.out.2.1) ?hm1 ?hb1 ?hz1 rfl rfl ?_)))
    case hm1 => simp only [maxLen]; omega
    case hb1 => omega
    case hz1 => exact H1.out.2.1.size
    intro u9 w9 own9 gr9 _
    have ho : w9.ownsRow w.heap.size 72 43 u9 l.length (l.flatMap nC) := by simpa using own9
    have H9 := hide (And.intro ho (H1.out.2.1.grown gr9 H1.out.2.1.size (fun k hk => (owned_ltN H1.out.1 hk).1)))
    clear ho own9 gr9
    go_wp2_with fail
    go_ret
    exact ⟨u9, rfl, H9.out⟩
set_option maxHeartbeats 400000 in
theorem cloneB_any (w : World) (l : List Int) (v : Value) (h : bytesLay.At w w.heap.size [v] l) (hl : l.length ≤ 1000000) :
    Calls Try.prog 50 #[v] w fun e w' => ∃ u, e = .returned u ∧ w'.ownsRow w.heap.size 5 1 u l.length (l.flatMap ib) ∧ Below w.heap.size w w' := by
  obtain ⟨inm, hih, hq0, hq1, hq2⟩ := info_parts (show (Try.prog.info? 5).map (fun i => (i.zero, i.size, i.bytes)) = some (some (.int .u8 0), 1, 1) by kernel_rfl)
  have HJ := hide (And.intro hih (And.intro hq0 (And.intro hq1 hq2)))
  clear hih hq0 hq1 hq2
  obtain ⟨A, cap, rfl, h1, h2, h3, _⟩ := slice_open h
  cases A with
  | none =>
    have hc0 := h3 rfl
    obtain rfl : l = [] := List.eq_nil_of_length_eq_zero (by omega)
    subst hc0
    clear h1 h2 h3
    go_enter Try.func50, Try.ntmps50
    go_wp2_with (first | ((with_reducible refine at_slot 4 ?_); (refine wpList_value (o := ⟨some 4, _, _, _, _, _⟩) rfl (.bool true) w (by kernel_rfl) ?_)))
    go_ret
    exact ⟨_, rfl, World.ownsRow_nil _ _ _ _, Below.refl _ _⟩
  | some ad =>
    clear h1 h2 h3
    have hs0 := (slice_src (L := Lay.int 5 .u8) (f := ib) (by decide) (fun {w B cs x} h => h.1) (fun k u hu => by rw [List.mem_singleton.1 hu]; rfl) h).2
    have HS := hide hs0
    clear hs0
    go_enter Try.func50, Try.ntmps50
    go_wp2_with (first | ((with_reducible refine at_slot 4 ?_); (refine wpList_value (o := ⟨some 4, _, _, _, _, _⟩) rfl (.bool false) w (by kernel_rfl) ?_)) | ((with_reducible refine at_slot 5 ?_); (refine wpList_newS (o := ⟨some 5, _, _, _, _, _⟩) rfl 0 5 #[] (by kernel_rfl) ?_); intro w1 hn; have hown : w1.ownsRow w.heap.size 5 1 (.slice (some ⟨w.heap.size, 0, none⟩) 0 0) 0 [] := ⟨rfl, .inr ⟨w.heap.size, 0, #[], rfl, Nat.le_refl _, hn.blk, Nat.le_refl _, Nat.zero_le _, rfl, rfl⟩⟩; have H1 := hide (And.intro hown (And.intro hn.below hn.size)); clear hn hown; simp only [Act.put, List.setIfInBounds_toArray, List.set_cons_zero, List.set_cons_succ]) | (at_builtin; ((with_reducible refine at_slot 7 ?_); refine wpList_appS (o := ⟨some 7, _, _, _, _, _⟩) rfl _ _ 32 rfl w.heap.size 5 inm _ 1 1 Try.underlying32 HJ.out.1 HJ.out.2.1 HJ.out.2.2.1 HJ.out.2.2.2 rfl (by decide) _ (0) ([]) H1.out.1 (some ad) l.length cap (l.flatMap ib) (HS.out.below H1.out.2.1) ?hm1 ?hb1 ?hz1 rfl rfl ?_)))
    case hm1 => simp only [maxLen]; omega
    case hb1 => omega
    case hz1 => exact H1.out.2.1.size
    intro u9 w9 own9 gr9 _
    have ho : w9.ownsRow w.heap.size 5 1 u9 l.length (l.flatMap ib) := by simpa using own9
    have H9 := hide (And.intro ho (H1.out.2.1.grown gr9 H1.out.2.1.size (fun k hk => (owned_ltN H1.out.1 hk).1)))
    clear ho own9 gr9
    go_wp2_with fail
    go_ret
    exact ⟨u9, rfl, H9.out⟩
end Go.Proofs.Ytidiepbmbbflhaa
end
section
namespace Go.Proofs.Ytidiepbmbbflhaa
open Go Go.RowKit Go.Maps
set_option maxRecDepth 100000
/-- a row of one's own, from a block on -/
def OwnR (B : Nat) (t : TypeId) (n k : Nat) (xs : List Value) (u : Value) (w : World) : Prop := w.ownsRow B t n u k xs
theorem ownR_ok (B : Nat) (t : TypeId) (n k : Nat) (xs : List Value) : Fre.MadeOk Bel (OwnR B t n k xs) := ⟨fun u w w' h hx => owned_keepN h fun g _ hl => Below.block hx g hl⟩
theorem DrvAt.okb9 {w : World} {B : Nat} {d : Drv} {v1 v2 : Value} (h : DrvAt w B d v1 v2) : ∀ x ∈ d.2.2, (Lit.int .u8 x).wf = true := fun x hx => by
  obtain ⟨A, cap, rfl, _, _, _, hA⟩ := slice_open h.rcp
  obtain ⟨j, hj⟩ := List.getElem?_of_mem hx
  obtain ⟨b, off, _, _, hE⟩ := hA (by have := (List.getElem?_eq_some_iff.1 hj).1; omega)
  obtain ⟨cs, _, hat⟩ := hE j x hj
  exact hat.2
set_option maxHeartbeats 1000000 in
theorem ownedC_any (w : World) (d : Drv) (v1 v2 : Value) (h : DrvAt w w.heap.size d v1 v2) (hl : d.2.1.length ≤ 1000000 ∧ d.2.2.length ≤ 1000000) :
    Calls Try.prog 40 #[.agg (dC d v1 v2).toArray] w fun e w' => ∃ u1 u2, e = .returned (.agg (dC d u1 u2).toArray) ∧ OwnDrv w' w.heap.size d u1 u2 ∧ Below w.heap.size w w' := by
  have HD := hide h
  clear h
  go_enter Try.func40, Try.ntmps40
  go_wp2_with (first | ((with_reducible refine at_slot 1 ?_); (refine wpList_boxA (o := ⟨some 1, _, _, _, _, _⟩) rfl 34 (.tmp 0) rfl (dC d v1 v2).toArray rfl ?_); intro w1 hn; have H1 := hide hn; clear hn; simp only [Act.put, List.setIfInBounds_toArray, List.set_cons_zero, List.set_cons_succ]) | ((with_reducible refine at_slot 2 ?_); (refine wpList_newZ (o := ⟨some 2, _, _, _, _, _⟩) rfl 34 zcD (by kernel_rfl) ?_); intro w2 hn; have H2 := hide (And.intro (H1.out.blk.below hn.below H1.out.blk.lt) (And.intro hn.blk (And.intro (H1.out.below.trans (Below.mono hn.below H1.out.below.size)) (And.intro (show w1.heap.size = w.heap.size + 1 from H1.out.size) (show w2.heap.size = w1.heap.size + 1 from hn.size))))); clear hn; simp only [Act.put, List.setIfInBounds_toArray, List.set_cons_zero, List.set_cons_succ]))
  refine Fre.wp_made (X := Bel) 7 [(5, OwnR w2.heap.size 72 43 d.2.1.length (d.2.1.flatMap nC)), (8, OwnR w2.heap.size 5 1 d.2.2.length (d.2.2.flatMap ib))] (by kernel_rfl) (by kernel_rfl) (by intro p hp; simp only [List.mem_cons, List.not_mem_nil, or_false] at hp; rcases hp with rfl | rfl <;> exact ownR_ok _ _ _ _ _) (by simp) (by simp) ?_
  simp only [List.take_succ_cons, List.take_zero, List.drop_succ_cons, List.drop_zero]
  refine Fre.made_val (.pointer (some ⟨w.heap.size, 1, none⟩)) (by kernel_rfl) (by kernel_rfl) (by kernel_rfl) (fun _ _ => by kernel_rfl) ?_
  simp only [Act.put, List.setIfInBounds_toArray, List.set_cons_zero, List.set_cons_succ]
  refine Fre.made_val (v1) (by kernel_rfl) (by kernel_rfl) (by kernel_rfl) (fun W9 hW9 => exec_load_cell (o := ⟨some 4, _, _, _, _, _⟩) 31 (.tmp 3) rfl ⟨w.heap.size, 1, none⟩ rfl _ _ W9 Try.underlying31 rfl ((H2.out.1.below hW9 H2.out.1.lt).cell 1)) ?_
  simp only [Act.put, List.setIfInBounds_toArray, List.set_cons_zero, List.set_cons_succ]
  refine Fre.made_newcall 5 _ 49 #[v1] (by kernel_rfl) (by kernel_rfl) rfl rfl (fun W => by kernel_rfl) (fun W hW => (cloneN_any W d.2.1 v1 (HD.out.alike9 (H2.out.2.2.1.trans (Below.mono hW H2.out.2.2.1.size))).ins hl.1).mono (fun e w' ⟨u, h1, h2, h3⟩ => ⟨u, h1, h3, owned_baseN h2 (fun g hg => Nat.le_trans (Below.size hW) (owned_ltN h2 hg).1)⟩)) ?_
  simp only [Act.put, List.setIfInBounds_toArray, List.set_cons_zero, List.set_cons_succ]
  refine Fre.made_val (.pointer (some ⟨w.heap.size, 2, none⟩)) (by kernel_rfl) (by kernel_rfl) (by kernel_rfl) (fun _ _ => by kernel_rfl) ?_
  simp only [Act.put, List.setIfInBounds_toArray, List.set_cons_zero, List.set_cons_succ]
  refine Fre.made_val (v2) (by kernel_rfl) (by kernel_rfl) (by kernel_rfl) (fun W9 hW9 => exec_load_cell (o := ⟨some 7, _, _, _, _, _⟩) 32 (.tmp 6) rfl ⟨w.heap.size, 2, none⟩ rfl _ _ W9 Try.underlying32 rfl ((H2.out.1.below hW9 H2.out.1.lt).cell 2)) ?_
  simp only [Act.put, List.setIfInBounds_toArray, List.set_cons_zero, List.set_cons_succ]
  refine Fre.made_newcall 8 _ 50 #[v2] (by kernel_rfl) (by kernel_rfl) rfl rfl (fun W => by kernel_rfl) (fun W hW => (cloneB_any W d.2.2 v2 (HD.out.alike9 (H2.out.2.2.1.trans (Below.mono hW H2.out.2.2.1.size))).rcp hl.2).mono (fun e w' ⟨u, h1, h2, h3⟩ => ⟨u, h1, h3, owned_baseN h2 (fun g hg => Nat.le_trans (Below.size hW) (owned_ltN h2 hg).1)⟩)) ?_
  simp only [Act.put, List.setIfInBounds_toArray, List.set_cons_zero, List.set_cons_succ]
  refine Fre.made_val (.pointer (some ⟨w.heap.size, 1, none⟩)) (by kernel_rfl) (by kernel_rfl) (by kernel_rfl) (fun _ _ => by kernel_rfl) ?_
  simp only [Act.put, List.setIfInBounds_toArray, List.set_cons_zero, List.set_cons_succ]
  intro w3 hx
  dsimp only [Fre.ended, List.drop]
  rintro u5 h5 u8 h8
  have hu5 : u5.oneCell' = true := by obtain ⟨A7, c7, rfl⟩ := own_form9 h5; rfl
  have hu8 : u8.oneCell' = true := by obtain ⟨A7, c7, rfl⟩ := own_form9 h8; rfl
  have H3 := hide (And.intro (H2.out.1.below hx H2.out.1.lt) (And.intro (H2.out.2.1.below hx H2.out.2.1.lt) (And.intro (H2.out.2.2.1.trans (Below.mono hx H2.out.2.2.1.size)) (And.intro (show w3.ownsRow _ _ _ _ _ _ from h5) (show w3.ownsRow _ _ _ _ _ _ from h8)))))
  clear h5 h8 hx
  go_wp2_with (first | ((with_reducible refine at_store 9 5 ?_); (refine wpList_store1 (o := ⟨none, _, _, _, _, _⟩) rfl 31 (.tmp 9) (.tmp 5) rfl w.heap.size (1) 34 (dC d v1 v2).toArray H3.out.1 (by show 1 < 3; omega) (by kernel_rfl) (u5) hu5 rfl rfl ?_); intro w4 hk hg hz; have o1 := owned_keepN H3.out.2.2.2.1 (fun q hq hl9 => hg.block q hl9 (fun e => by have := (owned_ltN H3.out.2.2.2.1 hq).1; have := Option.some.inj e; have := H2.out.2.2.2; omega)); have o2 := owned_keepN H3.out.2.2.2.2 (fun q hq hl9 => hg.block q hl9 (fun e => by have := (owned_ltN H3.out.2.2.2.2 hq).1; have := Option.some.inj e; have := H2.out.2.2.2; omega)); have H4 := hide (And.intro hk (And.intro (show Blk w4 w1.heap.size 34 zcD from (hg.block _ (Blk.lt H3.out.2.1) (fun e => by have := Option.some.inj e; have := H2.out.2.2.2; omega)).trans H3.out.2.1) (And.intro (H3.out.2.2.1.grown hg H3.out.2.2.1.size (fun q hq => by have := Option.some.inj hq; omega)) (And.intro o1 o2)))); clear hk hg hz o1 o2; simp only [Act.put, List.setIfInBounds_toArray, List.set_cons_zero, List.set_cons_succ]) | ((with_reducible refine at_store 10 8 ?_); (refine wpList_store1 (o := ⟨none, _, _, _, _, _⟩) rfl 32 (.tmp 10) (.tmp 8) rfl w.heap.size (2) 34 (dC d u5 v2).toArray H4.out.1 (by show 2 < 3; omega) (by kernel_rfl) (u8) hu8 rfl rfl ?_); intro w5 hk hg hz; have o1 := owned_keepN H4.out.2.2.2.1 (fun q hq hl9 => hg.block q hl9 (fun e => by have := (owned_ltN H4.out.2.2.2.1 hq).1; have := Option.some.inj e; have := H2.out.2.2.2; omega)); have o2 := owned_keepN H4.out.2.2.2.2 (fun q hq hl9 => hg.block q hl9 (fun e => by have := (owned_ltN H4.out.2.2.2.2 hq).1; have := Option.some.inj e; have := H2.out.2.2.2; omega)); have H5 := hide (And.intro hk (And.intro (show Blk w5 w1.heap.size 34 zcD from (hg.block _ (Blk.lt H4.out.2.1) (fun e => by have := Option.some.inj e; have := H2.out.2.2.2; omega)).trans H4.out.2.1) (And.intro (H4.out.2.2.1.grown hg H4.out.2.2.1.size (fun q hq => by have := Option.some.inj hq; omega)) (And.intro o1 o2)))); clear hk hg hz o1 o2; simp only [Act.put, List.setIfInBounds_toArray, List.set_cons_zero, List.set_cons_succ]) | ((with_reducible refine at_slot 11 ?_); (refine wpList_value (o := ⟨some 11, _, _, _, _, _⟩) rfl (.agg ((dC d u5 u8).toArray)) w5 (exec_load_blk (o := ⟨some 11, _, _, _, _, _⟩) 34 (.tmp 1) rfl w.heap.size rfl 34 _ _ w5 H5.out.1 Try.underlying34 rfl (by kernel_rfl)) ?_)) | ((with_reducible refine at_store 2 11 ?_); (with_reducible refine wpList_store_blkA (o := ⟨none, _, _, _, _, _⟩) rfl 34 (.tmp 2) (.tmp 11) rfl w1.heap.size zcD (dC d u5 u8).toArray 34 H5.out.2.1 ?_ ?_ ?_ ?_ ?_ ?_); kernel_rfl; rfl; (exact all_oneCell_toArray (fun v hv => by simp only [dC, List.mem_cons, List.not_mem_nil, or_false] at hv; rcases hv with rfl | rfl | rfl; rfl; exact hu5; exact hu8)); rfl; rfl; intro w9 hk9 hg9; have o1 := owned_keepN H5.out.2.2.2.1 (fun q hq hl9 => hg9.block q hl9 (fun e => by have := (owned_ltN H5.out.2.2.2.1 hq).1; have := Option.some.inj e; have := H2.out.2.2.2; omega)); have o2 := owned_keepN H5.out.2.2.2.2 (fun q hq hl9 => hg9.block q hl9 (fun e => by have := (owned_ltN H5.out.2.2.2.2 hq).1; have := Option.some.inj e; have := H2.out.2.2.2; omega)); have H9 := hide (And.intro hk9 (And.intro (H5.out.2.2.1.grown hg9 H5.out.2.2.1.size (fun q hq => by have := Option.some.inj hq; have := H2.out.2.2.2; omega)) (And.intro o1 o2))); clear hk9 hg9 o1 o2; simp only [Act.put, List.setIfInBounds_toArray, List.set_cons_zero, List.set_cons_succ]))
  refine bodyPost_ret (results_cell_row rfl _ _ w1.heap.size 34 (dC d u5 u8).toArray (0, 0) _ rfl H9.out.1 Try.underlying34 rfl (by kernel_rfl)) rfl ⟨u5, u8, rfl, ⟨HD.out.name, HD.out.okn, HD.out.okb9, owned_baseN H9.out.2.2.1 (fun g hg => by have := (owned_ltN H9.out.2.2.1 hg).1; have := H2.out.2.2.2; omega), owned_baseN H9.out.2.2.2 (fun g hg => by have := (owned_ltN H9.out.2.2.2 hg).1; have := H2.out.2.2.2; omega)⟩, H9.out.2.1⟩
end Go.Proofs.Ytidiepbmbbflhaa
end
section
namespace Go.Proofs.Ytidiepbmbbflhaa
open Go Go.RowKit Go.Maps
set_option maxRecDepth 100000
set_option maxHeartbeats 1000000 in
theorem copied_any (w : World) (l : List Itm) (A : Option Addr) (cap : Nat) (h : itmsLay.At w w.heap.size [.slice A l.length cap] l) (hl : ∀ x ∈ l, x.2.2.1.length ≤ 1000000 ∧ x.2.2.2.length ≤ 1000000) (hn : l.length ≤ 1000000) :
    Calls Try.prog 30 #[.slice A l.length cap] w fun e w' => ∃ u ls, e = .returned u ∧ ls.map (·.1) = l ∧ Mem w w' (itmsL w.heap.size u ls) := by
  obtain ⟨A', cap', e, _, _, _, hA⟩ := slice_open h
  injection e with e1 e2 e3
  subst e1 e3
  have HA := hide hA
  have HL := hide hl
  clear hA hl e2 h
  obtain ⟨inm, hih, hq0, hq1, hq2⟩ := info_parts info_itm2
  have HJ := hide (And.intro hih (And.intro hq0 (And.intro hq1 hq2)))
  clear hih hq0 hq1 hq2
  have H0 := hide (Mem.start w)
  go_enter Try.func30, Try.ntmps30
  go_wp2_with fail
  go_loopw [2, 7] (fun x2 x7 wr => ∃ (j : Nat) (ls : List ItmV) (u : Value), u = x2 ∧ j ≤ l.length ∧ x7 = .int .i64 (j : Int) ∧ ls.map (·.1) = l.take j ∧ Mem w wr [ownE w.heap.size 43 23 u ls.length (ls.flatMap tV), Ent.all ls (drvV w.heap.size)]) (fun _ x7 _ => l.length - (intOf x7).toNat)
  case atStart => exact ⟨0, [], _, rfl, by omega, rfl, rfl, (H0.out.allNil _).nilRow _ _ _⟩
  case round =>
    obtain ⟨wo, rfl⟩ : ∃ wo, wo = wr := ⟨_, rfl⟩
    obtain ⟨j, ls, u, rfl, hj, rfl, hls, hm⟩ := hrel
    have hlj : ls.length ≤ 1000000 := by have := congrArg List.length hls; rw [List.length_map, List.length_take] at this; omega
    have HM := hide hm
    have HLS := hide hls
    clear hm hls
    have j0 : (0 : Int) ≤ (j : Int) := by omega
    by_cases hj2 : j < l.length
    · have j1 : (j : Int) < (l.length : Int) := by omega
      obtain ⟨x, hx⟩ : ∃ x, l[j]? = some x := ⟨_, List.getElem?_eq_getElem hj2⟩
      obtain ⟨b, off, rfl, hlb, hE⟩ := HA.out (by omega)
      obtain ⟨cs, hr, hatx⟩ := hE j x hx
      obtain ⟨q1, q2, rfl, hxo, hxd⟩ := itmLay_at.1 hatx
      obtain ⟨hq1, hq2⟩ := hxd.ones
      have hbnd := HL.out x (List.mem_of_getElem? hx)
      have HX := hide (And.intro hr (And.intro hxo hxd))
      have HXX := hide hx
      have HLB := hide hlb
      clear hx hE hr hatx hxd
      go_wp2_with (first | ((with_reducible refine at_slot 9 ?_); (refine wpList_value (o := ⟨some 9, _, _, _, _, _⟩) rfl (.pointer (some ⟨b, off + (j : Int).toNat * 23, none⟩)) wo (exec_index_off (o := ⟨some 9, _, _, _, _, _⟩) 25 43 (.tmp 5) (.tmp 7) rfl b off l.length cap (j : Int) .i64 rfl rfl ⟨j0, j1⟩ 23 Try.underlying25 sz_itm wo) ?_; rw [show off + (j : Int).toNat * 23 = off + j * 23 by omega])) | ((with_reducible refine at_slot 10 ?_); (refine wpList_value (o := ⟨some 10, _, _, _, _, _⟩) rfl (.agg (tC x q1 q2).toArray) wo (exec_load_mid (o := ⟨some 10, _, _, _, _, _⟩) 43 (.tmp 9) rfl b (off + j * 23) rfl (tC x q1 q2) _ wo (Mem.range HM.out HX.out.1 HLB.out) Try.underlying43 rfl (tC_szl hxo)) ?_)) | ((with_reducible refine at_slot 4 ?_); (refine wpList_newZ (o := ⟨some 4, _, _, _, _, _⟩) rfl 43 zcT (by kernel_rfl) ?_); intro w1 hn; have H1 := hide (Mem.new1 HM.out hn); clear hn; simp only [Act.put, List.setIfInBounds_toArray, List.set_cons_zero, List.set_cons_succ]) | ((with_reducible refine at_store 4 10 ?_); (with_reducible refine wpList_store_blkA (o := ⟨none, _, _, _, _, _⟩) rfl 43 (.tmp 4) (.tmp 10) rfl wo.heap.size zcT (tC x q1 q2).toArray 43 (Mem.blk H1.out 0 rfl) ?_ ?_ ?_ ?_ ?_ ?_); (exact (tC_sz hxo)); (exact sz_eq zcT_sz (tC_sz hxo)); (exact (tC_1 x hq1 hq2)); rfl; rfl; intro w2 hk hg; have H2 := hide (Mem.st H1.out 0 rfl hk hg); clear hk hg; simp only [Act.put, List.setIfInBounds_toArray, List.set_cons_zero, List.set_cons_succ]))
      refine Fre.wp_made (X := Bel) 8 [(16, DrvU w2.heap.size x.2), (17, ItmU w2.heap.size x), (18, RowU w2.heap.size x)] (by kernel_rfl) (by kernel_rfl) (by intro p hp; simp only [List.mem_cons, List.not_mem_nil, or_false] at hp; rcases hp with rfl | rfl | rfl; exact drvU_ok _ _; exact itmU_ok _ _; exact rowU_ok _ _) (by simp) (by simp) ?_
      simp only [List.take_succ_cons, List.take_zero, List.drop_succ_cons, List.drop_zero]
      refine Fre.made_val (u) (by kernel_rfl) (by kernel_rfl) (by kernel_rfl) (fun _ _ => by kernel_rfl) ?_
      simp only [Act.put, List.setIfInBounds_toArray, List.set_cons_zero, List.set_cons_succ]
      refine Fre.made_val (.pointer (some ⟨wo.heap.size, 0, none⟩)) (by kernel_rfl) (by kernel_rfl) (by kernel_rfl) (fun _ _ => by kernel_rfl) ?_
      simp only [Act.put, List.setIfInBounds_toArray, List.set_cons_zero, List.set_cons_succ]
      refine Fre.made_val (.agg (bv x.1).toArray) (by kernel_rfl) (by kernel_rfl) (by kernel_rfl) (fun W9 hW9 => (exec_load_mid (o := ⟨some 13, _, _, _, _, _⟩) 27 (.tmp 12) rfl wo.heap.size (0) rfl (bv x.1) _ W9 (item_cls9 (Blk.range (Mem.blk (Mem.call H2.out hW9) 0 rfl))) Try.underlying27 rfl (hszL hxo))) ?_
      simp only [Act.put, List.setIfInBounds_toArray, List.set_cons_zero, List.set_cons_succ]
      refine Fre.made_val (.pointer (some ⟨wo.heap.size, 20, none⟩)) (by kernel_rfl) (by kernel_rfl) (by kernel_rfl) (fun _ _ => by kernel_rfl) ?_
      simp only [Act.put, List.setIfInBounds_toArray, List.set_cons_zero, List.set_cons_succ]
      refine Fre.made_val (.agg (dC x.2 q1 q2).toArray) (by kernel_rfl) (by kernel_rfl) (by kernel_rfl) (fun W9 hW9 => (exec_load_mid (o := ⟨some 15, _, _, _, _, _⟩) 34 (.tmp 14) rfl wo.heap.size (20) rfl (dC x.2 q1 q2) _ W9 (item_drv9 hxo (Blk.range (Mem.blk (Mem.call H2.out hW9) 0 rfl))) Try.underlying34 rfl (dC_szl x.2 q1 q2))) ?_
      simp only [Act.put, List.setIfInBounds_toArray, List.set_cons_zero, List.set_cons_succ]
      refine Fre.made_newcall 16 _ 40 #[.agg (dC x.2 q1 q2).toArray] (by kernel_rfl) (by kernel_rfl) rfl rfl (fun W => by kernel_rfl) (fun W hW => (ownedC_any W x.2 q1 q2 (HX.out.2.2.alike9 ((Mem.below H2.out).trans (Below.mono hW (Mem.below H2.out).size))) hbnd).mono (fun e w' ⟨u1, u2, h1, h2, h3⟩ => ⟨_, h1, h3, (u1, u2), rfl, h2.lower (Below.size hW)⟩)) ?_
      simp only [Act.put, List.setIfInBounds_toArray, List.set_cons_zero, List.set_cons_succ]
      refine Fre.made_new1 16 _ 17 _ (by kernel_rfl) rfl (by kernel_rfl) rfl rfl (fun u W hW hu => itmU_new (o := ⟨some 17, _, _, _, _, _⟩) (.tmp 13) (.tmp 16) rfl w2.heap.size hxo rfl rfl hu) ?_
      simp only [Act.put, List.setIfInBounds_toArray, List.set_cons_zero, List.set_cons_succ]
      refine Fre.made_new1 17 _ 18 _ (by kernel_rfl) rfl (by kernel_rfl) rfl rfl (fun u W hW hu => rowU_new (o := ⟨some 18, _, _, _, _, _⟩) (.tmp 17) rfl w2.heap.size hxo rfl hu (Below.size hW)) ?_
      simp only [Act.put, List.setIfInBounds_toArray, List.set_cons_zero, List.set_cons_succ]
      intro w3 hx
      dsimp only [Fre.ended, List.drop]
      rintro u16 _ u17 _ u18 ⟨r, p, rfl, _, hk, ho⟩
      have H3 := hide (Mem.new H2.out hx (drvE_ok w.heap.size x.2 p.1 p.2) (ho.lower (Mem.below H2.out).size) (fun b hf => drvE_lt ho hf))
      have hsr := box_srcN (n := 23) (m := 1) hk (tC_len hxo) (tC_one x (OwnDrv.ones ho).1 (OwnDrv.ones ho).2)
      have HSR := hide hsr
      clear hx hk ho hsr
      go_wp2_with (at_builtin; ((with_reducible refine at_slot 19 ?_); refine wpList_appS (o := ⟨some 19, _, _, _, _, _⟩) rfl _ _ 25 rfl w.heap.size 43 _ _ 23 88 Try.underlying25 HJ.out.1 HJ.out.2.1 HJ.out.2.2.1 HJ.out.2.2.2 rfl (by decide) (u) (ls.length) (ls.flatMap tV) (Mem.own H3.out 2 rfl) ((some ⟨r, 0, none⟩)) (1) (1) (tC x p.1 p.2) HSR.out ?hm1 ?hb1 ?hz1 rfl rfl ?_))
      case hm1 => simp only [maxLen]; omega
      case hb1 => omega
      case hz1 => exact (Mem.below H3.out).size
      intro u9 w4 own9 gr9 hp9
      have own8 : w4.ownsRow w.heap.size 43 23 u9 (ls ++ [(x, p)]).length ((ls ++ [(x, p)]).flatMap tV) := by simpa [tV] using own9
      have H4 := hide (Mem.app H3.out 2 rfl own8 gr9 hp9)
      clear own9 own8 gr9 hp9
      go_wp2_with fail
      go_roundw
      case rel => exact ⟨j + 1, ls ++ [(x, p)], u9, rfl, by omega, by go_num, (by rw [List.map_append, HLS.out, List.take_add_one, HXX.out]; rfl), Mem.pick (Mem.push (x := (x, p)) (f := drvV w.heap.size) (Mem.pick H4.out [0, 3, 2] (by decide) rfl) (drvV_ok _ _)) [1, 0] (by decide) rfl⟩
      case measure => simp [intOf]; omega
    · obtain rfl : j = l.length := by omega
      go_wp2_with fail
      go_ret
      exact ⟨u, ls, rfl, (by rw [HLS.out, List.take_length]), HM.out⟩
end Go.Proofs.Ytidiepbmbbflhaa
end
section
namespace Go.Proofs.Ytidiepbmbbflhaa.Two
open Go Go.RowKit
/-- what the head may do to the world -/
class RelOk (X : World → World → Prop) : Prop where
  refl : ∀ w, X w w
  trans : ∀ a b c, X a b → X b c → X a c
  drew : ∀ w, X w w.drew
def Ext (X : World → World → Prop) (w w' : World) : Prop := X w w'
theorem Ext.refl {X : World → World → Prop} [RelOk X] (w : World) : Ext X w w := RelOk.refl (X := X) w
theorem Ext.trans {X : World → World → Prop} [RelOk X] {a b c : World} (h : Ext X a b) (k : Ext X b c) : Ext X a c := RelOk.trans (X := X) a b c h k
theorem Ext.drew {X : World → World → Prop} [RelOk X] (w : World) : Ext X w w.drew := RelOk.drew (X := X) w
/-- what an operation may do, by the slot that it writes -/
class RelY (X : World → World → Prop) (Y : Option Tmp → World → World → Prop) : Prop where
  sub : ∀ d w w', Y d w w' → X w w'
  refl : ∀ d w, Y d w w
/-- what is made, slot by slot -/
abbrev Made := Tmp → Option (Value → World → Prop)

section
variable {P : Program} {ops : Array Oper} {md : Region.Mode} {F : Made} {w0 : World} {X : World → World → Prop} {Y : Option Tmp → World → World → Prop} [RelOk X] [RelY X Y]

/-- pairs of slots, the first one written behind the second one -/
def exB (md : Region.Mode) (ops : Array Oper) (ex : List (Tmp × Tmp)) : Bool := ex.all fun p => (List.range ops.size).all fun j => (List.range ops.size).all fun i => !((ops[j]?).bind (·.dst) == some p.1 && (ops[i]?).bind (·.dst) == some p.2) || Region.waitsFor md ops j i
/-- what is so of a made thing stays so -/
def stays (Y : Option Tmp → World → World → Prop) (ex : List (Tmp × Tmp)) (F : Made) : Prop := ∀ t V, F t = some V → ∀ d, d ≠ some t → (∀ s, (t, s) ∈ ex → d ≠ some s) → ∀ u w w', V u w → Y d w w' → V u w'

/-- an operation hands on one value -/
def quietTo (Y : Option Tmp → World → World → Prop) (P : Program) (d : Option Tmp) (v : Value) (w : World) : Result Next → Prop
  | .ok (.value u) w' => w' = w ∧ u = v
  | .ok .skip w' => w' = w ∧ v = undef
  | .ok (.enter f args) w' => w' = w ∧ Calls P f args w (fun e w'' => e = .returned v ∧ Y d w w'')
  | _ => False
/-- an operation makes something -/
def freshTo (Y : Option Tmp → World → World → Prop) (P : Program) (d : Option Tmp) (V : Value → World → Prop) (w : World) : Result Next → Prop
  | .ok (.value u) w' => Y d w w' ∧ V u w'
  | .ok (.enter f args) w' => w' = w ∧ Calls P f args w (fun e w'' => ∃ u, e = .returned u ∧ Y d w w'' ∧ V u w'')
  | _ => False
/-- the one or the other -/
def makesTo (Y : Option Tmp → World → World → Prop) (P : Program) (d : Option Tmp) (V? : Option (Value → World → Prop)) (v : Value) (w : World) (r : Result Next) : Prop :=
  match V? with
  | some V => v = undef ∧ freshTo Y P d V w r
  | none => quietTo Y P d v w r

/-- frames that are one but for made slots -/
def Same (F : Made) (a b : Act) : Prop := a.defers = b.defers ∧ a.tmps.size = b.tmps.size ∧ ∀ t, F t = none → a.tmps[t]? = b.tmps[t]?

/-- the made slots that are looked at hold what they should -/
def Holds (F : Made) (l : List Tmp) (b : Act) (w : World) : Prop := ∀ t ∈ l, ∀ V, F t = some V → ∃ u, b.tmps[t]? = some u ∧ V u w

/-- what an operation does in whatever frame that is as 'a' but for made slots, and whose made slots that it looks at hold what they should -/
def Does (X : World → World → Prop) (Y : Option Tmp → World → World → Prop) (P : Program) (ops : Array Oper) (F : Made) (w0 : World) (o : Oper) (v : Value) (a : Act) : Prop :=
  ∀ b w, Ext X w0 w → Same F b a → Holds F (o.looksAt ops) b w →
    (Region.wanted o (yielded ops b.tmps) = true → makesTo Y P o.dst (o.dst.bind F) v w ((execOp b.eval o).run P w)) ∧
    (Region.wanted o (yielded ops b.tmps) = false → v = undef ∧ o.dst.bind F = none)

theorem tmps_put (a : Act) (d : Tmp) (x : Value) (t : Tmp) (h : t ≠ d) : (a.put (some d) x).tmps[t]? = a.tmps[t]? := by
  simp only [Act.put]
  rw [Array.getElem?_setIfInBounds_ne (Ne.symm h)]
theorem size_put (a : Act) (dst : Option Tmp) (x : Value) : (a.put dst x).tmps.size = a.tmps.size := by cases dst <;> simp [Act.put]
theorem defers_put (a : Act) (dst : Option Tmp) (x : Value) : (a.put dst x).defers = a.defers := by cases dst <;> rfl
theorem tmps_put_at (a : Act) (d : Tmp) (x : Value) : (a.put (some d) x).tmps[d]? = if d < a.tmps.size then some x else none := by
  simp only [Act.put, Array.getElem?_setIfInBounds, if_true]
theorem Same.put {a b : Act} (h : Same F a b) (dst : Option Tmp) (x : Value) : Same F (a.put dst x) (b.put dst x) := by
  refine ⟨by rw [defers_put, defers_put, h.1], by rw [size_put, size_put, h.2.1], fun t ht => ?_⟩
  cases dst with
  | none => exact h.2.2 t ht
  | some d =>
    by_cases e : t = d
    · subst e
      rw [tmps_put_at, tmps_put_at, h.2.1]
    · rw [tmps_put _ _ _ _ e, tmps_put _ _ _ _ e]
      exact h.2.2 t ht

theorem Holds.put {l : List Tmp} {b : Act} {w : World} (dst : Option Tmp) (x : Value) (hl : ∀ d, dst = some d → d ∉ l) : Holds F l (b.put dst x) w ↔ Holds F l b w := by
  unfold Holds
  constructor
  · intro h t ht V hV
    obtain ⟨u, hu, hv⟩ := h t ht V hV
    refine ⟨u, ?_, hv⟩
    cases dst with
    | none => exact hu
    | some d => rwa [tmps_put _ _ _ _ (fun e => hl d rfl (by rw [← e]; exact ht))] at hu
  · intro h t ht V hV
    obtain ⟨u, hu, hv⟩ := h t ht V hV
    refine ⟨u, ?_, hv⟩
    cases dst with
    | none => exact hu
    | some d => rw [tmps_put _ _ _ _ (fun e => hl d rfl (by rw [← e]; exact ht))]; exact hu

omit [RelOk X] [RelY X Y] in
/-- another slot makes no difference -/
theorem Does.of_put {o : Oper} (hs : ∀ cs b, o.op ≠ .select cs b) {v : Value} {a : Act} {dst : Option Tmp} {x : Value} (hd : ∀ d, dst = some d → d ∉ o.looksAt ops) (h : Does X Y P ops F w0 o v (a.put dst x)) : Does X Y P ops F w0 o v a := by
  intro b w hw hb hh
  have h2 := h (b.put dst x) w hw (hb.put dst x) ((Holds.put dst x hd).2 hh)
  rwa [wanted_put o b dst x hd, execOp_put o hs b dst x hd] at h2
omit [RelOk X] [RelY X Y] in
theorem Does.put {o : Oper} (hs : ∀ cs b, o.op ≠ .select cs b) {v : Value} {a : Act} {dst : Option Tmp} {x : Value} (hd : ∀ d, dst = some d → d ∉ o.looksAt ops) (h : Does X Y P ops F w0 o v a) : Does X Y P ops F w0 o v (a.put dst x) := by
  cases dst with
  | none => exact h
  | some d =>
    intro b w hw hb hh
    have hsame : Same F (b.put (some d) (a.tmps.getD d undef)) a := by
      refine ⟨by rw [defers_put, hb.1, defers_put], by rw [size_put, hb.2.1, size_put], fun t ht => ?_⟩
      by_cases e : t = d
      · subst e
        rw [tmps_put_at, hb.2.1, size_put]
        split
        · rename_i hlt; simp [hlt]
        · rename_i hlt; rw [Array.getElem?_eq_none (Nat.le_of_not_lt hlt)]
      · rw [tmps_put _ _ _ _ e, hb.2.2 t ht, tmps_put _ _ _ _ e]
    have h2 := h (b.put (some d) (a.tmps.getD d undef)) w hw hsame ((Holds.put (some d) _ hd).2 hh)
    rwa [wanted_put o b (some d) _ hd, execOp_put o hs b (some d) _ hd] at h2

def absOp (X : World → World → Prop) (Y : Option Tmp → World → World → Prop) (P : Program) (ops : Array Oper) (F : Made) (w0 : World) (i : Nat) (K : Act → Prop) (a : Act) : Prop :=
  match ops[i]? with
  | none => K a
  | some o => ∃ v, Does X Y P ops F w0 o v a ∧ K (a.put o.dst v)
omit [RelOk X] [RelY X Y] in
theorem absOp_mono {i : Nat} {a : Act} {K K' : Act → Prop} (h : ∀ a, K a → K' a) (hh : absOp X Y P ops F w0 i K a) : absOp X Y P ops F w0 i K' a := by
  unfold absOp at *
  cases ho : ops[i]? with
  | none => simp only [ho] at hh; exact h _ hh
  | some o =>
    simp only [ho] at hh
    obtain ⟨v, h1, h2⟩ := hh
    exact ⟨v, h1, h _ h2⟩

omit [RelOk X] [RelY X Y] in
theorem absOp_put {j : Nat} {oi oj : Oper} {v : Value} (hj : ops[j]? = some oj) (hap : oi.apart ops oj = true)
    (hsi : ∀ cs b, oi.op ≠ .select cs b) (hsj : ∀ cs b, oj.op ≠ .select cs b) {K : Act → Prop} {a : Act}
    (hy : Does X Y P ops F w0 oi v a) (h : absOp X Y P ops F w0 j K (a.put oi.dst v)) :
    absOp X Y P ops F w0 j (fun a' => Does X Y P ops F w0 oi v a' ∧ K (a'.put oi.dst v)) a := by
  obtain ⟨h1, h2, h3⟩ := Oper.apart_spec hap
  unfold absOp at *
  simp only [hj] at *
  obtain ⟨u, hu, hk⟩ := h
  exact ⟨u, hu.of_put hsj h1, hy.put hsi h3, by rw [← Act.put_comm a v u h2]; exact hk⟩

/-- whatever order the head is taken in, L holds when it is done -/
def headF (X : World → World → Prop) (Y : Option Tmp → World → World → Prop) (P : Program) (md : Region.Mode) (ops : Array Oper) (F : Made) (w0 : World) (n : Nat) (L : Array Bool → Act → Prop) : Nat → Array Bool → Act → Prop
  | 0, d, a => L d a
  | f + 1, d, a => Region.ready md ops d ≠ [] ∧ ∀ i ∈ Region.ready md ops d, i < n ∧ absOp X Y P ops F w0 i (headF X Y P md ops F w0 n L f (d.setIfInBounds i true)) a

omit [RelOk X] [RelY X Y] in
theorem headF_first {n i : Nat} {oi : Oper} {v : Value} {L : Array Bool → Act → Prop} (hi : ops[i]? = some oi) (hsel : ∀ (j : Nat) (o : Oper) cs b, ops[j]? = some o → o.op ≠ .select cs b)
    (hs : Region.sinkB md ops n = true) (hc : Region.chainB md ops n = true) (hn : n < ops.size) (hin : i < n) (hdone : ∀ d a, L d a → ∀ j ∈ Region.ready md ops d, n ≤ j) (f : Nat) :
    ∀ (d : Array Bool) (a : Act), HeadInv md ops n d →
      (∀ j oj, ops[j]? = some oj → j ≠ i → d.getD j true = false → (∀ e ∈ oj.after, Region.binds md e = true → e.on ≠ i) → oi.apart ops oj = true) →
      i ∈ Region.ready md ops d → Does X Y P ops F w0 oi v a →
      headF X Y P md ops F w0 n L f (d.setIfInBounds i true) (a.put oi.dst v) → headF X Y P md ops F w0 n L (f + 1) d a := by
  have own : ∀ (K : Act → Prop) (a : Act), Does X Y P ops F w0 oi v a → K (a.put oi.dst v) → absOp X Y P ops F w0 i K a := by
    intro K a hy hk
    unfold absOp
    simp only [hi]
    exact ⟨v, hy, hk⟩
  induction f with
  | zero =>
    intro d a inv _ hr hy H
    refine ⟨List.ne_nil_of_mem hr, fun j hj => ?_⟩
    have hjn := headQ_lt hs hc hn inv hin (mem_ready.1 hr).1 hj
    refine ⟨hjn, ?_⟩
    rcases Nat.decEq j i with hji | hji
    · exact absurd (hdone _ _ H j (ready_mono hj hji)) (by omega)
    · subst hji
      exact own _ _ hy H
  | succ f ih =>
    intro d a inv hfree hr hy H
    refine ⟨List.ne_nil_of_mem hr, fun j hj => ?_⟩
    have hjn := headQ_lt hs hc hn inv hin (mem_ready.1 hr).1 hj
    refine ⟨hjn, ?_⟩
    rcases Nat.decEq j i with hji | hji
    · obtain ⟨hjun, oj, hoj, hall⟩ := mem_ready.1 hj
      have hnot : ∀ e ∈ oj.after, Region.binds md e = true → e.on ≠ i := by
        intro e he hb heq
        have h1 := hall e he hb
        rw [heq, getD_both (mem_ready.1 hr).1] at h1
        cases h1
      have hstep := absOp_put hoj (hfree j oj hoj hji hjun hnot) (fun cs b => hsel i oi cs b hi) (fun cs b => hsel j oj cs b hoj) hy (H.2 j (ready_mono hj hji)).2
      refine absOp_mono (fun a' h3 => ih (d.setIfInBounds j true) a' (inv.set hj hjn) ?_ (ready_mono hr (Ne.symm hji)) h3.1 ?_) hstep
      · intro k ok hk hki hunk hno
        refine hfree k ok hk hki ?_ hno
        rcases Nat.decEq j k with hjk | hjk
        · rwa [getD_set_ne true hjk] at hunk
        · subst hjk
          exact hjun
      · rw [Array.setIfInBounds_comm _ _ hji]
        exact h3.2
    · subst hji
      exact own _ _ hy H

/-- the walk in the text's order -/
def wpMade (X : World → World → Prop) (Y : Option Tmp → World → World → Prop) (P : Program) (ops : Array Oper) (F : Made) (w0 : World) (Q : Act → Prop) : List Oper → Act → Prop
  | [], a => Q a
  | o :: rest, a => ∃ v, Does X Y P ops F w0 o v a ∧ wpMade X Y P ops F w0 Q rest (a.put o.dst v)

omit [RelOk X] [RelY X Y] in
theorem headF_lex {n g : Nat} {Lq : Act → Prop} (hsel : Region.noSelect ops = true) (hs : Region.sinkB md ops n = true) (hc : Region.chainB md ops n = true) (hn : n < ops.size) :
    ∀ (l : List Oper) (k : Nat) (d : Array Bool) (a : Act), (∀ j, j < l.length → l[j]? = ops[k + j]?) → k + l.length = n → HeadInv md ops n d → (∀ i, i < k → d.getD i false = true) →
    Region.lexHead md ops g l.length k d = true → wpMade X Y P ops F w0 Lq l a →
    headF X Y P md ops F w0 n (fun d' a' => (Region.seqB md ops g n d' = true ∧ ∀ i, i < n → d'.getD i false = true) ∧ Lq a') l.length d a
  | [], k, d, a, _, hk, _, hd, hB, h => by
    obtain rfl : k = n := by simpa using hk
    exact ⟨⟨by simpa [Region.lexHead] using hB, hd⟩, h⟩
  | o :: l, k, d, a, hl, hk, inv, hd, hB, h => by
    have h0 : ops[k]? = some o := by simpa using (hl 0 (by simp)).symm
    simp only [List.length_cons, Region.lexHead, Bool.and_eq_true] at hB
    obtain ⟨⟨hr, hf⟩, hB'⟩ := hB
    have hkn : k < n := by simp only [List.length_cons] at hk; omega
    have hr' : k ∈ Region.ready md ops d := by simpa using hr
    obtain ⟨v, hy, hK⟩ := h
    refine headF_first h0 (Region.noSelect_spec hsel) hs hc hn hkn (fun d' a' hL => seqB_ready hL.1.1) l.length d a inv (Region.free_spec h0 hf) hr' hy ?_
    refine headF_lex hsel hs hc hn l (k + 1) _ _ (fun j hj => ?_) (by simp only [List.length_cons] at hk; omega) (inv.set hr' hkn) (fun i hi => ?_) hB' hK
    · have := hl (j + 1) (by simp; omega)
      simpa [Nat.add_assoc, Nat.add_comm 1 j] using this
    · by_cases e : k = i
      · subst e
        have : k < d.size := by rw [inv.size]; omega
        simp [this]
      · rw [getD_set_ne false e]
        exact hd i (by omega)

/-- made slots that are looked at have been made -/
def madeB (md : Region.Mode) (ops : Array Oper) (keys : List Tmp) (n : Nat) : Bool :=
  (List.range n).all fun j => match ops[j]? with
    | none => true
    | some o => (o.looksAt ops).all fun t => !keys.contains t || (List.range n).any fun i => (ops[i]?).bind (·.dst) == some t && Region.waitsFor md ops j i
/-- all made slots are made by the head -/
def allMadeB (ops : Array Oper) (keys : List Tmp) (n : Nat) : Bool := keys.all fun t => (List.range n).any fun i => (ops[i]?).bind (·.dst) == some t

def Sim (X : World → World → Prop) (ops : Array Oper) (F : Made) (w0 : World) (d : Array Bool) (a b : Act) (w : World) : Prop :=
  Ext X w0 w ∧ Same F b a ∧ ∀ i o t V, ops[i]? = some o → d.getD i false = true → o.dst = some t → F t = some V → ∃ u, b.tmps[t]? = some u ∧ V u w

theorem any_of_headF {n g : Nat} {keys : List Tmp} (ex : List (Tmp × Tmp)) (hex : exB md ops ex = true) (hF : stays Y ex F) (hkeys : ∀ t V, F t = some V → t ∈ keys) (hmade : madeB md ops keys n = true) (hsz : ∀ t ∈ keys, ∀ a : Act, ∀ b : Act, Same F b a → True)
    {L : Array Bool → Act → Prop} {Q' : Exit → Act → World → Prop} {size : Nat} (hrange : ∀ t V, F t = some V → t < size)
    (hL : ∀ d a b w, b.tmps.size = size → Sim X ops F w0 d a b w → L d a → wpAny P md ops Q' g d b w) :
    ∀ (f : Nat) (d : Array Bool) (a b : Act) (w : World), b.tmps.size = size → HeadInv md ops n d → Sim X ops F w0 d a b w → headF X Y P md ops F w0 n L f d a → wpAny P md ops Q' (f + g) d b w
  | 0, d, a, b, w, hb, _, hs, h => by
    rw [Nat.zero_add]
    exact hL _ _ _ _ hb hs h
  | f + 1, d, a, b, w, hb, inv, hs, h => by
    rw [Nat.add_right_comm]
    refine ⟨fun he => absurd he h.1, fun i hi => ?_⟩
    obtain ⟨hin, hop⟩ := h.2 i hi
    obtain ⟨hun, oi, hoi, hall⟩ := mem_ready.1 hi
    obtain ⟨hw, hsame, hV⟩ := hs
    unfold absOp at hop
    simp only [hoi] at hop
    obtain ⟨v, hdo, hk⟩ := hop
    -- the made slots that it looks at
    have hhold : Holds F (oi.looksAt ops) b w := by
      intro t ht V hFt
      have h1 := List.all_eq_true.1 hmade i (List.mem_range.2 hin)
      simp only [hoi] at h1
      have h2 := List.all_eq_true.1 h1 t ht
      have hk2 : keys.contains t = true := by simpa using hkeys t V hFt
      simp only [hk2, Bool.not_true, Bool.false_or] at h2
      obtain ⟨j, _, hj2⟩ := List.any_eq_true.1 h2
      simp only [Bool.and_eq_true, beq_iff_eq] at hj2
      obtain ⟨hj3, hj4⟩ := hj2
      obtain ⟨oi', hoi', e, he, hbd, hon⟩ := Region.waitsFor_spec hj4
      obtain rfl : oi' = oi := Option.some.inj (hoi'.symm.trans hoi)
      cases hoj : ops[j]? with
      | none => simp [hoj] at hj3
      | some oj =>
        have hdst : oj.dst = some t := by simpa [hoj] using hj3
        exact (hV j oj t V hoj (by have := hall e he hbd; rwa [hon] at this) hdst hFt)
    obtain ⟨hyes, hno⟩ := hdo b w hw hsame hhold
    have nope : ∀ (j : Nat) (oj : Oper) (t s : Tmp), ops[j]? = some oj → d.getD j false = true → oj.dst = some t → (t, s) ∈ ex → oi.dst = some s → False := by
      intro j oj t s hoj hdn hdj hs heq
      have h1 := List.all_eq_true.1 (List.all_eq_true.1 (List.all_eq_true.1 hex (t, s) hs) j (List.mem_range.2 (Array.getElem?_eq_some_iff.1 hoj).1)) i (List.mem_range.2 (Array.getElem?_eq_some_iff.1 hoi).1)
      simp only [hoj, hoi, Option.bind_some, hdj, heq, beq_self_eq_true, Bool.and_self, Bool.not_true, Bool.false_or] at h1
      obtain ⟨oj', hoj', e, he, hbd, hon⟩ := Region.waitsFor_spec h1
      obtain rfl : oj' = oj := Option.some.inj (hoj'.symm.trans hoj)
      have h2 := inv.closed j oj' hoj hdn e he hbd
      rw [hon, getD_both hun] at h2
      cases h2
    -- the next state
    have next : ∀ (x : Value) (w' : World), Y oi.dst w w' → (∀ t V, oi.dst = some t → F t = some V → V x w') → (oi.dst.bind F = none → x = v) →
        wpAny P md ops Q' (f + g) (d.setIfInBounds i true) (b.put oi.dst x) w' := by
      intro x w' hx hVx hxv
      refine any_of_headF ex hex hF hkeys hmade hsz hrange hL f _ (a.put oi.dst v) _ w' (by rw [size_put]; exact hb) (inv.set hi hin) ⟨hw.trans (show Ext X w w' from RelY.sub (X := X) (Y := Y) oi.dst w w' hx), ?_, ?_⟩ hk
      · refine ⟨by rw [defers_put, defers_put, hsame.1], by rw [size_put, size_put, hsame.2.1], fun t ht => ?_⟩
        cases hd : oi.dst with
        | none => exact hsame.2.2 t ht
        | some dd =>
          by_cases e : t = dd
          · subst e
            rw [hxv (by simp [hd, ht]), tmps_put_at, tmps_put_at, hsame.2.1]
          · rw [tmps_put _ _ _ _ e, tmps_put _ _ _ _ e]
            exact hsame.2.2 t ht
      · -- what stands in a slot of the next frame
        have at_new : ∀ t V, oi.dst = some t → F t = some V → (b.put oi.dst x).tmps[t]? = some x := by
          intro t V e hFt
          rw [e, tmps_put_at, if_pos (by rw [hb]; exact hrange t V hFt)]
        have at_old : ∀ t, oi.dst ≠ some t → (b.put oi.dst x).tmps[t]? = b.tmps[t]? := by
          intro t e
          cases hd : oi.dst with
          | none => rfl
          | some dd => exact tmps_put _ _ _ _ (fun e3 => e (by rw [hd, e3]))
        have was : ∀ j oj t V, ops[j]? = some oj → (d.setIfInBounds i true).getD j false = true → oj.dst = some t → F t = some V → oi.dst ≠ some t → d.getD j false = true := by
          intro j oj t V hoj hlj hdj hFt e
          have hji : j ≠ i := by
            intro e2
            subst e2
            obtain rfl : oj = oi := Option.some.inj (hoj.symm.trans hoi)
            exact e hdj
          rwa [getD_set_ne false (Ne.symm hji)] at hlj
        intro j oj t V hoj hlj hdj hFt
        by_cases e : oi.dst = some t
        · exact ⟨x, at_new t V e hFt, hVx t V e hFt⟩
        · obtain ⟨u, hu, hVu⟩ := hV j oj t V hoj (was j oj t V hoj hlj hdj hFt e) hdj hFt
          exact ⟨u, by rw [at_old t e]; exact hu, hF t V hFt oi.dst e (fun s hs heq => nope j oj t s hoj (was j oj t V hoj hlj hdj hFt e) hdj hs heq) u w w' hVu hx⟩
    unfold wpOp
    simp only [hoi]
    by_cases hwt : Region.wanted oi (yielded ops b.tmps) = true
    · rw [if_pos hwt]
      refine .inl ?_
      have hm := hyes hwt
      unfold Oper.wp
      generalize (execOp b.eval oi).run P w = r at hm
      cases hbind : oi.dst.bind F with
      | none =>
        simp only [makesTo, hbind] at hm
        have hVx : ∀ (x : Value) (w' : World) t V, oi.dst = some t → F t = some V → V x w' := by
          intro x w' t V h1 h2
          simp [h1, h2] at hbind
        cases r with
        | halt x w' => exact hm.elim
        | ok nx w' =>
          cases nx <;> simp only [quietTo] at hm
          case value u =>
            obtain ⟨rfl, rfl⟩ := hm
            exact next _ _ (RelY.refl X oi.dst _) (hVx _ _) (fun _ => rfl)
          case skip =>
            obtain ⟨rfl, rfl⟩ := hm
            exact next _ _ (RelY.refl X oi.dst _) (hVx _ _) (fun _ => rfl)
          case enter fn args =>
            obtain ⟨rfl, hcall⟩ := hm
            refine hcall.mono ?_
            rintro e w'' ⟨rfl, hx⟩
            exact next _ _ hx (hVx _ _) (fun _ => rfl)
      | some V =>
        simp only [makesTo, hbind] at hm
        obtain ⟨_, hm⟩ := hm
        have hnone : oi.dst.bind F = none → ∀ x : Value, x = v := fun h => by rw [hbind] at h; cases h
        have hVx : ∀ (x : Value) (w' : World), V x w' → ∀ t V', oi.dst = some t → F t = some V' → V' x w' := by
          intro x w' hx t V' h1 h2
          simp only [h1, Option.bind_some, h2, Option.some.injEq] at hbind
          rw [hbind]; exact hx
        cases r with
        | halt x w' => exact hm.elim
        | ok nx w' =>
          cases nx <;> simp only [freshTo] at hm
          case value u => exact next _ _ hm.1 (hVx _ _ hm.2) (fun h => hnone h _)
          case enter fn args =>
            obtain ⟨rfl, hcall⟩ := hm
            refine hcall.mono ?_
            rintro e w'' ⟨u, rfl, hx, hVu⟩
            exact next _ _ hx (hVx _ _ hVu) (fun h => hnone h _)
    · rw [if_neg hwt]
      have h3 := hno (by simpa using hwt)
      refine next _ _ (RelY.refl X oi.dst _) ?_ (fun _ => h3.1.symm)
      intro t V h1 h2
      have h4 := h3.2
      simp [h1, h2] at h4

/-- THE LAW. -/
theorem wp_made_tail_any {Q : Exit → Act → World → Prop} {a : Act} {w : World} {l : List Oper} (n : Nat) (keys : List Tmp) (ex : List (Tmp × Tmp)) (hex : exB .any l.toArray ex = true) (F : Made) (_ : P.follows .mixedOrders = true)
    (hB : (Region.lexTailB .any l.toArray n && madeB .any l.toArray keys n && allMadeB l.toArray keys n) = true) (hkeys : ∀ t V, F t = some V → t ∈ keys) (hF : stays Y ex F) (hrange : ∀ t ∈ keys, t < a.tmps.size)
    (h : wpMade X Y P l.toArray F w (fun a' => ∀ b w', Ext X w w' → Same F b a' → (∀ t V, F t = some V → ∃ u, b.tmps[t]? = some u ∧ V u w') → wpList P l.toArray Q (l.drop n) b w') (l.take n) a) :
    wpAny P .any l.toArray Q l.toArray.size (Array.replicate l.toArray.size false) a w.drew := by
  simp only [Bool.and_eq_true] at hB
  obtain ⟨⟨hB, hmade⟩, hallm⟩ := hB
  simp only [Region.lexTailB, Bool.and_eq_true, decide_eq_true_eq] at hB
  obtain ⟨⟨⟨⟨hsel, hn⟩, hs⟩, hc⟩, hlex⟩ := hB
  have hn' : n < l.length := by simpa using hn
  have htl : (l.take n).length = n := by simp; omega
  have hdl : (l.drop n).length = l.toArray.size - n := by simp
  have inv0 : HeadInv .any l.toArray n (Array.replicate l.toArray.size false) :=
    ⟨by simp, fun j oj _ hl => (by rw [getD_replicate_false] at hl; cases hl), fun t _ ht => getD_in (by simpa using ht) (getD_replicate_false _ _)⟩
  have H := headF_lex (md := .any) (g := l.toArray.size - n) hsel hs hc hn (l.take n) 0 _ a (fun j hj => by
    have hj' : j < n := by rw [htl] at hj; exact hj
    simp [hj']) (by simpa using htl) inv0 (fun i hi => absurd hi (Nat.not_lt_zero _)) (by rw [htl]; exact hlex) h
  have hfin := any_of_headF (Q' := Q) (g := l.toArray.size - n) (size := a.tmps.size) ex hex hF hkeys hmade (fun _ _ _ _ _ => trivial) (fun t V h => hrange t (hkeys t V h)) (fun d a' b w' _ hsim hL => by
    have mk : ∀ t V, F t = some V → ∃ i oi, l.toArray[i]? = some oi ∧ d.getD i false = true ∧ oi.dst = some t := by
      intro t V hFt
      have h5 := List.all_eq_true.1 hallm t (hkeys t V hFt)
      obtain ⟨i, hi, hi2⟩ := List.any_eq_true.1 h5
      simp only [beq_iff_eq] at hi2
      cases hoi : l.toArray[i]? with
      | none => simp [hoi] at hi2
      | some oi => exact ⟨i, oi, hoi, hL.1.2 i (List.mem_range.1 hi), by simpa [hoi] using hi2⟩
    have h2 := hL.2 b w' hsim.1 hsim.2.1 (fun t V hFt => by
      obtain ⟨i, oi, hoi, hdn, hdst⟩ := mk t V hFt
      exact hsim.2.2 i oi t V hoi hdn hdst hFt)
    have h4 := wpAny_of_seq (md := .any) (Q' := Q) (l.drop n) n d b w' (fun j => by simp [List.getElem?_drop]) (by rw [hdl]; exact hL.1.1) h2
    rwa [hdl] at h4) _ _ a a w.drew rfl inv0 ⟨Ext.drew w, ⟨rfl, rfl, fun _ _ => rfl⟩, fun i o t V _ hd => by rw [getD_replicate_false] at hd; cases hd⟩ H
  rw [htl, show n + (l.toArray.size - n) = l.toArray.size by omega] at hfin
  exact hfin

theorem wp_made_tail {id : Nat} {Q : Exit → Act → World → Prop} {a : Act} {w : World} {l : List Oper} (n : Nat) (keys : List Tmp) (ex : List (Tmp × Tmp)) (hex : exB .any l.toArray ex = true) (F : Made) (hm : P.follows .mixedOrders = true)
    (hB : (Region.lexTailB .any l.toArray n && madeB .any l.toArray keys n && allMadeB l.toArray keys n) = true) (hkeys : ∀ t V, F t = some V → t ∈ keys) (hF : stays Y ex F) (hrange : ∀ t ∈ keys, t < a.tmps.size)
    (h : wpMade X Y P l.toArray F w (fun a' => ∀ b w', Ext X w w' → Same F b a' → (∀ t V, F t = some V → ∃ u, b.tmps[t]? = some u ∧ V u w') → wpList P l.toArray Q (l.drop n) b w') (l.take n) a) :
    (Code.region id l.toArray true).wp P Q a w := wp_region_any hm (wp_made_tail_any n keys ex hex F hm hB hkeys hF hrange h)

/- FOR THE WALK -/
theorem Same.fix {a b : Act} {t : Tmp} {u : Value} (h : Same F b a) (hu : b.tmps[t]? = some u) : Same (fun s => if s = t then none else F s) b (a.put (some t) u) := by
  have ht : t < b.tmps.size := by
    rcases Nat.lt_or_ge t b.tmps.size with h | h
    · exact h
    · rw [Array.getElem?_eq_none h] at hu; cases hu
  refine ⟨by rw [defers_put]; exact h.1, by rw [size_put]; exact h.2.1, fun s hs => ?_⟩
  by_cases e : s = t
  · subst e
    rw [tmps_put_at, if_pos (by rw [← h.2.1]; exact ht), hu]
  · rw [tmps_put _ _ _ _ e]
    exact h.2.2 s (by simpa [e] using hs)
theorem Same.eq {a b : Act} (h : Same F b a) (hF : ∀ s, F s = none) : b = a := by
  obtain ⟨bt, bd⟩ := b
  obtain ⟨at', ad⟩ := a
  obtain ⟨h1, _, h3⟩ := h
  have h4 : bt = at' := Array.ext_getElem? fun i => h3 i (hF i)
  cases h1; cases h4; rfl
theorem Same.eval {a b : Act} (h : Same F b a) {x : Operand} (hx : ∀ t, x = .tmp t → F t = none) : b.eval x = a.eval x := by
  cases x with
  | tmp t =>
    have h1 := h.2.2 t (hx t rfl)
    show b.tmps.getD t undef = a.tmps.getD t undef
    rw [Array.getD_eq_getD_getElem?, Array.getD_eq_getD_getElem?, h1]
  | _ => rfl
omit [RelOk X] [RelY X Y] in
theorem does_of {o : Oper} {v : Value} {a : Act} (hs : ∀ cs b, o.op ≠ .select cs b) (hg : o.guard = none) (hl : ∀ x ∈ o.op.operands, ∀ t, x = .tmp t → F t = none)
    (h : ∀ w, Ext X w0 w → makesTo Y P o.dst (o.dst.bind F) v w ((execOp a.eval o).run P w)) : Does X Y P ops F w0 o v a := by
  intro b w hw hb _
  have e : execOp b.eval o = execOp a.eval o := execOp_congr o hs fun x hx => hb.eval (hl x hx)
  have hwt : Region.wanted o (yielded ops b.tmps) = true := by unfold Region.wanted; rw [hg]
  rw [e]
  exact ⟨fun _ => h w hw, fun h2 => by rw [hwt] at h2; cases h2⟩
end
end Go.Proofs.Ytidiepbmbbflhaa.Two
end
