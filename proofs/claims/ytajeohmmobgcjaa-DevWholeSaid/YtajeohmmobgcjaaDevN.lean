/- spencelaw04.DevWhole: its plain law. -/
import Derived.Test.YtajeohmmobgcjaaDevM
namespace Go.Proofs.Ytajeohmmobgcjaa
open Go Go.RowKit
def pendOf (s : Nat) (ls : List Deed) : List (Int × List UInt8) := (ls.filter fun d => decide (d.b.length ≤ 64)).map fun d => (d.n % (s : Int), pad d.b)
theorem pend_snoc (s : Nat) (l : List Deed) (d : Deed) : pendOf s (l ++ [d]) = pendOf s l ++ pendOf s [d] := by simp [pendOf]
/-- a device that is up, of s sectors, after at most k deeds -/
structure Live (D : Dv) (s k : Nat) : Prop where
  kl : D.kept.length = s
  dn : D.dn = false
  fu : D.fu = 0
  de : 0 ≤ D.de ∧ D.de ≤ k
  pe : D.pend.length ≤ k
theorem live_new (s : Nat) : Live (Dv.new s) s 0 := ⟨by simp [Dv.new], rfl, rfl, by simp [Dv.new], by simp [Dv.new]⟩
theorem live_write {D : Dv} {s k : Nat} (h : Live D s k) (hs : 1 ≤ s) (d : Deed) : Live (D.write (d.n % (s : Int)) d.b).2 s (k + 1) ∧ (D.write (d.n % (s : Int)) d.b).2.kept = D.kept ∧ (D.write (d.n % (s : Int)) d.b).2.pend = D.pend ++ pendOf s [d] := by
  have hlt : d.n % (s : Int) < (s : Int) := Int.emod_lt_of_pos _ (by omega)
  have hge : 0 ≤ d.n % (s : Int) := Int.emod_nonneg _ (by omega)
  have ht : tick D.de D.fu false = (0, D.de + 1, 0, false) := by simp [tick, h.fu]
  obtain ⟨h1, h2, h3, h4, h5⟩ := h
  by_cases hl : d.b.length ≤ 64
  · have hw : (D.write (d.n % (s : Int)) d.b).2 = { D with de := D.de + 1, fu := 0, dn := false, pend := D.pend ++ [(d.n % (s : Int), pad d.b)] } := by
      simp [Dv.write, h2, h1, ht, hlt, hge, hl]
    rw [hw]
    exact ⟨⟨h1, rfl, rfl, ⟨by show 0 ≤ D.de + 1; omega, by show D.de + 1 ≤ _; omega⟩, by simp; omega⟩, rfl, by simp [pendOf, hl]⟩
  · have hw : (D.write (d.n % (s : Int)) d.b).2 = D := by simp [Dv.write, h2, hl]
    rw [hw]
    exact ⟨⟨h1, h2, h3, ⟨h4.1, by omega⟩, by omega⟩, rfl, by simp [pendOf, hl]⟩
theorem live_flush {D : Dv} {s k : Nat} (h : Live D s k) : D.flush.1 = 0 ∧ Live D.flush.2 s (k + 1) ∧ D.flush.2.pend = [] := by
  have ht : tick D.de D.fu false = (0, D.de + 1, 0, false) := by simp [tick, h.fu]
  obtain ⟨h1, h2, h3, h4, h5⟩ := h
  have hw : D.flush = (0, { de := D.de + 1, fu := 0, dn := false, kept := settleL (fun _ => true) 0 D.pend D.kept, pend := [] }) := by simp [Dv.flush, h2, ht]
  rw [hw]
  exact ⟨rfl, ⟨by simp [settle_len, h1], rfl, rfl, ⟨by show 0 ≤ D.de + 1; omega, by show D.de + 1 ≤ _; omega⟩, by simp⟩, rfl⟩
theorem live_crash {D : Dv} {s k : Nat} (h : Live D s k) : D.crash.1 = 0 ∧ D.crash.2 = { D with dn := true } := by simp [Dv.crash, h.dn]
theorem down_wake (D : Dv) (x : Int) : ({ D with dn := true }.wake x).1 = 0 ∧ ({ D with dn := true }.wake x).2.kept = settleL (wakeB (IntKind.u64.wrap x)) 0 D.pend D.kept ∧ ({ D with dn := true }.wake x).2.pend = [] := by simp [Dv.wake]
/-- what settles of one sector -/
def one (f : Nat → Bool) (x : Int) : Nat → List (Int × List UInt8) → List UInt8 → List UInt8
  | _, [], a => a
  | k, p :: r, a => one f x (k + 1) r (if f k && p.1 == x then p.2 else a)
theorem settle_one (f : Nat → Bool) (i : Nat) : ∀ (L : List (Int × List UInt8)) (k : Nat) (K : List (List UInt8)) (a : List UInt8), (∀ p ∈ L, 0 ≤ p.1) → K[i]? = some a → (settleL f k L K)[i]? = some (one f (i : Int) k L a)
  | [], _, _, _, _, h => h
  | p :: L, k, K, a, hp, h => by
    have h0 := hp p (by simp)
    have hi : i < K.length := (List.getElem?_eq_some_iff.1 h).1
    rw [settleL, one]
    refine settle_one f i L (k + 1) _ _ (fun q hq => hp q (by simp [hq])) ?_
    cases hf : f k with
    | false => simpa [hf] using h
    | true =>
      simp only [if_true, Bool.true_and]
      by_cases he : p.1.toNat = i
      · have e2 : (p.1 == (i : Int)) = true := by simp; omega
        rw [e2, if_pos rfl, he, List.getElem?_set_self hi]
      · have e2 : (p.1 == (i : Int)) = false := by simp; omega
        rw [e2, List.getElem?_set_ne he]
        simpa using h
theorem one_or (f : Nat → Bool) (x : Int) : ∀ (L : List (Int × List UInt8)) (k : Nat) (a : List UInt8), one f x k L a = a ∨ ∃ p ∈ L, p.1 = x ∧ p.2 = one f x k L a
  | [], _, _ => .inl rfl
  | p :: L, k, a => by
    rw [one]
    rcases one_or f x L (k + 1) (if f k && p.1 == x then p.2 else a) with h | ⟨q, hq, h⟩
    · rw [h]
      split
      · rename_i hc
        simp only [Bool.and_eq_true, beq_iff_eq] at hc
        exact .inr ⟨p, by simp, hc.2, rfl⟩
      · exact .inl rfl
    · exact .inr ⟨q, by simp [hq], h⟩
theorem one_none (f : Nat → Bool) (x : Int) (h : ∀ k, f k = false) : ∀ (L : List (Int × List UInt8)) (k : Nat) (a : List UInt8), one f x k L a = a
  | [], _, _ => rfl
  | p :: L, k, a => by rw [one, h k, Bool.false_and, if_neg (by simp), one_none f x h L]
theorem one_all (f : Nat → Bool) (x : Int) (h : ∀ k, f k = true) : ∀ (L : List (Int × List UInt8)) (k : Nat) (a : List UInt8), one f x k L a = L.foldl (fun a p => if p.1 == x then p.2 else a) a
  | [], _, _ => rfl
  | p :: L, k, a => by rw [one, h k, Bool.true_and, one_all f x h L, List.foldl_cons]
def hitB (s : Nat) (x : Int) (d : Deed) : Bool := decide (d.n % (s : Int) = x) && decide (d.b.length ≤ 64)
/-- a sector's last write -/
def lastD (s : Nat) (x : Int) (ls : List Deed) (a : List UInt8) : List UInt8 := ls.foldl (fun a d => if hitB s x d then pad d.b else a) a
def okD (s : Nat) (x : Int) (ls : List Deed) (a b : List UInt8) : Bool := decide (a = b) || ls.any fun d => hitB s x d && decide (b = pad d.b)
theorem lastD_take (s : Nat) (x : Int) (ls : List Deed) (a : List UInt8) (i : Nat) (d : Deed) (h : ls[i]? = some d) : lastD s x (ls.take (i + 1)) a = if hitB s x d then pad d.b else lastD s x (ls.take i) a := by
  rw [List.take_add_one, h]
  simp [lastD, List.foldl_append]
theorem okD_take (s : Nat) (x : Int) (ls : List Deed) (a b : List UInt8) (i : Nat) (d : Deed) (h : ls[i]? = some d) : okD s x (ls.take (i + 1)) a b = (okD s x (ls.take i) a b || (hitB s x d && decide (b = pad d.b))) := by
  rw [List.take_add_one, h]
  simp [okD, Bool.or_assoc]
theorem lastD_len (s : Nat) (x : Int) : ∀ (ls : List Deed) (a : List UInt8), a.length = 64 → (lastD s x ls a).length = 64
  | [], _, h => h
  | d :: ls, a, h => by
    rw [lastD, List.foldl_cons]
    refine lastD_len s x ls _ ?_
    split
    · rename_i hc
      simp only [hitB, Bool.and_eq_true, decide_eq_true_eq] at hc
      exact pad_len _ hc.2
    · exact h
theorem last_pend (s : Nat) (x : Int) : ∀ (ls : List Deed) (a : List UInt8), (pendOf s ls).foldl (fun a p => if p.1 == x then p.2 else a) a = lastD s x ls a
  | [], _ => rfl
  | d :: ls, a => by
    have h := last_pend s x ls
    by_cases hl : d.b.length ≤ 64
    · have e : pendOf s (d :: ls) = (d.n % (s : Int), pad d.b) :: pendOf s ls := by simp [pendOf, hl]
      rw [e, List.foldl_cons, h]
      show lastD s x ls _ = lastD s x ls (if hitB s x d then pad d.b else a)
      congr 1
      simp [hitB, hl]
    · have e : pendOf s (d :: ls) = pendOf s ls := by simp [pendOf, hl]
      rw [e, h]
      show lastD s x ls _ = lastD s x ls (if hitB s x d then pad d.b else a)
      congr 1
      simp [hitB, hl]
theorem ok_all (s : Nat) (x : Int) (f : Nat → Bool) (ls : List Deed) (a : List UInt8) : okD s x ls a (one f x 0 (pendOf s ls) a) = true := by
  rcases one_or f x (pendOf s ls) 0 a with h | ⟨p, hp, hx, he⟩
  · rw [okD, h]
    simp
  · simp only [pendOf, List.mem_map, List.mem_filter, decide_eq_true_eq] at hp
    obtain ⟨d, ⟨hd, hl⟩, rfl⟩ := hp
    dsimp only at hx he
    simp only [okD, Bool.or_eq_true, List.any_eq_true]
    exact .inr ⟨d, hd, by simp [hitB, hx, hl, he]⟩
theorem wake_none (k : Nat) : wakeB (IntKind.u64.wrap 0) k = false := by
  have h : ∀ m, m < 62 → (bits .and .u64 (IntKind.u64.wrap 0) (IntKind.u64.wrap (2 ^ m)) != 0) = false := by decide +kernel
  exact h _ (Nat.mod_lt _ (by omega))
theorem wake_all (k : Nat) : wakeB (IntKind.u64.wrap (-1)) k = true := by
  have h : ∀ m, m < 62 → (bits .and .u64 (IntKind.u64.wrap (-1)) (IntKind.u64.wrap (2 ^ m)) != 0) = true := by decide +kernel
  exact h _ (Nat.mod_lt _ (by omega))
theorem pend_in (s : Nat) (hs : 1 ≤ s) (ls : List Deed) : ∀ p ∈ pendOf s ls, 0 ≤ p.1 := by
  intro p hp
  obtain ⟨d, _, rfl⟩ := List.mem_map.1 hp
  exact Int.emod_nonneg _ (by omega)
end Go.Proofs.Ytajeohmmobgcjaa
