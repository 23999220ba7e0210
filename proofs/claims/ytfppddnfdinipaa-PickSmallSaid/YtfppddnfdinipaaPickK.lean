/- package pick: the search, plain. -/
import Derived.Test.YtfppddnfdinipaaPickJ
namespace Go.Proofs.Ytfppddnfdinipaa
open Go Go.RowKit Go.Maps
/-- does a class have more paths than may be? -/
def Confl (own : Hsh) (cnt : Pth → Nat) (M : Pth → List Hsh) : Prop := ∃ h p, there cnt M h p ∧ (h = own ∨ ∃ q, there cnt M h q ∧ q ≠ p)
theorem sum_pos (f : Hsh → Bool) : ∀ U : List Hsh, 0 ≤ (U.map fun h => one (f h)).sum ∧ (0 < (U.map fun h => one (f h)).sum ↔ ∃ h ∈ U, f h = true)
  | [] => by simp
  | h :: U => by
    obtain ⟨i1, i2⟩ := sum_pos f U
    simp only [List.map_cons, List.sum_cons, List.mem_cons]
    cases hf : f h with
    | true =>
      have e : one true = 1 := rfl
      rw [e]
      exact ⟨by omega, fun _ => ⟨h, .inl rfl, hf⟩, fun _ => by omega⟩
    | false =>
      have e : one false = 0 := rfl
      rw [e]
      refine ⟨by omega, ?_⟩
      rw [show (0 : Int) + (U.map fun h => one (f h)).sum = (U.map fun h => one (f h)).sum by omega, i2]
      constructor
      · rintro ⟨x, hx, h1⟩; exact ⟨x, .inr hx, h1⟩
      · rintro ⟨x, rfl | hx, h1⟩
        · rw [hf] at h1; cases h1
        · exact ⟨x, hx, h1⟩
theorem len_two {l : List Pth} (hn : l.Nodup) : 1 < l.length ↔ ∃ p ∈ l, ∃ q ∈ l, q ≠ p := by
  constructor
  · intro h
    match l, hn, h with
    | a :: b :: l, hn, _ =>
      refine ⟨a, by simp, b, by simp, fun e => ?_⟩
      have := (List.nodup_cons.1 hn).1
      rw [e] at this
      exact this (by simp)
  · rintro ⟨p, hp, q, hq, hne⟩
    match l, hp, hq with
    | [a], hp, hq =>
      rw [List.mem_singleton] at hp hq
      exact absurd (hq.trans hp.symm) hne
    | a :: b :: l, _, _ => simp
theorem inv_bad {own : Hsh} {U : List Hsh} {V : List Pth} {S : Sst} {cnt : Pth → Nat} {M : Pth → List Hsh} (hI : InvP own U V S cnt M (there cnt M)) : 0 < S.bad ↔ Confl own cnt M := by
  rw [hI.bad]
  unfold badU
  rw [(sum_pos (fun h => confB own h (hk S h).length) U).2]
  have hc : ∀ h, confB own h (hk S h).length = true ↔ ∃ p, there cnt M h p ∧ (h = own ∨ ∃ q, there cnt M h q ∧ q ≠ p) := by
    intro h
    have hb : confB own h (hk S h).length = true ↔ (1 < (hk S h).length ∨ ((hk S h).length = 1 ∧ h = own)) := by
      unfold confB
      simp
    rw [hb, len_two (hI.nod h)]
    constructor
    · rintro (⟨p, hp, q, hq, hne⟩ | ⟨h1, rfl⟩)
      · exact ⟨p, (hI.mem h p).1 hp, .inr ⟨q, (hI.mem h q).1 hq, hne⟩⟩
      · match hl : hk S h, h1 with
        | [a], _ => exact ⟨a, (hI.mem h a).1 (by rw [hl]; simp), .inl rfl⟩
    · rintro ⟨p, hp, rfl | ⟨q, hq, hne⟩⟩
      · have hp' := (hI.mem h p).2 hp
        by_cases h2 : ∃ q ∈ hk S h, q ≠ p
        · obtain ⟨q, hq, hne⟩ := h2
          exact .inl ⟨p, hp', q, hq, hne⟩
        · refine .inr ⟨?_, rfl⟩
          have h3 : ¬ 1 < (hk S h).length := fun h4 => by
            obtain ⟨a, ha, b, hb, hne⟩ := (len_two (hI.nod h)).1 h4
            by_cases e : a = p
            · exact h2 ⟨b, hb, fun e2 => hne (e2.trans e.symm)⟩
            · exact h2 ⟨a, ha, e⟩
          have := List.length_pos_of_mem hp'
          omega
      · exact .inl ⟨p, (hI.mem h p).2 hp, q, (hI.mem h q).2 hq, hne⟩
  constructor
  · rintro ⟨h, _, h1⟩
    obtain ⟨p, h2⟩ := (hc h).1 h1
    exact ⟨h, p, h2⟩
  · rintro ⟨h, p, h1, h2⟩
    exact ⟨h, hI.mU p h h1.1, (hc h).2 ⟨p, h1, h2⟩⟩
abbrev Opt := Pth × List Pth
/-- what a search tells -/
inductive Res
  | ok (l : List Nat)
  | fuel
  | conflict
def Res.code : Res → Int
  | .ok _ => 0
  | .fuel => 11
  | .conflict => 13
open Classical in
/-- one option of a row -/
noncomputable def try1 (own : Hsh) (fuel : Int) (h : Hsh) (cnt : Pth → Nat) (M : Pth → List Hsh) (go : (Pth → Nat) → (Pth → List Hsh) → Int → Res × Int) (x : Opt) (n : Int) : Res × Int :=
  if fuel ≤ n then (.fuel, n) else if Confl own (cntC cnt x.1 x.2) (nameM M x.1 h) then (.conflict, n + 1) else go (cntC cnt x.1 x.2) (nameM M x.1 h) (n + 1)
/-- the options of a row, from a place on -/
noncomputable def tryL (own : Hsh) (fuel : Int) (h : Hsh) (cnt : Pth → Nat) (M : Pth → List Hsh) (go : (Pth → Nat) → (Pth → List Hsh) → Int → Res × Int) : Nat → List Opt → Int → Res × Int
  | _, [], n => (.conflict, n)
  | k, x :: xs, n =>
    match try1 own fuel h cnt M go x n with
    | (.conflict, m) => tryL own fuel h cnt M go (k + 1) xs m
    | (.fuel, m) => (.fuel, m)
    | (.ok l, m) => (.ok (k :: l), m)
/-- the rows from a place on -/
noncomputable def fromP (own : Hsh) (fuel : Int) : List (Hsh × List Opt) → (Pth → Nat) → (Pth → List Hsh) → Int → Res × Int
  | [], _, _, n => (.ok [], n)
  | (h, os) :: rows, cnt, M, n => tryL own fuel h cnt M (fromP own fuel rows) 0 os n
end Go.Proofs.Ytfppddnfdinipaa
