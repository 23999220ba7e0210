/- package pick: the document's search, plain. -/
import Derived.Test.YtfppddnfdinipaaPickO
namespace Go.Proofs.Ytfppddnfdinipaa
open Go Go.RowKit Go.Maps
abbrev Mde := Hsh × Pth
/-- some paths that are there, some that are of classes, are what counts say -/
structure Say (cnt : Pth → Nat) (M : Pth → List Hsh) (ps : List Pth) (of : List Mde) : Prop where
  cnt : ∀ q, 0 < cnt q ↔ q ∈ ps
  mem : ∀ h p, h ∈ M p ↔ (h, p) ∈ of
def badI (own : Hsh) (ps : List Pth) (pre : List Mde) (m : Mde) : Bool :=
  hasK ps m.2 && (decide (m.1 = own) || pre.any fun k => decide (k.1 = m.1) && (!decide (k.2 = m.2) && hasK ps k.2))
def cleanTo (own : Hsh) (ps : List Pth) (of : List Mde) : Nat → Bool
  | 0 => true
  | n + 1 => cleanTo own ps of n && !((of[n]?).elim false fun m => badI own ps (of.take n) m)
def cleanB (own : Hsh) (ps : List Pth) (of : List Mde) : Bool := cleanTo own ps of of.length
section
variable {own : Hsh} {ps : List Pth} {of : List Mde} {cnt : Pth → Nat} {M : Pth → List Hsh}
theorem cleanTo_iff (n : Nat) : cleanTo own ps of n = true ↔ ∀ i m, i < n → of[i]? = some m → badI own ps (of.take i) m = false := by
  induction n with
  | zero => exact ⟨fun _ i m h => absurd h (by omega), fun _ => rfl⟩
  | succ n ih =>
    unfold cleanTo
    rw [Bool.and_eq_true, ih]
    constructor
    · rintro ⟨h1, h2⟩ i m hi hm
      by_cases e : i = n
      · subst e
        rw [hm] at h2
        simpa using h2
      · exact h1 i m (by omega) hm
    · intro h
      refine ⟨fun i m hi hm => h i m (by omega) hm, ?_⟩
      cases e : of[n]? with
      | none => rfl
      | some m => simpa using h n m (by omega) e
theorem badI_iff {pre : List Mde} {m : Mde} : badI own ps pre m = true ↔ m.2 ∈ ps ∧ (m.1 = own ∨ ∃ k ∈ pre, k.1 = m.1 ∧ k.2 ≠ m.2 ∧ k.2 ∈ ps) := by
  unfold badI
  simp only [Bool.and_eq_true, Bool.or_eq_true, decide_eq_true_eq, List.any_eq_true, Bool.not_eq_true', decide_eq_false_iff_not, ne_eq, hasK_mem]
theorem cleanB_not : cleanB own ps of = false ↔ ∃ i m, of[i]? = some m ∧ badI own ps (of.take i) m = true := by
  rw [← Bool.not_eq_true, cleanB, cleanTo_iff]
  constructor
  · intro h
    apply Classical.byContradiction
    intro hn
    refine h fun i m _ hm => ?_
    cases hb : badI own ps (of.take i) m with
    | false => rfl
    | true => exact absurd ⟨i, m, hm, hb⟩ hn
  · rintro ⟨i, m, hm, hb⟩ h
    have := h i m (List.getElem?_eq_some_iff.1 hm).1 hm
    rw [hb] at this
    cases this
theorem mem_take' {α : Type} {l : List α} {i j : Nat} {x : α} (h : l[i]? = some x) (hl : i < j) : x ∈ l.take j :=
  List.mem_of_getElem? (i := i) (by rw [List.getElem?_take_of_lt hl]; exact h)
/-- by any words: is there a class with two paths, or the own one with one? -/
theorem cleanB_iff : cleanB own ps of = false ↔ ∃ m ∈ of, m.2 ∈ ps ∧ (m.1 = own ∨ ∃ k ∈ of, k.1 = m.1 ∧ k.2 ≠ m.2 ∧ k.2 ∈ ps) := by
  rw [cleanB_not]
  constructor
  · rintro ⟨i, m, hm, hb⟩
    obtain ⟨h1, h2⟩ := badI_iff.1 hb
    exact ⟨m, List.mem_of_getElem? hm, h1, h2.imp id fun ⟨k, hk, e⟩ => ⟨k, List.mem_of_mem_take hk, e⟩⟩
  · rintro ⟨m, hm, h1, h2⟩
    obtain ⟨i, hi⟩ := List.getElem?_of_mem hm
    rcases h2 with h2 | ⟨k, hk, e1, e2, e3⟩
    · exact ⟨i, _, hi, badI_iff.2 ⟨h1, .inl h2⟩⟩
    · obtain ⟨j, hj⟩ := List.getElem?_of_mem hk
      rcases Nat.lt_trichotomy i j with hl | hl | hl
      · exact ⟨j, _, hj, badI_iff.2 ⟨e3, .inr ⟨m, mem_take' hi hl, e1.symm, Ne.symm e2, h1⟩⟩⟩
      · subst hl
        rw [hi] at hj
        injection hj with hj
        exact absurd (by rw [hj]) e2
      · exact ⟨i, _, hi, badI_iff.2 ⟨h1, .inr ⟨k, mem_take' hj hl, e1, e2, e3⟩⟩⟩
theorem confl_iff (hs : Say cnt M ps of) : Confl own cnt M ↔ cleanB own ps of = false := by
  rw [cleanB_iff]
  have th : ∀ h p, there cnt M h p ↔ (h, p) ∈ of ∧ p ∈ ps := fun h p => by unfold there; rw [hs.mem, hs.cnt]
  constructor
  · rintro ⟨h, p, h1, h2⟩
    rw [th] at h1
    refine ⟨(h, p), h1.1, h1.2, h2.imp id ?_⟩
    rintro ⟨q, h2, hne⟩
    rw [th] at h2
    exact ⟨(h, q), h2.1, rfl, hne, h2.2⟩
  · rintro ⟨m, hm, h1, h2⟩
    refine ⟨m.1, m.2, (th _ _).2 ⟨hm, h1⟩, h2.imp id ?_⟩
    rintro ⟨k, hk, e1, e2, e3⟩
    exact ⟨k.2, (th _ _).2 ⟨by rw [← e1]; exact hk, e3⟩, e2⟩
theorem pcnt_pos {l : List Pth} {q : Pth} : 0 < pcnt l q ↔ q ∈ l := by
  unfold pcnt
  rw [List.countP_pos_iff]
  constructor
  · rintro ⟨a, ha, h⟩
    rw [decide_eq_true_eq] at h
    subst h
    exact ha
  · intro h
    exact ⟨q, h, by simp⟩
theorem mem_nameM {p q : Pth} {h x : Hsh} : x ∈ nameM M p h q ↔ x ∈ M q ∨ (x = h ∧ q = p) := by
  unfold nameM
  split
  · rename_i hh
    refine ⟨.inl, fun h1 => h1.elim id ?_⟩
    rintro ⟨rfl, rfl⟩
    exact hasH_mem.1 hh
  · unfold upd
    by_cases e : q = p
    · subst e
      simp
    · simp [e]
theorem Say.choose (hs : Say cnt M ps of) (h : Hsh) (x : Opt) : Say (cntC cnt x.1 x.2) (nameM M x.1 h) (ps ++ x.1 :: x.2) (of ++ [(h, x.1)]) where
  cnt := fun q => by
    rw [cntC_eq]
    have h1 := hs.cnt q
    have h2 := pcnt_pos (l := [x.1]) (q := q)
    have h3 := pcnt_pos (l := x.2) (q := q)
    simp only [List.mem_append, List.mem_cons, List.not_mem_nil, or_false] at h2 ⊢
    rw [← h1, ← h2, ← h3]
    omega
  mem := fun y p => by
    rw [mem_nameM, hs.mem]
    simp
end
/-- the options of a row, from a place on, by the document -/
def tryB (own : Hsh) (fuel : Int) (h : Hsh) (ps : List Pth) (of : List Mde) (go : List Pth → List Mde → Int → Res × Int) : Nat → List Opt → Int → Res × Int
  | _, [], n => (.conflict, n)
  | k, x :: xs, n =>
    match (if fuel ≤ n then (Res.fuel, n) else if cleanB own (ps ++ x.1 :: x.2) (of ++ [(h, x.1)]) then go (ps ++ x.1 :: x.2) (of ++ [(h, x.1)]) (n + 1) else (.conflict, n + 1)) with
    | (.conflict, m) => tryB own fuel h ps of go (k + 1) xs m
    | (.fuel, m) => (.fuel, m)
    | (.ok l, m) => (.ok (k :: l), m)
def fromB (own : Hsh) (fuel : Int) : List (Hsh × List Opt) → List Pth → List Mde → Int → Res × Int
  | [], _, _, n => (.ok [], n)
  | (h, os) :: rows, ps, of, n => tryB own fuel h ps of (fromB own fuel rows) 0 os n
theorem from_eq {own : Hsh} {fuel : Int} : ∀ (rows : List (Hsh × List Opt)) {cnt : Pth → Nat} {M : Pth → List Hsh} {ps : List Pth} {of : List Mde}, Say cnt M ps of → ∀ n, fromP own fuel rows cnt M n = fromB own fuel rows ps of n
  | [], _, _, _, _, _, _ => rfl
  | (h, os) :: rows, cnt, M, ps, of, hs, n => by
    have ih := fun {cnt : Pth → Nat} {M : Pth → List Hsh} {ps : List Pth} {of : List Mde} (hs : Say cnt M ps of) n => from_eq (own := own) (fuel := fuel) rows hs n
    show tryL own fuel h cnt M (fromP own fuel rows) 0 os n = tryB own fuel h ps of (fromB own fuel rows) 0 os n
    generalize 0 = k
    induction os generalizing k n with
    | nil => rfl
    | cons x xs ih2 =>
      have e : try1 own fuel h cnt M (fromP own fuel rows) x n = (if fuel ≤ n then (Res.fuel, n) else if cleanB own (ps ++ x.1 :: x.2) (of ++ [(h, x.1)]) then fromB own fuel rows (ps ++ x.1 :: x.2) (of ++ [(h, x.1)]) (n + 1) else (.conflict, n + 1)) := by
        unfold try1
        split
        · rfl
        · cases hcl : cleanB own (ps ++ x.1 :: x.2) (of ++ [(h, x.1)]) with
          | false => rw [if_pos ((confl_iff (hs.choose h x)).2 hcl), if_neg (by simp)]
          | true => rw [if_neg (fun hc => by rw [(confl_iff (hs.choose h x)).1 hc] at hcl; cases hcl), if_pos rfl, ih (hs.choose h x)]
      unfold tryL tryB
      rw [e]
      generalize (if fuel ≤ n then (Res.fuel, n) else if cleanB own (ps ++ x.1 :: x.2) (of ++ [(h, x.1)]) then fromB own fuel rows (ps ++ x.1 :: x.2) (of ++ [(h, x.1)]) (n + 1) else (.conflict, n + 1)) = r
      obtain ⟨r, m⟩ := r
      cases r with
      | ok l => rfl
      | fuel => rfl
      | conflict => exact ih2 m (k + 1)
def Res.row : Res → List Nat
  | .ok l => l
  | _ => []
/-- a case, plain -/
structure CaseP where
  own : Hsh
  fixed : List Pth
  cls : List Hsh
  opts : List (List Opt)
  of : List Mde
/-- what the least choice is told as: the places, the steps, the error -/
def leastB (c : CaseP) (fuel : Int) : List Nat × Int × Int :=
  if c.opts.length ≠ c.cls.length then ([], 0, 2)
  else if c.opts.any (·.isEmpty) then ([], 0, 5)
  else if cleanB c.own c.fixed c.of then ((fromB c.own (max fuel 0) (c.cls.zip c.opts) c.fixed c.of 0).1.row, (fromB c.own (max fuel 0) (c.cls.zip c.opts) c.fixed c.of 0).2, (fromB c.own (max fuel 0) (c.cls.zip c.opts) c.fixed c.of 0).1.code)
  else ([], 0, 13)
/-- what is there by the places of the first rows -/
def foldT : List (Hsh × List Opt) → List Nat → List Pth → List Mde → List Pth × List Mde
  | (h, os) :: rows, k :: ks, ps, of =>
    match os[k]? with
    | some x => foldT rows ks (ps ++ x.1 :: x.2) (of ++ [(h, x.1)])
    | none => (ps, of)
  | _, _, ps, of => (ps, of)
def inRange (opts : List (List Opt)) (ks : List Int) : Bool := (opts.zip ks).all fun r => decide (0 ≤ r.2) && decide (r.2 < (r.1.length : Int))
def freeB (c : CaseP) (ks : List Int) : Bool :=
  decide (c.opts.length = c.cls.length) && (decide (ks.length = c.opts.length) && (inRange c.opts ks && cleanB c.own (foldT (c.cls.zip c.opts) (ks.map Int.toNat) c.fixed c.of).1 (foldT (c.cls.zip c.opts) (ks.map Int.toNat) c.fixed c.of).2))
end Go.Proofs.Ytfppddnfdinipaa
