/- package blob: which sectors are free, which are found: plain. -/
import Derived.Test.YtajeohmmobgcjaaRuns
namespace Go.Proofs.Ytajeohmmobgcjaa
open Go Go.RowKit
/-- the free sectors ahead of one -/
def freeTo (rs : List Run) (k : Nat) : List Nat := (List.range k).filter fun x => !(pos rs).contains x
theorem freeTo_zero (rs : List Run) : freeTo rs 0 = [] := rfl
theorem freeTo_succ (rs : List Run) (k : Nat) : freeTo rs (k + 1) = freeTo rs k ++ (if (pos rs).contains k then [] else [k]) := by
  unfold freeTo
  rw [List.range_succ, List.filter_append]
  cases h : (pos rs).contains k <;> simp only [List.filter_cons, List.filter_nil, h, Bool.not_true, Bool.not_false, if_true, if_false, Bool.false_eq_true]
theorem freeTo_more (rs : List Run) (k : Nat) : ∀ j, ∃ t, freeTo rs (k + j) = freeTo rs k ++ t
  | 0 => ⟨[], by simp⟩
  | j + 1 => by
    obtain ⟨t, ht⟩ := freeTo_more rs k j
    refine ⟨t ++ (if (pos rs).contains (k + j) then [] else [k + j]), ?_⟩
    rw [← Nat.add_assoc, freeTo_succ, ht, List.append_assoc]
theorem freeTo_take {rs : List Run} {k d : Nat} (h : k ≤ d) : (freeTo rs d).take (freeTo rs k).length = freeTo rs k := by
  obtain ⟨t, ht⟩ := freeTo_more rs k (d - k)
  rw [show k + (d - k) = d by omega] at ht
  rw [ht, List.take_left']
  rfl
theorem freeTo_len_le {rs : List Run} {k d : Nat} (h : k ≤ d) : (freeTo rs k).length ≤ (freeTo rs d).length := by
  obtain ⟨t, ht⟩ := freeTo_more rs k (d - k)
  rw [show k + (d - k) = d by omega] at ht
  rw [ht, List.length_append]
  omega
theorem freeTo_len (rs : List Run) (k : Nat) : (freeTo rs k).length ≤ k := by
  have := List.length_filter_le (fun x => !(pos rs).contains x) (List.range k)
  rwa [List.length_range] at this
theorem mem_freeTo {rs : List Run} {k x : Nat} : x ∈ freeTo rs k ↔ x < k ∧ x ∉ pos rs := by
  unfold freeTo
  simp [List.mem_filter, List.mem_range]
theorem nodup_freeTo (rs : List Run) (k : Nat) : (freeTo rs k).Nodup := List.Pairwise.filter _ List.nodup_range
theorem nodup_sub : ∀ {a b : List Nat}, a.Nodup → (∀ x ∈ a, x ∈ b) → a.length ≤ b.length
  | [], b, _, _ => Nat.zero_le _
  | x :: a, b, h, hs => by
    obtain ⟨h1, h2⟩ := List.nodup_cons.1 h
    have hx : x ∈ b := hs x (by simp)
    have h3 := nodup_sub (a := a) (b := b.erase x) h2 fun y hy => by
      have hne : y ≠ x := fun e => h1 (e ▸ hy)
      exact (List.mem_erase_of_ne hne).2 (hs y (by simp [hy]))
    have h4 := List.length_erase_of_mem hx
    have h5 : 0 < b.length := List.length_pos_of_mem hx
    rw [List.length_cons]
    omega
/-- how many are free -/
theorem free_count {rs : List Run} {d : Nat} (hn : (pos rs).Nodup) (hl : ∀ x ∈ pos rs, x < d) : (freeTo rs d).length + (pos rs).length = d := by
  have h1 : (freeTo rs d ++ pos rs).Nodup := by
    rw [List.nodup_append]
    refine ⟨nodup_freeTo rs d, hn, fun a ha b hb e => ?_⟩
    subst e
    exact (mem_freeTo.1 ha).2 hb
  have h2 := nodup_sub (b := List.range d) h1 fun x hx => by
    rw [List.mem_range]
    rcases List.mem_append.1 hx with h | h
    · exact (mem_freeTo.1 h).1
    · exact hl x h
  have h3 := nodup_sub (a := List.range d) (b := freeTo rs d ++ pos rs) List.nodup_range fun x hx => by
    rw [List.mem_range] at hx
    rw [List.mem_append, mem_freeTo]
    by_cases h : x ∈ pos rs
    · exact .inr h
    · exact .inl ⟨hx, h⟩
  rw [List.length_range, List.length_append] at h2 h3
  omega
def lastR (l : List Run) : Run := l.getLast?.getD (0, 0)
theorem lastR_app (l : List Run) (r : Run) : lastR (l ++ [r]) = r := by simp [lastR]
theorem lastR_nil : lastR [] = (0, 0) := rfl
/-- one more sector that is found -/
def grp (l : List Run) (x : Nat) : List Run :=
  if 0 < (lastR l).2 ∧ (lastR l).1 + (lastR l).2 = (x : Int) then l.dropLast ++ [((lastR l).1, (lastR l).2 + 1)] else l ++ [((x : Int), 1)]
def grps (t : List Nat) : List Run := t.foldl grp []
theorem grps_app (t : List Nat) (x : Nat) : grps (t ++ [x]) = grp (grps t) x := by simp [grps]
theorem pos_app (a b : List Run) : pos (a ++ b) = pos a ++ pos b := by simp [pos]
structure GOk (l : List Run) (k : Nat) (t : List Nat) : Prop where
  each : ∀ r ∈ l, 0 ≤ r.1 ∧ 1 ≤ r.2 ∧ r.1 + r.2 ≤ (k : Int)
  len : l.length ≤ k
  apart : l.Pairwise fun a b => a.1 + a.2 < b.1
  pos : pos l = t
theorem GOk.nil (k : Nat) : GOk [] k [] := ⟨(fun r hr => by cases hr), Nat.zero_le _, List.Pairwise.nil, rfl⟩
theorem GOk.up {l : List Run} {k : Nat} {t : List Nat} (h : GOk l k t) : GOk l (k + 1) t :=
  ⟨fun r hr => by have := h.each r hr; omega, by have := h.len; omega, h.apart, h.pos⟩
theorem posR_one (x : Nat) : posR ((x : Int), 1) = [x] := by simp [posR]
theorem posR_more (a m : Int) (ha : 0 ≤ a) (hm : 1 ≤ m) : posR (a, m + 1) = posR (a, m) ++ [(a + m).toNat] := by
  have e : (m + 1).toNat = m.toNat + 1 := by omega
  have e2 : (a + m).toNat = a.toNat + m.toNat := by omega
  simp only [posR, e, e2, List.range_succ, List.map_append, List.map_cons, List.map_nil]
theorem GOk.grp {l : List Run} {k : Nat} {t : List Nat} (h : GOk l k t) : GOk (grp l k) (k + 1) (t ++ [k]) := by
  rcases List.eq_nil_or_concat l with rfl | ⟨i, r, hl⟩
  · have ht : t = [] := h.pos.symm
    subst ht
    show GOk [((k : Int), 1)] (k + 1) [k]
    refine ⟨fun r hr => ?_, by simp, List.pairwise_singleton _ _, ?_⟩
    · obtain rfl := List.mem_singleton.1 hr
      exact ⟨by omega, by omega, by omega⟩
    · simp [Go.Proofs.Ytajeohmmobgcjaa.pos, posR_one]
  · rw [List.concat_eq_append] at hl
    subst hl
    have hr := h.each r (by simp)
    have hp := List.pairwise_append.1 h.apart
    have hpp := h.pos
    rw [pos_app] at hpp
    have hr1 : Go.Proofs.Ytajeohmmobgcjaa.pos [r] = posR r := by simp [Go.Proofs.Ytajeohmmobgcjaa.pos]
    rw [hr1] at hpp
    unfold Go.Proofs.Ytajeohmmobgcjaa.grp
    rw [lastR_app, List.dropLast_concat]
    by_cases hc : 0 < r.2 ∧ r.1 + r.2 = (k : Int)
    · rw [if_pos hc]
      refine ⟨fun q hq => ?_, ?_, ?_, ?_⟩
      · rcases List.mem_append.1 hq with hq | hq
        · have := h.each q (by simp [hq])
          omega
        · obtain rfl := List.mem_singleton.1 hq
          show 0 ≤ r.1 ∧ 1 ≤ r.2 + 1 ∧ r.1 + (r.2 + 1) ≤ ((k + 1 : Nat) : Int)
          omega
      · have := h.len
        simp only [List.length_append, List.length_singleton] at this ⊢
        omega
      · rw [List.pairwise_append]
        refine ⟨hp.1, List.pairwise_singleton _ _, fun a ha b hb => ?_⟩
        obtain rfl := List.mem_singleton.1 hb
        exact hp.2.2 a ha r (by simp)
      · have e := posR_more r.1 r.2 hr.1 hr.2.1
        rw [pos_app, show Go.Proofs.Ytajeohmmobgcjaa.pos [(r.1, r.2 + 1)] = posR (r.1, r.2 + 1) by simp [Go.Proofs.Ytajeohmmobgcjaa.pos], e, hc.2, ← List.append_assoc, Int.toNat_natCast]
        exact congrArg (· ++ [k]) hpp
    · rw [if_neg hc]
      have hlt : r.1 + r.2 < (k : Int) := by omega
      refine ⟨fun q hq => ?_, ?_, ?_, ?_⟩
      · rcases List.mem_append.1 hq with hq | hq
        · have := h.each q hq
          omega
        · obtain rfl := List.mem_singleton.1 hq
          show 0 ≤ (k : Int) ∧ 1 ≤ (1 : Int) ∧ (k : Int) + 1 ≤ ((k + 1 : Nat) : Int)
          omega
      · have := h.len
        simp only [List.length_append, List.length_singleton] at this ⊢
        omega
      · rw [List.pairwise_append]
        refine ⟨h.apart, List.pairwise_singleton _ _, fun a ha b hb => ?_⟩
        obtain rfl := List.mem_singleton.1 hb
        rcases List.mem_append.1 ha with ha | ha
        · have h1 := hp.2.2 a ha r (by simp)
          show a.1 + a.2 < (k : Int)
          omega
        · obtain rfl := List.mem_singleton.1 ha
          exact hlt
      · rw [pos_app, h.pos, show Go.Proofs.Ytajeohmmobgcjaa.pos [((k : Int), (1 : Int))] = posR ((k : Int), 1) by simp [Go.Proofs.Ytajeohmmobgcjaa.pos], posR_one]
theorem gok (rs : List Run) : ∀ k, GOk (grps (freeTo rs k)) k (freeTo rs k)
  | 0 => GOk.nil 0
  | k + 1 => by
    rw [freeTo_succ]
    cases h : (pos rs).contains k with
    | true =>
      rw [if_pos rfl, List.append_nil]
      exact (gok rs k).up
    | false =>
      rw [if_neg (by simp), grps_app]
      exact (gok rs k).grp
/-- what is found -/
def findP (rs : List Run) (d n : Nat) : List Run := grps ((freeTo rs d).take n)
theorem findP_at {rs : List Run} {k d n : Nat} (h : k ≤ d) (hn : (freeTo rs k).length = n) : findP rs d n = grps (freeTo rs k) := by
  unfold findP
  rw [← hn, freeTo_take h]
/-- there is a place where all are found -/
theorem findP_where {rs : List Run} {n : Nat} : ∀ d, n ≤ (freeTo rs d).length → ∃ k, k ≤ d ∧ (freeTo rs k).length = n
  | 0, h => ⟨0, Nat.le_refl _, by rw [freeTo_zero] at h ⊢; simp at h ⊢; omega⟩
  | d + 1, h => by
    by_cases h2 : n ≤ (freeTo rs d).length
    · obtain ⟨k, hk, he⟩ := findP_where d h2
      exact ⟨k, by omega, he⟩
    · refine ⟨d + 1, Nat.le_refl _, ?_⟩
      rw [freeTo_succ, List.length_append] at h ⊢
      cases hc : (pos rs).contains d <;> simp only [hc, if_true, if_false, Bool.false_eq_true, List.length_nil, List.length_singleton] at h ⊢ <;> omega
end Go.Proofs.Ytajeohmmobgcjaa
