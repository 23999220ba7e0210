/- package blob: what is found, plain. -/
import Derived.Test.YtajeohmmobgcjaaFieldC
import Derived.Test.YtajeohmmobgcjaaFindLaw
namespace Go.Proofs.Ytajeohmmobgcjaa
open Go Go.RowKit
structure First (l a : Int) (D : Nat) (rs f : List Run) (n E : Nat) : Prop where
  count : (pos f).length = n
  apart : f.Pairwise fun p q => p.1 + p.2 < q.1
  ok : apartP l a D (rs ++ f)
  end_ : (lastR f).1 + (lastR f).2 = (E : Int)
  le : E ≤ D
  free : (freeTo rs E).length = n
  some_ : 0 < f.length
  each : ∀ r ∈ f, 0 ≤ r.1 ∧ 1 ≤ r.2 ∧ r.1 + r.2 ≤ (D : Int)
  len : f.length ≤ D
theorem GOk.le_end {l : List Run} {k : Nat} {t : List Nat} (h : GOk l k t) : ∀ x ∈ t, (x : Int) < (lastR l).1 + (lastR l).2 := by
  intro x hx
  rw [← h.pos] at hx
  obtain ⟨r, hr, hx⟩ := List.mem_flatMap.1 hx
  obtain ⟨j, hj, rfl⟩ := List.mem_map.1 hx
  have hj := List.mem_range.1 hj
  have he := h.each r hr
  rcases List.eq_nil_or_concat l with rfl | ⟨i, q, hl⟩
  · cases hr
  · rw [List.concat_eq_append] at hl
    subst hl
    rw [lastR_app]
    have hp := (List.pairwise_append.1 h.apart).2.2
    have hq := h.each q (by simp)
    rcases List.mem_append.1 hr with hr | hr
    · have := hp r hr q (by simp)
      omega
    · obtain rfl := List.mem_singleton.1 hr
      omega
theorem lastR_mem {l : List Run} (h : 0 < l.length) : lastR l ∈ l := by
  rcases List.eq_nil_or_concat l with rfl | ⟨i, q, hl⟩
  · simp at h
  · rw [List.concat_eq_append] at hl
    subst hl
    rw [lastR_app]
    simp
theorem first_of {l a : Int} {D : Nat} {rs : List Run} {n : Nat} (hap : apartP l a D rs) (h1 : 1 ≤ n) (hn : n ≤ (freeTo rs D).length) : ∃ E, First l a D rs (findP rs D n) n E := by
  obtain ⟨k, hk, he⟩ := findP_where D hn
  rw [findP_at hk he]
  have G := gok rs k
  have hlen : 0 < (grps (freeTo rs k)).length := by
    rcases Nat.eq_zero_or_pos (grps (freeTo rs k)).length with h0 | h0
    · have hp := G.pos
      rw [List.length_eq_zero_iff.1 h0] at hp
      rw [← hp] at he
      simp [Go.Proofs.Ytajeohmmobgcjaa.pos] at he
      omega
    · exact h0
  have hlast := G.each _ (lastR_mem hlen)
  obtain ⟨E, hE⟩ : ∃ E : Nat, (lastR (grps (freeTo rs k))).1 + (lastR (grps (freeTo rs k))).2 = (E : Int) := ⟨((lastR (grps (freeTo rs k))).1 + (lastR (grps (freeTo rs k))).2).toNat, by omega⟩
  have hEk : E ≤ k := by omega
  refine ⟨E, by rw [G.pos]; exact he, G.apart, ⟨hap.1, fun r hr => ?_, ?_⟩, hE, by omega, ?_, hlen, fun r hr => ?_, Nat.le_trans G.len hk⟩
  · rcases List.mem_append.1 hr with hr | hr
    · exact hap.2.1 r hr
    · have := G.each r hr
      exact ⟨by omega, by omega, by omega, by omega⟩
  · rw [pos_app, G.pos, List.nodup_append]
    refine ⟨hap.2.2, nodup_freeTo rs k, fun x hx y hy e => ?_⟩
    subst e
    exact (mem_freeTo.1 hy).2 hx
  · have h1 := freeTo_len_le (rs := rs) hEk
    have h2 := nodup_sub (nodup_freeTo rs k) (b := freeTo rs E) fun x hx => by
      have := G.le_end x hx
      exact mem_freeTo.2 ⟨by omega, (mem_freeTo.1 hx).2⟩
    omega
  · have := G.each r hr
    omega
theorem First.rest {l a : Int} {D : Nat} {rs f : List Run} {n E : Nat} (h : First l a D rs f n E) (hap : apartP l a D rs) : (freeTo (rs ++ f) D).length + n = (freeTo rs D).length := by
  have h1 := apart_count h.ok
  have h2 := apart_count hap
  rw [Int.toNat_natCast] at h1 h2
  rw [pos_app, List.length_append, h.count] at h1
  omega
/-- one more sector -/
theorem apart_one {l a : Int} {D : Nat} {rs : List Run} (hap : apartP l a D rs) {x : Nat} (hx : x < D) : apartP l a D (rs ++ [((x : Int), 1)]) ↔ (pos rs).contains x = false := by
  have hp : pos (rs ++ [((x : Int), 1)]) = pos rs ++ [x] := by
    rw [pos_app]
    congr 1
  constructor
  · intro h
    have h2 := h.2.2
    rw [hp, List.nodup_append] at h2
    cases hc : (pos rs).contains x with
    | false => rfl
    | true => exact absurd rfl (h2.2.2 x (List.contains_iff_mem.1 hc) x (by simp))
  · intro h
    refine ⟨hap.1, fun r hr => ?_, ?_⟩
    · rcases List.mem_append.1 hr with hr | hr
      · exact hap.2.1 r hr
      · obtain rfl := List.mem_singleton.1 hr
        exact ⟨by omega, by omega, by omega, by omega⟩
    · rw [hp, List.nodup_append]
      refine ⟨hap.2.2, by simp, fun u hu v hv e => ?_⟩
      subst e
      have hv := List.mem_singleton.1 hv
      subst hv
      rw [List.contains_iff_mem.2 hu] at h
      cases h
/-- the ends and the numbers of the first runs -/
theorem lastR_take {f : List Run} {i : Nat} {r : Run} (h : f[i]? = some r) : lastR (f.take (i + 1)) = r := by
  obtain ⟨hi, he⟩ := List.getElem?_eq_some_iff.1 h
  rw [List.take_succ_eq_append_getElem hi, he, lastR_app]
theorem pair_next {f : List Run} (h : f.Pairwise fun p q => p.1 + p.2 < q.1) {i : Nat} {q : Run} (hi : 0 < i) (hq : f[i]? = some q) : (lastR (f.take i)).1 + (lastR (f.take i)).2 < q.1 := by
  obtain ⟨j, rfl⟩ : ∃ j, i = j + 1 := ⟨i - 1, by omega⟩
  obtain ⟨h1, h2⟩ := List.getElem?_eq_some_iff.1 hq
  have hj : f[j]? = some f[j] := List.getElem?_eq_getElem (by omega)
  rw [lastR_take hj, ← h2]
  exact List.pairwise_iff_getElem.1 h j (j + 1) (by omega) h1 (by omega)
end Go.Proofs.Ytajeohmmobgcjaa
