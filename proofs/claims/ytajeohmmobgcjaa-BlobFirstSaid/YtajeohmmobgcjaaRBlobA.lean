/- spenceref07: Need, right, marks. -/
import Derived.Test.YtajeohmmobgcjaaFieldD
import Derived.Test.YtajeohmmobgcjaaMade
namespace Go.Proofs.Ytajeohmmobgcjaa
open Go Go.RowKit
set_option maxRecDepth 100000
theorem rneed_any (n : Int) (hn : -9223372036854775808 ≤ n ∧ n ≤ 9223372036854775807) (w : World) : Calls Try.prog 19 #[.int .i64 n] w fun e w' => e = .returned (.int .i64 (needP n)) ∧ w' = w := by
  by_cases h : n ≤ 0
  · rw [needP, if_pos h]
    have h1 : n < 1 := by omega
    go_enter Try.func19, Try.ntmps19
    go_wp2
    go_ret
    exact ⟨rfl, rfl⟩
  · rw [needP, if_neg h]
    have h1 : ¬ n < 1 := by omega
    have q1 : 0 ≤ (n - 1) / 64 := by omega
    have q2 : (n - 1) / 64 < 9223372036854775807 := by omega
    have q3 : Int.tdiv (n - 1) 64 = (n - 1) / 64 := Int.tdiv_eq_ediv_of_nonneg (by omega)
    go_enter Try.func19, Try.ntmps19
    go_wp2
    go_ret
    exact ⟨rfl, rfl⟩
theorem rokr_any (d : Int) (r : Run) (hd : 0 ≤ d ∧ d ≤ 100000) (hr : r64 r) (w : World) : Calls Try.prog 80 #[.int .i64 d, .agg #[.int .i64 r.1, .int .i64 r.2]] w fun e w' => e = .returned (.bool (decide (okRun d r))) ∧ w' = w.alloc (.cells #[.int .i64 r.1, .int .i64 r.2] 40) := by
  obtain ⟨d1, d2⟩ := hd
  obtain ⟨⟨r1, r2⟩, r3, r4⟩ := hr
  by_cases q1 : 0 ≤ r.1
  · by_cases q2 : r.1 < d
    · by_cases q3 : 1 ≤ r.2
      · by_cases q4 : r.2 ≤ d - r.1
        · have h := decide_eq_true (show okRun d r from ⟨q1, q2, q3, q4⟩)
          go_enter Try.func80, Try.ntmps80
          go_wp2
          go_ret
          first | exact ⟨rfl, rfl⟩ | (rw [h]; exact ⟨rfl, rfl⟩)
        · have h := decide_eq_false (show ¬ okRun d r from fun h => q4 h.2.2.2)
          go_enter Try.func80, Try.ntmps80
          go_wp2
          go_ret
          first | exact ⟨rfl, rfl⟩ | (rw [h]; exact ⟨rfl, rfl⟩)
      · have h := decide_eq_false (show ¬ okRun d r from fun h => q3 h.2.2.1)
        go_enter Try.func80, Try.ntmps80
        go_wp2
        go_ret
        first | exact ⟨rfl, rfl⟩ | (rw [h]; exact ⟨rfl, rfl⟩)
    · have h := decide_eq_false (show ¬ okRun d r from fun h => q2 h.2.1)
      go_enter Try.func80, Try.ntmps80
      go_wp2
      go_ret
      first | exact ⟨rfl, rfl⟩ | (rw [h]; exact ⟨rfl, rfl⟩)
  · have h := decide_eq_false (show ¬ okRun d r from fun h => q1 h.1)
    go_enter Try.func80, Try.ntmps80
    go_wp2
    go_ret
    first | exact ⟨rfl, rfl⟩ | (rw [h]; exact ⟨rfl, rfl⟩)
/-- which of d sectors are marked -/
def marksC (d : Nat) (l : List Nat) : List Value := (List.range d).map fun x => .bool (l.contains x)
theorem marksC_len (d : Nat) (l : List Nat) : (marksC d l).length = d := by simp [marksC]
theorem marksC_nil (d : Nat) : marksC d [] = List.replicate d (.bool false) := by
  unfold marksC
  apply List.ext_getElem
  · simp
  · intro i h1 h2
    simp
theorem marksC_at {d x : Nat} (l : List Nat) (h : x < d) : (marksC d l)[x]? = some (.bool (l.contains x)) := by
  simp [marksC, h]
theorem marksC_set {d p : Nat} (l : List Nat) (h : p < d) : (marksC d l).take p ++ ([.bool true] ++ (marksC d l).drop (p + 1)) = marksC d (l ++ [p]) := by
  apply List.ext_getElem?
  intro i
  rcases Nat.lt_or_ge i d with hi | hi
  · rw [marksC_at _ hi]
    have h3 : (List.take p (marksC d l)).length = p := by rw [List.length_take, marksC_len]; omega
    rcases Nat.lt_trichotomy i p with h2 | h2 | h2
    · rw [List.getElem?_append_left (by omega), List.getElem?_take_of_lt h2, marksC_at _ hi]
      congr 2
      rw [Bool.eq_iff_iff, List.contains_iff_mem, List.contains_iff_mem, List.mem_append]
      constructor
      · exact .inl
      · rintro (h | h)
        · exact h
        · have := List.mem_singleton.1 h
          omega
    · subst h2
      rw [List.getElem?_append_right (by omega), h3, Nat.sub_self]
      simp
    · rw [List.getElem?_append_right (by omega), h3, List.getElem?_append_right (by simp; omega), List.getElem?_drop, show p + 1 + (i - p - [Value.bool true].length) = i by simp; omega, marksC_at _ hi]
      congr 2
      rw [Bool.eq_iff_iff, List.contains_iff_mem, List.contains_iff_mem, List.mem_append]
      constructor
      · exact .inl
      · rintro (h | h)
        · exact h
        · have := List.mem_singleton.1 h
          omega
  · rw [List.getElem?_eq_none (by rw [List.length_append, List.length_append, List.length_take, List.length_drop, marksC_len]; simp; omega), List.getElem?_eq_none (by rw [marksC_len]; omega)]
end Go.Proofs.Ytajeohmmobgcjaa
