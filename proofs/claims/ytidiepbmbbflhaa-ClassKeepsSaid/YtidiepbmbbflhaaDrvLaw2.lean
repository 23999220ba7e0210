/- who uses a class: plain. -/
import Derived.Test.YtidiepbmbbflhaaDrvLaw
namespace Go.Proofs.Ytidiepbmbbflhaa.Dr
variable {H : Type} [DecidableEq H]
def usersP (l : List (It H)) (c : H) : List H := (l.filter fun x => x.ins.contains c).map (·.cls)
theorem mem_users {l : List (It H)} {c h : H} : h ∈ usersP l c ↔ ∃ x ∈ l, c ∈ x.ins ∧ x.cls = h := by
  unfold usersP
  constructor
  · intro hm
    obtain ⟨x, hx, rfl⟩ := List.mem_map.1 hm
    obtain ⟨h1, h2⟩ := List.mem_filter.1 hx
    exact ⟨x, h1, by simpa using h2, rfl⟩
  · rintro ⟨x, h1, h2, rfl⟩
    exact List.mem_map.2 ⟨x, List.mem_filter.2 ⟨h1, by simpa using h2⟩, rfl⟩
section
variable {l : List (It H)} (hr : Right l)
include hr
theorem eq_of_cls {x y : It H} (hx : x ∈ l) (hy : y ∈ l) (h : x.cls = y.cls) : x = y := by
  obtain ⟨i, hi⟩ := List.getElem?_of_mem hx
  obtain ⟨j, hj⟩ := List.getElem?_of_mem hy
  have h1 := idx_at hr hi
  have h2 := idx_at hr hj
  rw [h, h2] at h1
  subst h1
  rw [hi] at hj
  exact Option.some.inj hj
theorem users_iff {x : It H} (hx : x ∈ l) (c : H) : x.cls ∈ usersP l c ↔ c ∈ x.ins := by
  rw [mem_users]
  constructor
  · rintro ⟨y, hy, h1, h2⟩
    rw [← eq_of_cls hr hy hx h2]
    exact h1
  · intro h
    exact ⟨x, hx, h, rfl⟩
/-- who uses a class needs it, and is another -/
theorem users_need {x : It H} (hx : x ∈ l) {c : H} (hc : c ∈ x.ins) : c ∈ needsP l x.cls ∧ x.cls ≠ c := by
  obtain ⟨n, hn⟩ := List.getElem?_of_mem hx
  have hi := idx_at hr hn
  have hm := need_self (l := l) (m := n) (List.getElem?_eq_some_iff.1 hn).1
  refine ⟨(needs_ahead hr (c := x.cls) hn (by rw [hi]; exact hm) hc).2, fun e => ?_⟩
  have := hr.ins n x hn c hc
  rw [← e, hi] at this
  omega
theorem right_take (i : Nat) : Right (l.take i) := by
  have ht : css (l.take i) = (css l).take i := by simp [css, List.map_take]
  refine ⟨fun n x hx => ?_, ?_, fun n x hx c hc => ?_⟩
  · rw [List.getElem?_take] at hx
    split at hx
    · exact hr.ok n x hx
    · cases hx
  · rw [ht]
    exact hr.nodup.sublist (List.take_sublist _ _)
  · rw [List.getElem?_take] at hx
    split at hx
    · have h := hr.ins n x hx c hc
      rw [ht]
      have e := List.take_append_drop i (css l)
      rw [← e, List.idxOf_append] at h
      split at h
      · exact h
      · have hl : ((css l).take i).length = min i l.length := by simp [css]
        have := (List.getElem?_eq_some_iff.1 hx).1
        omega
    · cases hx
end
theorem find_at {l : List (It H)} (hr : Right l) {c : H} {x : It H} (hx : x ∈ l) (h : x.cls = c) : l.find? (fun y => decide (y.cls = c)) = some x := by
  cases e : l.find? (fun y => decide (y.cls = c)) with
  | none =>
    have := List.find?_eq_none.1 e x hx
    simp [h] at this
  | some y =>
    have h1 := List.mem_of_find?_eq_some e
    have h2 : y.cls = c := by simpa using List.find?_some e
    rw [eq_of_cls hr h1 hx (h2.trans h.symm)]
end Go.Proofs.Ytidiepbmbbflhaa.Dr
