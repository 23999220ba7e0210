/- Maps in memory, as lists of pairs. -/
import Derived.Test.YtidiepbmbbflhaaBase
import Derived.Maps.Keyed
import Derived.Maps.OwnSet
namespace Go.Proofs.Ytidiepbmbbflhaa
open Go Go.RowKit Go.Maps Go.MapKept Go.ChangeMaps
section
variable {K V : Type} [DecidableEq K]
def mget (m : List (K × V)) (x : K) : Option V := (m.find? fun p => p.1 = x).map (·.2)
def mput (m : List (K × V)) (x : K) (v : V) : List (K × V) := if (mget m x).isSome then m.map (fun p => if p.1 = x then (x, v) else p) else m ++ [(x, v)]
def mdel (m : List (K × V)) (x : K) : List (K × V) := m.filter fun p => p.1 ≠ x
theorem mget_none {m : List (K × V)} {x : K} : mget m x = none ↔ ∀ p ∈ m, p.1 ≠ x := by
  unfold mget
  simp [List.find?_eq_none]
theorem mget_at {m : List (K × V)} (hn : (m.map (·.1)).Nodup) {j : Nat} {x : K} {v : V} (h : m[j]? = some (x, v)) : mget m x = some v := by
  induction m generalizing j with
  | nil => simp at h
  | cons p m ih =>
    unfold mget
    rw [List.find?_cons]
    by_cases hp : p.1 = x
    · simp only [hp, decide_true, Option.map_some]
      cases j with
      | zero => simp at h; rw [h]
      | succ j =>
        simp only [List.getElem?_cons_succ] at h
        have hm : x ∈ m.map (·.1) := List.mem_map.2 ⟨_, List.mem_of_getElem? h, rfl⟩
        simp only [List.map_cons, List.nodup_cons, hp] at hn
        exact absurd hm hn.1
    · simp only [hp, decide_false]
      cases j with
      | zero => simp at h; rw [h] at hp; exact absurd rfl hp
      | succ j => exact ih (by simp only [List.map_cons, List.nodup_cons] at hn; exact hn.2) (by simpa using h)
theorem mget_mem {m : List (K × V)} {x : K} {v : V} (h : mget m x = some v) : (x, v) ∈ m := by
  unfold mget at h
  obtain ⟨p, hp, rfl⟩ := Option.map_eq_some_iff.1 h
  have h1 := List.mem_of_find?_eq_some hp
  have h2 := List.find?_some hp
  simp only [decide_eq_true_eq] at h2
  rw [← h2]
  exact h1
theorem mget_iff {m : List (K × V)} (hn : (m.map (·.1)).Nodup) {x : K} {v : V} : mget m x = some v ↔ (x, v) ∈ m :=
  ⟨mget_mem, fun h => by
    obtain ⟨j, hj⟩ := List.getElem?_of_mem h
    exact mget_at hn hj⟩
omit [DecidableEq K] in
theorem key_idx {m : List (K × V)} (hn : (m.map (·.1)).Nodup) {i j : Nat} {p q : K × V} (hi : m[i]? = some p) (hj : m[j]? = some q) (e : p.1 = q.1) : i = j := by
  obtain ⟨i1, i2⟩ := List.getElem?_eq_some_iff.1 hi
  obtain ⟨j1, j2⟩ := List.getElem?_eq_some_iff.1 hj
  rcases Nat.lt_trichotomy i j with h | h | h
  · exact absurd (show ((m.map (·.1))[i]'(by simpa using i1)) = ((m.map (·.1))[j]'(by simpa using j1)) by simp [i2, j2, e]) (List.pairwise_iff_getElem.1 hn i j (by simpa using i1) (by simpa using j1) h)
  · exact h
  · exact absurd (show ((m.map (·.1))[j]'(by simpa using j1)) = ((m.map (·.1))[i]'(by simpa using i1)) by simp [i2, j2, e]) (List.pairwise_iff_getElem.1 hn j i (by simpa using j1) (by simpa using i1) h)
theorem mput_set {m : List (K × V)} (hn : (m.map (·.1)).Nodup) {j : Nat} {x : K} {u v : V} (h : m[j]? = some (x, u)) : mput m x v = m.set j (x, v) := by
  unfold mput
  rw [if_pos (by rw [mget_at hn h]; rfl)]
  apply List.ext_getElem?
  intro i
  rw [List.getElem?_map, List.getElem?_set]
  by_cases hi : j = i
  · subst hi
    have hlt := (List.getElem?_eq_some_iff.1 h).1
    obtain ⟨_, h2⟩ := List.getElem?_eq_some_iff.1 h
    simp [hlt, h2]
  · rw [if_neg hi]
    cases hp : m[i]? with
    | none => rfl
    | some p =>
      have hne : p.1 ≠ x := by
        intro e
        exact hi (key_idx hn h hp e.symm)
      simp [hne]
theorem mput_new {m : List (K × V)} {x : K} {v : V} (h : mget m x = none) : mput m x v = m ++ [(x, v)] := by
  unfold mput
  rw [h]
  rfl
theorem mput_keys (m : List (K × V)) (x : K) (v : V) : (mput m x v).map (·.1) = if (mget m x).isSome then m.map (·.1) else m.map (·.1) ++ [x] := by
  unfold mput
  split
  · rw [List.map_map]
    apply List.map_congr_left
    intro p _
    simp only [Function.comp]
    split
    · rename_i h; exact h.symm
    · rfl
  · simp
theorem mem_keys {m : List (K × V)} {x : K} : x ∈ m.map (·.1) ↔ (mget m x).isSome = true := by
  constructor
  · intro h
    obtain ⟨p, hp, rfl⟩ := List.mem_map.1 h
    cases hg : mget m p.1 with
    | none => exact absurd rfl (mget_none.1 hg p hp)
    | some v => rfl
  · intro h
    obtain ⟨v, hv⟩ := Option.isSome_iff_exists.1 h
    exact List.mem_map.2 ⟨_, mget_mem hv, rfl⟩
theorem mput_nodup {m : List (K × V)} (hn : (m.map (·.1)).Nodup) (x : K) (v : V) : ((mput m x v).map (·.1)).Nodup := by
  rw [mput_keys]
  split
  · exact hn
  · rename_i h
    rw [List.nodup_append]
    refine ⟨hn, by simp, fun a ha b hb e => ?_⟩
    simp only [List.mem_singleton] at hb
    subst hb e
    exact h (mem_keys.1 ha)
theorem mget_mput (m : List (K × V)) (x y : K) (v : V) : mget (mput m x v) y = if y = x then some v else mget m y := by
  unfold mput
  split
  · rename_i h
    have hg : ∀ l : List (K × V), mget (l.map (fun p => if p.1 = x then (x, v) else p)) y = if y = x then (if (mget l x).isSome then some v else none) else mget l y := by
      intro l
      induction l with
      | nil => by_cases e : y = x <;> simp [mget, e]
      | cons p l ih =>
        unfold mget at ih ⊢
        rw [List.map_cons, List.find?_cons, List.find?_cons, List.find?_cons]
        by_cases hp : p.1 = x
        · by_cases hy : y = x
          · simp [hp, hy]
          · have : ¬ x = y := fun e => hy e.symm
            simp [hp, hy, this] at ih ⊢
            exact ih
        · rw [if_neg hp]
          by_cases hq : p.1 = y
          · have hy : ¬ y = x := fun e => hp (hq.trans e)
            simp [hy, hq]
          · simp only [hq, decide_false, hp]
            exact ih
    rw [hg, h]
    rfl
  · rename_i h
    have hx : mget m x = none := by simpa using h
    unfold mget at hx ⊢
    rw [List.find?_append]
    by_cases hy : y = x
    · subst hy
      have : m.find? (fun p => decide (p.1 = y)) = none := by simpa using hx
      simp [this]
    · have hxy : ¬ x = y := fun e => hy e.symm
      simp [hy, hxy]
theorem mdel_erase {m : List (K × V)} (hn : (m.map (·.1)).Nodup) {j : Nat} {x : K} {u : V} (h : m[j]? = some (x, u)) : mdel m x = m.eraseIdx j := by
  induction m generalizing j with
  | nil => simp at h
  | cons p m ih =>
    simp only [List.map_cons, List.nodup_cons] at hn
    unfold mdel at ih ⊢
    cases j with
    | zero =>
      simp only [List.getElem?_cons_zero, Option.some.injEq] at h
      subst h
      rw [List.filter_cons_of_neg (by simp), List.eraseIdx_zero, List.tail_cons, List.filter_eq_self]
      intro q hq
      simp only [ne_eq, decide_not, Bool.not_eq_eq_eq_not, Bool.not_true, decide_eq_false_iff_not]
      intro e
      exact hn.1 (List.mem_map.2 ⟨q, hq, e⟩)
    | succ j =>
      simp only [List.getElem?_cons_succ] at h
      have hp : p.1 ≠ x := fun e => hn.1 (List.mem_map.2 ⟨_, List.mem_of_getElem? h, e.symm⟩)
      rw [List.filter_cons_of_pos (by simpa using hp), List.eraseIdx_cons_succ, ih hn.2 h]
theorem mdel_none {m : List (K × V)} {x : K} (h : mget m x = none) : mdel m x = m := by
  unfold mdel
  rw [List.filter_eq_self]
  intro p hp
  simpa using mget_none.1 h p hp
theorem mdel_nodup {m : List (K × V)} (hn : (m.map (·.1)).Nodup) (x : K) : ((mdel m x).map (·.1)).Nodup :=
  hn.sublist (List.Sublist.map _ List.filter_sublist)
theorem mget_mdel (m : List (K × V)) (x y : K) : mget (mdel m x) y = if y = x then none else mget m y := by
  by_cases hy : y = x
  · rw [if_pos hy, mget_none]
    intro p hp
    unfold mdel at hp
    have := (List.mem_filter.1 hp).2
    simp only [ne_eq, decide_not, Bool.not_eq_eq_eq_not, Bool.not_true, decide_eq_false_iff_not] at this
    rw [hy]
    exact this
  · rw [if_neg hy]
    unfold mdel mget
    congr 1
    induction m with
    | nil => rfl
    | cons p m ih =>
      by_cases hp : p.1 = x
      · have : ¬ p.1 = y := fun e => hy (e.symm.trans hp)
        rw [List.filter_cons_of_neg (by simpa using hp), List.find?_cons, ih]
        simp [this]
      · rw [List.filter_cons_of_pos (by simpa using hp), List.find?_cons, List.find?_cons, ih]
end
/-- keys of a type, as the map's laws want them -/
structure KeyEnc (P : Program) (k : TypeId) {K : Type} (ek : K → Value) (ok : K → Prop) : Prop where
  law : Keyed P k
  key : ∀ x, ok x → ∃ l, keyOf P k (ek x) = some l
  inj : ∀ x y, ok x → ok y → ek x = ek y → x = y
/-- no stamp twice, none to come -/
def Stamped (es : Array MapEntry) (clock : Nat) : Prop := (es.toList.map (·.born)).Nodup ∧ ∀ e ∈ es.toList, e.born < clock
theorem stamped_push' {es : Array MapEntry} {c : Nat} (h : Stamped es c) (k v : Value) : Stamped (es.push ⟨k, v, c⟩) (c + 1) := by
  refine ⟨?_, fun e he => ?_⟩
  · rw [Array.toList_push, List.map_append, List.nodup_append]
    refine ⟨h.1, by simp, fun a ha b hb e => ?_⟩
    obtain ⟨x, hx, rfl⟩ := List.mem_map.1 ha
    have := h.2 x hx
    simp only [List.map_cons, List.map_nil, List.mem_singleton] at hb
    omega
  · rw [Array.toList_push] at he
    rcases List.mem_append.1 he with he | he
    · have := h.2 e he; omega
    · rw [List.mem_singleton.1 he]; exact Nat.lt_succ_self c
theorem stamped_modify' {es : Array MapEntry} {c : Nat} (h : Stamped es c) (j : Nat) (f : MapEntry → MapEntry) (hf : ∀ e, (f e).born = e.born) : Stamped (es.modify j f) c := by
  have e1 : (es.modify j f).toList.map (·.born) = es.toList.map (·.born) := by
    apply List.ext_getElem?
    intro i
    simp only [Array.toList_modify, List.getElem?_map, List.getElem?_modify]
    by_cases hi : j = i
    · subst hi
      cases es.toList[j]? <;> simp [hf]
    · simp [hi]
  refine ⟨by rw [e1]; exact h.1, fun e he => ?_⟩
  have : e.born ∈ es.toList.map (·.born) := by rw [← e1]; exact List.mem_map.2 ⟨e, he, rfl⟩
  obtain ⟨x, hx, hxe⟩ := List.mem_map.1 this
  rw [← hxe]
  exact h.2 x hx
theorem stamped_erase' {es : Array MapEntry} {c : Nat} (h : Stamped es c) (j : Nat) : Stamped (es.eraseIdxIfInBounds j) c := by
  have hs : (es.eraseIdxIfInBounds j).toList.Sublist es.toList := by
    rw [Array.toList_eraseIdxIfInBounds]
    exact List.eraseIdx_sublist ..
  exact ⟨h.1.sublist (List.Sublist.map _ hs), fun e he => h.2 e (hs.mem he)⟩
/-- block b is a map -/
structure MapIs {K V : Type} (ek : K → Value) (ok : K → Prop) (ev : V → Value) (w : World) (b : Nat) (m : List (K × V)) : Prop where
  at_ : ∃ es clock, w.heap[b]? = some (.map es clock) ∧ es.toList.map (fun e => (e.key, e.val)) = m.map (fun p => (ek p.1, ev p.2)) ∧ Stamped es clock
  nodup : (m.map (·.1)).Nodup
  ok : ∀ p ∈ m, ok p.1
section
variable {P : Program} {k t e : TypeId} {K V : Type} {ek : K → Value} {ok : K → Prop} {ev : V → Value} {w w' : World} {b : Nat} {m : List (K × V)}
theorem MapIs.lt (h : MapIs ek ok ev w b m) : b < w.heap.size := by
  obtain ⟨es, c, h1, _⟩ := h.at_
  exact (Array.getElem?_eq_some_iff.1 h1).1
theorem MapIs.of_eq (h : MapIs ek ok ev w b m) (he : w'.heap[b]? = w.heap[b]?) : MapIs ek ok ev w' b m := ⟨by rw [he]; exact h.at_, h.nodup, h.ok⟩
theorem MapIs.below {B : Nat} (h : MapIs ek ok ev w b m) (hb : Below B w w') (hB : b < B) : MapIs ek ok ev w' b m := h.of_eq (hb.block b hB)
theorem mapIs_new (w : World) : MapIs ek ok ev (w.alloc (.map #[] 0)) w.heap.size ([] : List (K × V)) := ⟨⟨#[], 0, heap_alloc_new w _, rfl, ⟨List.nodup_nil, fun e he => by cases he⟩⟩, List.nodup_nil, fun p hp => by cases hp⟩
variable [DecidableEq K]
/-- what a look for a key finds -/
theorem MapIs.find (h : MapIs ek ok ev w b m) (L : KeyEnc P k ek ok) {x : K} (hx : ok x) {es : Array MapEntry} (he : es.toList.map (fun e => (e.key, e.val)) = m.map (fun p => (ek p.1, ev p.2))) (W : World) :
    ((Instr.findKey k (ek x) es.toList).run P W = .ok none W ∧ mget m x = none) ∨ ∃ j v e, (Instr.findKey k (ek x) es.toList).run P W = .ok (some (j, ev v)) W ∧ m[j]? = some (x, v) ∧ es.toList[j]? = some e ∧ e.key = ek x := by
  obtain ⟨l, hl⟩ := L.key x hx
  have hkeys : ∀ e ∈ es.toList, ∃ y, ok y ∧ e.key = ek y := by
    intro e he2
    have : (e.key, e.val) ∈ m.map (fun p => (ek p.1, ev p.2)) := by rw [← he]; exact List.mem_map.2 ⟨e, he2, rfl⟩
    obtain ⟨p, hp, e2⟩ := List.mem_map.1 this
    injection e2 with e2 _
    exact ⟨p.1, h.ok p hp, e2.symm⟩
  rcases L.law.find W hl es.toList (fun e he2 => by obtain ⟨y, hy, e2⟩ := hkeys e he2; rw [e2]; exact L.key y hy) with ⟨h1, h2⟩ | ⟨j, e, h1, h2, h3⟩
  · refine .inl ⟨h1, mget_none.2 fun p hp e2 => ?_⟩
    have : (ek p.1, ev p.2) ∈ es.toList.map (fun e => (e.key, e.val)) := by rw [he]; exact List.mem_map.2 ⟨p, hp, rfl⟩
    obtain ⟨e3, he3, e4⟩ := List.mem_map.1 this
    injection e4 with e4 _
    exact h2 e3 he3 (by rw [e4, e2])
  · have h4 : (es.toList.map (fun e => (e.key, e.val)))[j]? = some (e.key, e.val) := by rw [List.getElem?_map, h2]; rfl
    rw [he, List.getElem?_map] at h4
    obtain ⟨p, hp, e2⟩ := Option.map_eq_some_iff.1 h4
    injection e2 with e2 e3
    have hpx : p.1 = x := L.inj _ _ (h.ok p (List.mem_of_getElem? hp)) hx (by rw [e2, h3])
    refine .inr ⟨j, p.2, e, by rw [e3]; exact h1, ?_, h2, h3⟩
    rw [hp, ← hpx]
/-- v := m[x] -/
theorem MapIs.look (h : MapIs ek ok ev w b m) (L : KeyEnc P k ek ok) {x : K} (hx : ok x) (ht : P.underlying t = some (.map k e)) {z : Value} (hz : (zeroValue e).run P w = .ok z w) :
    (Instr.lookup t (.map (some b)) (ek x) false).run P w = .ok (((mget m x).map ev).getD z) w := by
  obtain ⟨es, c, h1, h2, h7⟩ := h.at_
  obtain ⟨l, hl⟩ := L.key x hx
  rcases h.find (P := P) L hx h2 w with ⟨h3, h4⟩ | ⟨j, v, e0, h3, h4, _⟩
  · rw [h4]
    simp [Instr.lookup, run_underlying ht, MapKept.run_getObj_map h1, L.law.check w _ hl, h3, hz, Result.andThen]
  · rw [mget_at h.nodup h4]
    simp [Instr.lookup, run_underlying ht, MapKept.run_getObj_map h1, L.law.check w _ hl, h3, Result.andThen]
/-- v, is := m[x] -/
theorem MapIs.look_ok (h : MapIs ek ok ev w b m) (L : KeyEnc P k ek ok) {x : K} (hx : ok x) (ht : P.underlying t = some (.map k e)) {z : Value} (hz : (zeroValue e).run P w = .ok z w) :
    (Instr.lookup t (.map (some b)) (ek x) true).run P w = .ok (.tuple #[((mget m x).map ev).getD z, .bool (mget m x).isSome]) w := by
  obtain ⟨es, c, h1, h2, h7⟩ := h.at_
  obtain ⟨l, hl⟩ := L.key x hx
  rcases h.find (P := P) L hx h2 w with ⟨h3, h4⟩ | ⟨j, v, e0, h3, h4, _⟩
  · rw [h4]
    simp [Instr.lookup, run_underlying ht, MapKept.run_getObj_map h1, L.law.check w _ hl, h3, hz, Result.andThen]
  · rw [mget_at h.nodup h4]
    simp [Instr.lookup, run_underlying ht, MapKept.run_getObj_map h1, L.law.check w _ hl, h3, Result.andThen]
/-- only block b turned -/
def Turn1 (w w' : World) (b : Nat) : Prop := w'.heap.size = w.heap.size ∧ (∀ k, k ≠ b → w'.heap[k]? = w.heap[k]?) ∧ w'.os = w.os ∧ w'.tape = w.tape ∧ w'.output = w.output
theorem Turn1.grown (h : Turn1 w w' b) : w.grownBy w' (some b) := ⟨h.2.2.1, h.2.2.2.1, h.2.2.2.2, by rw [h.1]; exact Nat.le_refl _, fun k _ hne => h.2.1 k (fun e => hne (by rw [e]))⟩
theorem turn1_setBlock (w : World) (b : Nat) (o : Obj) : Turn1 w (setBlock w b o) b := by
  refine ⟨by simp [setBlock], fun k hk => ?_, rfl, rfl, rfl⟩
  simp [setBlock, Ne.symm hk]
theorem setBlock_same (w : World) (b : Nat) (o : Obj) (h : b < w.heap.size) : (setBlock w b o).heap[b]? = some o := by
  simp [setBlock, h]
/-- m[x] = v -/
theorem MapIs.update (h : MapIs ek ok ev w b m) (L : KeyEnc P k ek ok) {x : K} (hx : ok x) (ht : P.underlying t = some (.map k e)) (v : V) :
    ∃ w', (Instr.mapUpdate t (.map (some b)) (ek x) (ev v)).run P w = .ok () w' ∧ MapIs ek ok ev w' b (mput m x v) ∧ Turn1 w w' b := by
  obtain ⟨es, c, h1, h2, h7⟩ := h.at_
  obtain ⟨l, hl⟩ := L.key x hx
  have hlt := h.lt
  have hok : ∀ p ∈ mput m x v, ok p.1 := by
    intro p hp
    unfold mput at hp
    split at hp
    · obtain ⟨q, hq, rfl⟩ := List.mem_map.1 hp
      split
      · exact hx
      · exact h.ok q hq
    · rcases List.mem_append.1 hp with hp | hp
      · exact h.ok p hp
      · simp only [List.mem_singleton] at hp
        subst hp
        exact hx
  rcases h.find (P := P) L hx h2 w with ⟨h3, h4⟩ | ⟨j, u, e0, h3, h4, h5, h6⟩
  · refine ⟨setBlock w b (.map (es.push ⟨ek x, ev v, c⟩) (c + 1)), ?_, ⟨⟨_, _, setBlock_same w b _ hlt, ?_, stamped_push' h7 _ _⟩, mput_nodup h.nodup x v, hok⟩, turn1_setBlock w b _⟩
    · simp [Instr.mapUpdate, run_underlying ht, MapKept.run_getObj_map h1, L.law.check w _ hl, h3, MapKept.run_setObj_map _ h1, Result.andThen, setBlock]
    · rw [mput_new h4]
      simp [h2]
  · have hj : es[j]? = some e0 := by simpa using h5
    refine ⟨setBlock w b (.map (es.modify j fun e => { e with key := ek x, val := ev v }) c), ?_, ⟨⟨_, _, setBlock_same w b _ hlt, ?_, stamped_modify' h7 _ _ (fun _ => rfl)⟩, mput_nodup h.nodup x v, hok⟩, turn1_setBlock w b _⟩
    · simp [Instr.mapUpdate, run_underlying ht, MapKept.run_getObj_map h1, L.law.check w _ hl, h3, hj, h6, L.law.stays w hl, MapKept.run_setObj_map _ h1, Result.andThen, setBlock]
    · rw [mput_set h.nodup h4, List.map_set, ← h2, Array.toList_modify]
      apply List.ext_getElem?
      intro i
      simp only [List.getElem?_map, List.getElem?_modify, List.getElem?_set, List.length_map]
      have hjl := (List.getElem?_eq_some_iff.1 h5).1
      by_cases hi : j = i
      · subst hi
        simp only [Array.length_toList] at hjl
        simp [hjl]
      · simp only [if_neg hi]
        simp
/-- delete(m, x) -/
theorem MapIs.drop (h : MapIs ek ok ev w b m) (L : KeyEnc P k ek ok) {x : K} (hx : ok x) (ht : P.underlying t = some (.map k e)) (ty : TypeId) :
    ∃ w', (Builtin.delete_ #[t, k] ty #[.map (some b), ek x]).run P w = .ok (.tuple #[]) w' ∧ MapIs ek ok ev w' b (mdel m x) ∧ Turn1 w w' b := by
  obtain ⟨es, c, h1, h2, h7⟩ := h.at_
  obtain ⟨l, hl⟩ := L.key x hx
  have hlt := h.lt
  have hok : ∀ p ∈ mdel m x, ok p.1 := fun p hp => h.ok p (List.mem_filter.1 hp).1
  rcases h.find (P := P) L hx h2 w with ⟨h3, h4⟩ | ⟨j, u, e0, h3, h4, h5, h6⟩
  · refine ⟨setBlock w b (.map es c), ?_, ⟨⟨_, _, setBlock_same w b _ hlt, ?_, h7⟩, mdel_nodup h.nodup x, hok⟩, turn1_setBlock w b _⟩
    · simp [Builtin.delete_, run_underlying ht, MapKept.run_getObj_map h1, L.law.check w _ hl, h3, MapKept.run_setObj_map _ h1, Result.andThen, setBlock]
    · rw [mdel_none h4]
      exact h2
  · refine ⟨setBlock w b (.map (es.eraseIdxIfInBounds j) c), ?_, ⟨⟨_, _, setBlock_same w b _ hlt, ?_, stamped_erase' h7 _⟩, mdel_nodup h.nodup x, hok⟩, turn1_setBlock w b _⟩
    · simp [Builtin.delete_, run_underlying ht, MapKept.run_getObj_map h1, L.law.check w _ hl, h3, MapKept.run_setObj_map _ h1, Result.andThen, setBlock]
    · rw [mdel_erase h.nodup h4, map_eraseIdx, ← h2, Array.toList_eraseIdxIfInBounds, map_eraseIdx]
omit [DecidableEq K] in
/-- len(m) -/
theorem MapIs.len (h : MapIs ek ok ev w b m) (ht : P.underlying t = some (.map k e)) (ty : TypeId) : (Builtin.len_ #[t] ty #[.map (some b)]).run P w = .ok (.int .i64 (m.length : Int)) w := by
  obtain ⟨es, c, h1, h2, h7⟩ := h.at_
  have hs : es.size = m.length := by
    have := congrArg List.length h2
    simpa using this
  rw [← hs]
  simp [Builtin.len_, run_underlying ht, MapKept.run_getObj_map h1, Result.andThen]
  rfl
/-- the entry of key x, by its stamp -/
def StampIs (w : World) (b : Nat) (k : Value) (st : Nat) : Prop := ∃ es c e, w.heap[b]? = some (.map es c) ∧ e ∈ es.toList ∧ e.key = k ∧ e.born = st
/-- the entry is there: m as it is, or with a new one of the zero value -/
def ment (m : List (K × V)) (x : K) (z : V) : List (K × V) := if (mget m x).isSome then m else m ++ [(x, z)]
omit [DecidableEq K] in
theorem MapIs.one_len {m' : List (K × V)} (h : MapIs ek ok ev w b m) (h' : MapIs ek ok ev w b m') : m.length = m'.length := by
  obtain ⟨es, c, h1, h2, _⟩ := h.at_
  obtain ⟨es', c', h1', h2', _⟩ := h'.at_
  rw [h1] at h1'
  injection h1' with h1'
  injection h1' with h1' _
  subst h1'
  have := congrArg List.length h2
  have := congrArg List.length h2'
  simp at *
  omega
/-- &m[x], for m[x] op= v -/
theorem MapIs.entry (h : MapIs ek ok ev w b m) (L : KeyEnc P k ek ok) {x : K} (hx : ok x) (ht : P.underlying t = some (.map k e)) {z : V} (hz : (zeroValue e).run P w = .ok (ev z) w) :
    ∃ w' st, (Instr.mapEntry t (.map (some b)) (ek x)).run P w = .ok (.tuple #[ev ((mget m x).getD z), .int .i64 (st : Nat)]) w' ∧ MapIs ek ok ev w' b (ment m x z) ∧ StampIs w' b (ek x) st ∧ Turn1 w w' b ∧ ((mget m x).isSome = true → w' = w) := by
  obtain ⟨es, c, h1, h2, h7⟩ := h.at_
  obtain ⟨l, hl⟩ := L.key x hx
  have hlt := h.lt
  rcases h.find (P := P) L hx h2 w with ⟨h3, h4⟩ | ⟨j, u, e0, h3, h4, h5, h6⟩
  · refine ⟨setBlock w b (.map (es.push ⟨ek x, ev z, c⟩) (c + 1)), c, ?_, ?_, ?_, turn1_setBlock w b _, fun h => by rw [h4] at h; cases h⟩
    · rw [h4]
      simp [Instr.mapEntry, run_underlying ht, MapKept.run_getObj_map h1, L.law.check w _ hl, h3, hz, MapKept.run_setObj_map _ h1, Result.andThen, setBlock]
      rfl
    · unfold ment
      rw [h4]
      refine ⟨⟨_, _, setBlock_same w b _ hlt, by simp [h2], stamped_push' h7 _ _⟩, ?_, fun p hp => ?_⟩
      · have := mput_nodup h.nodup x z
        rw [mput_new h4] at this
        exact this
      · rcases List.mem_append.1 hp with hp | hp
        · exact h.ok p hp
        · rw [List.mem_singleton.1 hp]; exact hx
    · exact ⟨_, _, ⟨ek x, ev z, c⟩, setBlock_same w b _ hlt, by simp, rfl, rfl⟩
  · have hj : es[j]? = some e0 := by simpa using h5
    have hsame : es.modify j (fun e => { e with key := ek x }) = es := by
      apply Array.ext'
      apply List.ext_getElem?
      intro i
      simp only [Array.toList_modify, List.getElem?_modify]
      by_cases hi : j = i
      · subst hi
        rw [h5]
        simp [← h6]
      · simp [hi]
    have hw : setBlock w b (.map es c) = w := by
      unfold setBlock
      have : w.heap.setIfInBounds b (.map es c) = w.heap := by
        apply Array.ext'
        apply List.ext_getElem?
        intro i
        simp only [Array.toList_setIfInBounds, List.getElem?_set]
        by_cases hi : b = i
        · subst hi
          have : w.heap.toList[b]? = some (.map es c) := by simpa using h1
          simp [this]
          exact hlt
        · simp [hi]
      rw [this]
    refine ⟨w, e0.born, ?_, ?_, ⟨es, c, e0, h1, List.mem_of_getElem? h5, h6, rfl⟩, ⟨rfl, fun _ _ => rfl, rfl, rfl, rfl⟩, fun _ => rfl⟩
    · rw [mget_at h.nodup h4]
      have := MapKept.run_setObj_map (P := P) (.map (es.modify j fun e => { e with key := ek x }) c) h1
      rw [hsame] at this
      simp [Instr.mapEntry, run_underlying ht, MapKept.run_getObj_map h1, L.law.check w _ hl, h3, hj, h6, L.law.stays w hl, hsame, MapKept.run_setObj_map _ h1, Result.andThen]
      rw [show ({ w with heap := w.heap.setIfInBounds b (.map es c) } : World) = setBlock w b (.map es c) from rfl, hw]
      exact ⟨rfl, rfl⟩
    · unfold ment
      rw [mget_at h.nodup h4]
      exact h
/-- .. and its store -/
theorem MapIs.entry_store {m0 : List (K × V)} {x : K} {z : V} (h : MapIs ek ok ev w b (ment m0 x z)) (L : KeyEnc P k ek ok) (hx : ok x) {st : Nat} (hst : StampIs w b (ek x) st) (v : V) (t : TypeId) :
    ∃ w', (Instr.entryStore t (.map (some b)) (.int .i64 (st : Nat)) (ev v)).run P w = .ok () w' ∧ MapIs ek ok ev w' b (mput m0 x v) ∧ Turn1 w w' b := by
  obtain ⟨es, c, h1, h2, h7⟩ := h.at_
  obtain ⟨es', c', e0, h1', he0, hk0, hb0⟩ := hst
  rw [h1] at h1'
  injection h1' with h1'
  injection h1' with h1' _
  subst h1'
  have hlt := h.lt
  obtain ⟨j, hj⟩ := List.getElem?_of_mem he0
  obtain ⟨hjl, hje⟩ := List.getElem?_eq_some_iff.1 hj
  have hfi : es.findIdx? (fun e => (e.born : Int) == (st : Int)) = some j := by
    rw [Array.findIdx?_eq_some_iff_getElem]
    have hje2 : es[j]'(by simpa using hjl) = e0 := by simpa using hje
    refine ⟨by simpa using hjl, by rw [hje2, hb0]; simp, fun i hi => ?_⟩
    have hne := List.pairwise_iff_getElem.1 h7.1 i j (by simp at hjl ⊢; omega) (by simpa using hjl) hi
    simp only [List.getElem_map] at hne
    rw [hje, hb0] at hne
    simp
    intro e
    apply hne
    have e2 := Int.ofNat_inj.1 e
    simpa using e2
  have hm : (ment m0 x z)[j]? = some (x, ((ment m0 x z)[j]?.map (·.2)).getD z) := by
    have h4 : (es.toList.map (fun e => (e.key, e.val)))[j]? = some (e0.key, e0.val) := by rw [List.getElem?_map, hj]; rfl
    rw [h2, List.getElem?_map] at h4
    obtain ⟨p, hp, e2⟩ := Option.map_eq_some_iff.1 h4
    injection e2 with e2 _
    have : p.1 = x := L.inj _ _ (h.ok p (List.mem_of_getElem? hp)) hx (by rw [e2, hk0])
    rw [hp]
    simp [← this]
  have hset : mput m0 x v = (ment m0 x z).set j (x, v) := by
    rw [← mput_set h.nodup hm]
    unfold ment
    cases hg : mget m0 x with
    | some u => rfl
    | none =>
      simp only [Option.isSome_none, Bool.false_eq_true, if_false]
      rw [mput_new hg]
      unfold mput
      rw [if_pos (by unfold mget at hg ⊢; rw [List.find?_append]; simp at hg; simp), List.map_append]
      congr 1
      · rw [List.map_congr_left (g := id) (fun p hp => by rw [if_neg (mget_none.1 hg p hp)]; rfl), List.map_id]
      · simp
  refine ⟨setBlock w b (.map (es.modify j fun e => { e with val := ev v }) c), ?_, ⟨⟨_, _, setBlock_same w b _ hlt, ?_, stamped_modify' h7 _ _ (fun _ => rfl)⟩, ?_, ?_⟩, turn1_setBlock w b _⟩
  · simp [Instr.entryStore, asInt, asIntOf, MapKept.run_getObj_map h1, hfi, MapKept.run_setObj_map _ h1, Result.andThen, setBlock]
  · rw [hset, List.map_set, ← h2, Array.toList_modify]
    apply List.ext_getElem?
    intro i
    simp only [List.getElem?_map, List.getElem?_modify, List.getElem?_set, List.length_map]
    by_cases hi : j = i
    · subst hi
      simp only [Array.length_toList] at hjl
      rw [hj]
      simp [hjl, hk0]
    · simp only [if_neg hi]
      simp
  · rw [hset]
    have e : ((ment m0 x z).set j (x, v)).map (·.1) = (ment m0 x z).map (·.1) := by
      rw [List.map_set]
      apply List.ext_getElem?
      intro i
      rw [List.getElem?_set]
      split
      · rename_i hi
        subst hi
        rw [List.getElem?_map, hm]
        simp at hjl
        have := congrArg List.length h2
        simp at this
        simp [← this, hjl]
      · rfl
    rw [e]
    exact h.nodup
  · intro p hp
    rw [hset] at hp
    rcases List.mem_or_eq_of_mem_set hp with hp | hp
    · exact h.ok p hp
    · rw [hp]; exact hx
end
section
variable {P : Program} {ρ : Operand → Value} {o : Oper} {w w' : World}
/-- an operation on a map whose run is known -/
theorem exec_lookup (t : TypeId) (m x : Operand) (c : Bool) (ho : o.op = .lookup t m x c) (mv kv v : Value) (hm : ρ m = mv) (hx : ρ x = kv) (hr : (Instr.lookup t mv kv c).run P w = .ok v w) : (execOp ρ o).run P w = .ok (.value v) w := by
  unfold execOp
  simp only [ho, hm, hx, Sem.run_bind, hr, Result.andThen_ok, Sem.run_pure]
theorem exec_mapEntry (t : TypeId) (m x : Operand) (ho : o.op = .mapEntry t m x) (mv kv v : Value) (hm : ρ m = mv) (hx : ρ x = kv) (hr : (Instr.mapEntry t mv kv).run P w = .ok v w') : (execOp ρ o).run P w = .ok (.value v) w' := by
  unfold execOp
  simp only [ho, hm, hx, Sem.run_bind, hr, Result.andThen_ok, Sem.run_pure]
end
section
variable {P : Program} {ops : Array Oper} {rest : List Oper} {o : Oper} {a : Act} {w w' : World} {Q : Exit → Act → World → Prop}
theorem wpList_entryStore (hg : o.guard = none) (t : TypeId) (m s x : Operand) (ho : o.op = .entryStore t m s x) (mv sv v : Value) (hm : a.eval m = mv) (hs : a.eval s = sv) (hx : a.eval x = v) (hr : (Instr.entryStore t mv sv v).run P w = .ok () w')
    (h : wpList P ops Q rest (a.put o.dst undef) w') : wpList P ops Q (o :: rest) a w := by
  refine wpList_plain hg fun K hK => ?_
  unfold Oper.wp
  simp [execOp, ho, hm, hs, hx, hr, Result.andThen]
  exact hK _ _ h
theorem wpList_mapUpdate (hg : o.guard = none) (t : TypeId) (m x v : Operand) (ho : o.op = .mapUpdate t m x v) (mv kv vv : Value) (hm : a.eval m = mv) (hx : a.eval x = kv) (hv : a.eval v = vv) (hr : (Instr.mapUpdate t mv kv vv).run P w = .ok () w')
    (h : wpList P ops Q rest (a.put o.dst undef) w') : wpList P ops Q (o :: rest) a w := by
  refine wpList_plain hg fun K hK => ?_
  unfold Oper.wp
  simp [execOp, ho, hm, hx, hv, hr, Result.andThen]
  exact hK _ _ h
end
end Go.Proofs.Ytidiepbmbbflhaa
