/- which derivations need which: plain. -/
import Derived.Test.YtidiepbmbbflhaaBase
namespace Go.Proofs.Ytidiepbmbbflhaa.Dr
variable {H : Type} [DecidableEq H]
/-- an item: its class, those that it needs, whether it can be written -/
structure It (H : Type) where
  cls : H
  ins : List H
  ok : Bool
def css (l : List (It H)) : List H := l.map (·.cls)
def rightA (known : List H) : List (It H) → Bool
  | [] => true
  | x :: l => x.ok && !known.contains x.cls && x.ins.all (fun c => known.contains c) && rightA (known ++ [x.cls]) l
def rightP (l : List (It H)) : Bool := rightA [] l
/-- what right items are -/
structure Right (l : List (It H)) : Prop where
  ok : ∀ (n : Nat) (x : It H), l[n]? = some x → x.ok = true
  nodup : (css l).Nodup
  ins : ∀ (n : Nat) (x : It H), l[n]? = some x → ∀ c ∈ x.ins, (css l).idxOf c < n
theorem rightA_iff (l : List (It H)) : ∀ known : List H, known.Nodup → (rightA known l = true ↔ (∀ (n : Nat) (x : It H), l[n]? = some x → x.ok = true) ∧ (known ++ css l).Nodup ∧ ∀ (n : Nat) (x : It H), l[n]? = some x → ∀ c ∈ x.ins, (known ++ css l).idxOf c < known.length + n) := by
  induction l with
  | nil => intro known hk; simp [rightA, css, hk]
  | cons x l ih =>
    intro known hk
    have ea : known ++ css (x :: l) = (known ++ [x.cls]) ++ css l := by simp [css]
    simp only [rightA, Bool.and_eq_true, Bool.not_eq_true', List.all_eq_true, List.contains_iff_mem]
    constructor
    · rintro ⟨⟨⟨h1, h2⟩, h3⟩, h4⟩
      have h2 : x.cls ∉ known := by simpa using h2
      have hn : (known ++ [x.cls]).Nodup := by
        rw [List.nodup_append]
        refine ⟨hk, by simp, ?_⟩
        intro a ha b hb e
        rw [List.mem_singleton.1 hb] at e
        exact h2 (e ▸ ha)
      obtain ⟨i1, i2, i3⟩ := (ih _ hn).1 h4
      refine ⟨?_, by rw [ea]; exact i2, ?_⟩
      · intro n y hy
        cases n with
        | zero => injection hy with hy; subst hy; exact h1
        | succ n => exact i1 n y hy
      · intro n y hy c hc
        rw [ea]
        cases n with
        | zero =>
          injection hy with hy
          subst hy
          have hck : c ∈ known := by simpa using h3 c hc
          rw [List.append_assoc, List.idxOf_append, if_pos hck]
          exact List.idxOf_lt_length_iff.2 hck
        | succ n =>
          have := i3 n y hy c hc
          rw [List.length_append, List.length_singleton] at this
          omega
    · rintro ⟨h1, h2, h3⟩
      rw [ea] at h2
      have hn : (known ++ [x.cls]).Nodup := (List.nodup_append.1 h2).1
      refine ⟨⟨⟨h1 0 x rfl, ?_⟩, ?_⟩, (ih _ hn).2 ⟨fun n y hy => h1 (n + 1) y hy, h2, fun n y hy c hc => ?_⟩⟩
      · have h5 := (List.nodup_append.1 hn).2.2
        have : x.cls ∉ known := fun hm => h5 _ hm _ (List.mem_singleton.2 rfl) rfl
        simpa using this
      · intro c hc
        have h5 := h3 0 x rfl c hc
        rw [Nat.add_zero, List.idxOf_append] at h5
        split at h5
        · rename_i hm; simpa using hm
        · omega
      · have h5 := h3 (n + 1) y hy c hc
        rw [ea] at h5
        rw [List.length_append, List.length_singleton]
        omega
theorem rightP_iff (l : List (It H)) : rightP l = true ↔ Right l := by
  have h := rightA_iff l [] List.nodup_nil
  simp only [List.nil_append, List.length_nil, Nat.zero_add] at h
  exact ⟨fun e => by obtain ⟨a, b, c⟩ := h.1 e; exact ⟨a, b, c⟩, fun ⟨a, b, c⟩ => h.2 ⟨a, b, c⟩⟩
/-! what is needed: marked from one down -/
def mset (cs : List H) (ins : List H) (b : List Bool) : List Bool := ins.foldl (fun b c => b.set (cs.idxOf c) true) b
def insAt (l : List (It H)) (n : Nat) : List H := (l[n]?.map (·.ins)).getD []
def markA (l : List (It H)) : Nat → List Bool → List Bool
  | 0, b => b
  | n + 1, b => markA l n (if b[n]?.getD false then mset (css l) (insAt l n) b else b)
def needP (l : List (It H)) (m : Nat) : List Bool := markA l (m + 1) ((List.replicate l.length false).set m true)
abbrev Mk (b : List Bool) (k : Nat) : Prop := b[k]? = some true
theorem mset_len (cs : List H) : ∀ (ins : List H) (b : List Bool), (mset cs ins b).length = b.length
  | [], _ => rfl
  | c :: ins, b => by
    show (mset cs ins (b.set _ true)).length = _
    rw [mset_len cs ins, List.length_set]
theorem markA_len (l : List (It H)) : ∀ (n : Nat) (b : List Bool), (markA l n b).length = b.length
  | 0, _ => rfl
  | n + 1, b => by
    unfold markA
    rw [markA_len l n]
    split
    · exact mset_len _ _ _
    · rfl
theorem needP_len (l : List (It H)) (m : Nat) : (needP l m).length = l.length := by
  unfold needP
  rw [markA_len, List.length_set, List.length_replicate]
theorem mset_mk (cs : List H) : ∀ (ins : List H) (b : List Bool) (k : Nat), Mk (mset cs ins b) k ↔ Mk b k ∨ (k < b.length ∧ ∃ c ∈ ins, cs.idxOf c = k)
  | [], b, k => by simp [mset]
  | c :: ins, b, k => by
    show Mk (mset cs ins (b.set (cs.idxOf c) true)) k ↔ _
    rw [mset_mk cs ins, List.length_set]
    unfold Mk
    rw [List.getElem?_set]
    constructor
    · rintro (h | ⟨h1, c', hc', h2⟩)
      · split at h
        · rename_i e
          split at h
          · exact .inr ⟨by omega, c, by simp, e⟩
          · cases h
        · exact .inl h
      · exact .inr ⟨h1, c', by simp [hc'], h2⟩
    · rintro (h | ⟨h1, c', hc', h2⟩)
      · left
        split
        · rename_i e
          rw [if_pos (by have := (List.getElem?_eq_some_iff.1 h).1; omega)]
        · exact h
      · rcases List.mem_cons.1 hc' with rfl | hc'
        · left
          rw [if_pos h2, if_pos (by omega)]
        · exact .inr ⟨h1, c', hc', h2⟩
section
variable {l : List (It H)} (hr : Right l)
include hr
theorem insAt_lt {n : Nat} {c : H} (hc : c ∈ insAt l n) : (css l).idxOf c < n := by
  unfold insAt at hc
  cases h : l[n]? with
  | none => rw [h] at hc; cases hc
  | some x => rw [h] at hc; exact hr.ins n x h c hc
theorem markA_keep : ∀ (n : Nat) (b : List Bool) (k : Nat), n ≤ k + 1 → (Mk (markA l n b) k ↔ Mk b k)
  | 0, _, _, _ => Iff.rfl
  | n + 1, b, k, hk => by
    unfold markA
    rw [markA_keep n _ k (by omega)]
    split
    · rw [mset_mk]
      constructor
      · rintro (h | ⟨_, c, hc, e⟩)
        · exact h
        · have := insAt_lt hr hc; omega
      · exact .inl
    · exact Iff.rfl
omit hr in
theorem markA_mono : ∀ (n : Nat) (b : List Bool) (k : Nat), Mk b k → Mk (markA l n b) k
  | 0, _, _, h => h
  | n + 1, b, k, h => by
    unfold markA
    refine markA_mono n _ k ?_
    split
    · exact (mset_mk _ _ _ _).2 (.inl h)
    · exact h
omit hr in
theorem markA_least (S : Nat → Prop) (hS : ∀ n, S n → ∀ c ∈ insAt l n, S ((css l).idxOf c)) : ∀ (n : Nat) (b : List Bool), (∀ k, Mk b k → S k) → ∀ k, Mk (markA l n b) k → S k
  | 0, _, h => h
  | n + 1, b, h => by
    unfold markA
    refine markA_least S hS n _ fun k hk => ?_
    split at hk
    · rename_i hb
      rcases (mset_mk _ _ _ _).1 hk with hk | ⟨_, c, hc, rfl⟩
      · exact h k hk
      · refine hS n (h n ?_) c hc
        cases e : b[n]? with
        | none => rw [e] at hb; cases hb
        | some v => rw [e] at hb; show b[n]? = some true; rw [e]; exact congrArg some hb
    · exact h k hk
theorem markA_closed : ∀ (n : Nat) (b : List Bool), b.length = l.length → ∀ n', n' < n → Mk (markA l n b) n' → ∀ c ∈ insAt l n', Mk (markA l n b) ((css l).idxOf c)
  | 0, _, _, _, h, _, _, _ => absurd h (by omega)
  | n + 1, b, hb, n', hn, hm, c, hc => by
    have hlt := insAt_lt hr hc
    unfold markA at hm ⊢
    by_cases h : n' < n
    · refine markA_closed n _ ?_ n' h hm c hc
      split
      · rw [mset_len]; exact hb
      · exact hb
    · obtain rfl : n' = n := by omega
      rw [markA_keep hr n' _ n' (by omega)] at hm
      refine markA_mono n' _ _ ?_
      have hbn : Mk b n' := by
        split at hm
        · rcases (mset_mk _ _ _ _).1 hm with h | ⟨_, c', hc', e⟩
          · exact h
          · have := insAt_lt hr hc'; omega
        · exact hm
      have : b[n']?.getD false = true := by rw [hbn]; rfl
      rw [if_pos this]
      exact (mset_mk _ _ _ _).2 (.inr ⟨by have := (List.getElem?_eq_some_iff.1 hbn).1; omega, c, hc, rfl⟩)
omit hr in
theorem markA_from : ∀ (n : Nat) (b : List Bool) (k : Nat), Mk (markA l n b) k → Mk b k ∨ ∃ n', Mk (markA l n b) n' ∧ ∃ c ∈ insAt l n', (css l).idxOf c = k
  | 0, _, _, h => .inl h
  | n + 1, b, k, h => by
    unfold markA at h ⊢
    rcases markA_from n _ k h with h1 | h1
    · split at h1
      · rename_i hb
        rcases (mset_mk _ _ _ _).1 h1 with h2 | ⟨_, c, hc, e⟩
        · exact .inl h2
        · refine .inr ⟨n, markA_mono n _ _ ?_, c, hc, e⟩
          rw [if_pos hb]
          refine (mset_mk _ _ _ _).2 (.inl ?_)
          cases e : b[n]? with
          | none => rw [e] at hb; cases hb
          | some v => rw [e] at hb; show b[n]? = some true; rw [e]; exact congrArg some hb
      · exact .inl h1
    · exact .inr h1
omit hr in
theorem need_self {m : Nat} (hm : m < l.length) : Mk (needP l m) m := by
  unfold needP
  refine markA_mono _ _ _ ?_
  show (List.set _ m true)[m]? = some true
  rw [List.getElem?_set_self (by simpa using hm)]
omit hr in
theorem init_mk {n m k : Nat} (h : Mk ((List.replicate n false).set m true) k) : k = m := by
  unfold Mk at h
  rw [List.getElem?_set] at h
  split at h
  · rename_i e; exact e.symm
  · rw [List.getElem?_replicate] at h
    split at h <;> cases h
theorem need_le {m k : Nat} (h : Mk (needP l m) k) : k ≤ m :=
  markA_least (l := l) (fun k => k ≤ m) (fun n hn c hc => by have := insAt_lt hr hc; omega) (m + 1) _ (fun k hk => Nat.le_of_eq (init_mk hk)) k h
theorem need_closed {m n : Nat} (h : Mk (needP l m) n) {c : H} (hc : c ∈ insAt l n) : Mk (needP l m) ((css l).idxOf c) :=
  markA_closed hr (m + 1) _ (by simp) n (by have := need_le hr h; omega) h c hc
omit hr in
theorem need_from {m k : Nat} (h : Mk (needP l m) k) : k = m ∨ ∃ n, Mk (needP l m) n ∧ ∃ c ∈ insAt l n, (css l).idxOf c = k :=
  (markA_from (m + 1) _ k h).imp init_mk id
theorem need_least {m n k : Nat} (h : Mk (needP l m) n) (hk : Mk (needP l n) k) : Mk (needP l m) k :=
  markA_least (l := l) (fun k => Mk (needP l m) k) (fun _ hn _ hc => need_closed hr hn hc) (n + 1) _ (fun k hk => by rw [init_mk hk]; exact h) k hk
end
/-! the row of those that are marked -/
def outA : List H → List Bool → List H
  | x :: l, true :: b => x :: outA l b
  | _ :: l, false :: b => outA l b
  | [], _ => []
  | _ :: _, [] => []
def cnt (b : List Bool) (k : Nat) : Nat := (b.take k).count true
omit [DecidableEq H] in
theorem outA_len : ∀ (l : List H) (b : List Bool), b.length = l.length → (outA l b).length = b.count true
  | [], b, h => by rw [List.eq_nil_of_length_eq_zero h]; rfl
  | x :: l, [], h => by simp at h
  | x :: l, true :: b, h => by simp [outA, outA_len l b (by simpa using h)]
  | x :: l, false :: b, h => by simp [outA, outA_len l b (by simpa using h)]
omit [DecidableEq H] in
theorem outA_get : ∀ (l : List H) (b : List Bool) (n : Nat), b.length = l.length → Mk b n → (outA l b)[cnt b n]? = l[n]?
  | [], b, n, h, hm => by rw [List.eq_nil_of_length_eq_zero h] at hm; simp [Mk] at hm
  | x :: l, [], n, h, hm => by simp at h
  | x :: l, true :: b, 0, h, hm => rfl
  | x :: l, false :: b, 0, h, hm => by simp [Mk] at hm
  | x :: l, true :: b, n + 1, h, hm => by
    have := outA_get l b n (by simpa using h) (by simpa [Mk] using hm)
    simpa [outA, cnt] using this
  | x :: l, false :: b, n + 1, h, hm => by
    have := outA_get l b n (by simpa using h) (by simpa [Mk] using hm)
    simpa [outA, cnt] using this
omit [DecidableEq H] in
theorem outA_from : ∀ (l : List H) (b : List Bool) (i : Nat), b.length = l.length → i < (outA l b).length → ∃ n, Mk b n ∧ cnt b n = i
  | [], b, i, h, hi => by simp [outA] at hi
  | x :: l, [], i, h, hi => by simp at h
  | x :: l, true :: b, 0, h, hi => ⟨0, rfl, rfl⟩
  | x :: l, true :: b, i + 1, h, hi => by
    obtain ⟨n, h1, h2⟩ := outA_from l b i (by simpa using h) (by simpa [outA] using hi)
    exact ⟨n + 1, by simpa [Mk] using h1, by simpa [cnt] using h2⟩
  | x :: l, false :: b, i, h, hi => by
    obtain ⟨n, h1, h2⟩ := outA_from l b i (by simpa using h) (by simpa [outA] using hi)
    exact ⟨n + 1, by simpa [Mk] using h1, by simpa [cnt] using h2⟩
omit [DecidableEq H] in
theorem outA_sub : ∀ (l : List H) (b : List Bool), (outA l b).Sublist l
  | [], b => by cases b <;> exact List.Sublist.slnil
  | x :: l, [] => List.nil_sublist _
  | x :: l, true :: b => (outA_sub l b).cons_cons x
  | x :: l, false :: b => (outA_sub l b).cons x
theorem cnt_succ {b : List Bool} {k : Nat} (h : Mk b k) : cnt b (k + 1) = cnt b k + 1 := by
  unfold cnt
  rw [List.take_add_one, h]
  simp
theorem cnt_mono {b : List Bool} {k n : Nat} (h : k ≤ n) : cnt b k ≤ cnt b n := by
  unfold cnt
  exact List.Sublist.count_le _ (List.take_sublist_take_left h)
theorem cnt_lt {b : List Bool} {k n : Nat} (h : Mk b k) (hk : k < n) : cnt b k < cnt b n := by
  have := cnt_succ h
  have := cnt_mono (b := b) (show k + 1 ≤ n by omega)
  omega
/-- fewer are marked -/
theorem count_sub : ∀ (b b' : List Bool), b.length = b'.length → (∀ k, Mk b' k → Mk b k) → b'.count true ≤ b.count true
  | [], b', h, _ => by rw [List.eq_nil_of_length_eq_zero h.symm]; exact Nat.le_refl _
  | x :: b, [], h, _ => by simp at h
  | x :: b, y :: b', h, hs => by
    have ih := count_sub b b' (by simpa using h) fun k hk => by have := hs (k + 1) (by simpa [Mk] using hk); simpa [Mk] using this
    cases y with
    | false => cases x <;> simp <;> omega
    | true =>
      have := hs 0 rfl
      simp [Mk] at this
      subst this
      simpa using ih
/-- what a class needs -/
def needsP (l : List (It H)) (c : H) : List H := outA (css l) (needP l ((css l).idxOf c))
section
variable {l : List (It H)} (hr : Right l)
include hr
theorem idx_at {n : Nat} {x : It H} (h : l[n]? = some x) : (css l).idxOf x.cls = n := by
  have hn : n < (css l).length := by
    have := (List.getElem?_eq_some_iff.1 h).1
    simpa [css] using this
  have e : (css l)[n] = x.cls := by
    have h2 : (css l)[n]? = some x.cls := by simp [css, h]
    rw [List.getElem?_eq_getElem hn] at h2
    exact Option.some.inj h2
  rw [← e]
  exact hr.nodup.idxOf_getElem n hn
theorem out_nodup (b : List Bool) : (outA (css l) b).Nodup := hr.nodup.sublist (outA_sub _ _)
/-- where a class that is marked stands -/
theorem out_at {b : List Bool} (hb : b.length = l.length) {n : Nat} {x : It H} (h : l[n]? = some x) (hm : Mk b n) : (outA (css l) b)[cnt b n]? = some x.cls ∧ (outA (css l) b).idxOf x.cls = cnt b n := by
  have h1 : (outA (css l) b)[cnt b n]? = some x.cls := by
    rw [outA_get _ _ n (by rw [hb]; simp [css]) hm]
    simp [css, h]
  refine ⟨h1, ?_⟩
  obtain ⟨h2, h3⟩ := List.getElem?_eq_some_iff.1 h1
  rw [← h3]
  exact (out_nodup hr b).idxOf_getElem _ h2
end
section
variable {l : List (It H)} (hr : Right l)
include hr
theorem needsP_at {c : H} (i : Nat) (hi : i < (needsP l c).length) : ∃ n x, l[n]? = some x ∧ Mk (needP l ((css l).idxOf c)) n ∧ (needsP l c)[i]? = some x.cls ∧ cnt (needP l ((css l).idxOf c)) n = i ∧ n ≤ (css l).idxOf c := by
  obtain ⟨n, h1, h2⟩ := outA_from _ _ i (by rw [needP_len]; simp [css]) hi
  have hn : n < l.length := by have := (List.getElem?_eq_some_iff.1 h1).1; rwa [needP_len] at this
  obtain ⟨x, hx⟩ : ∃ x, l[n]? = some x := ⟨_, List.getElem?_eq_getElem hn⟩
  have h3 := (out_at hr (needP_len l _) hx h1).1
  rw [h2] at h3
  exact ⟨n, x, hx, h1, h3, h2, need_le hr h1⟩
omit hr in
theorem idx_lt {c : H} (hc : c ∈ css l) : (css l).idxOf c < l.length := by
  have := List.idxOf_lt_length_iff.2 hc
  simpa [css] using this
omit hr in
theorem at_idx {c : H} (hc : c ∈ css l) : ∃ x, l[(css l).idxOf c]? = some x ∧ x.cls = c := by
  have h := idx_lt hc
  obtain ⟨x, hx⟩ : ∃ x, l[(css l).idxOf c]? = some x := ⟨_, List.getElem?_eq_getElem h⟩
  have h2 : (css l)[(css l).idxOf c]? = some c := by
    rw [List.getElem?_eq_getElem (List.idxOf_lt_length_iff.2 hc)]
    exact congrArg some (List.getElem_idxOf _)
  obtain ⟨i, hi⟩ : ∃ i, i = (css l).idxOf c := ⟨_, rfl⟩
  rw [← hi] at h2 hx ⊢
  have h3 : (css l)[i]? = some x.cls := by simp [css, hx]
  rw [h2] at h3
  exact ⟨x, hx, (Option.some.inj h3).symm⟩
/-- it itself is the last one -/
theorem needs_last {c : H} (hc : c ∈ css l) : 0 < (needsP l c).length ∧ (needsP l c)[(needsP l c).length - 1]? = some c := by
  obtain ⟨x, hx, rfl⟩ := at_idx hc
  have hm := need_self (l := l) (idx_lt hc)
  have h1 := (out_at hr (needP_len l _) hx hm).1
  have hl : (needsP l x.cls).length = cnt (needP l ((css l).idxOf x.cls)) ((css l).idxOf x.cls) + 1 := by
    show (outA _ _).length = _
    rw [outA_len _ _ (by rw [needP_len]; simp [css]), ← cnt_succ hm]
    unfold cnt
    -- nothing is marked behind it
    have e : ∀ b : List Bool, ∀ m, (∀ k, Mk b k → k ≤ m) → b.count true = (b.take (m + 1)).count true := by
      intro b m hb
      have h2 : (b.drop (m + 1)).count true = 0 := by
        rw [List.count_eq_zero]
        intro hmem
        obtain ⟨j, hj⟩ := List.getElem?_of_mem hmem
        rw [List.getElem?_drop] at hj
        have := hb _ hj
        omega
      have h3 := List.count_append (a := true) (l₁ := b.take (m + 1)) (l₂ := b.drop (m + 1))
      rw [List.take_append_drop] at h3
      omega
    exact e _ _ fun k hk => need_le hr hk
  rw [hl]
  exact ⟨by omega, h1⟩
/-- each needed one is ahead of what needs it -/
theorem needs_ahead {c : H} {n : Nat} {x : It H} (hx : l[n]? = some x) (hm : Mk (needP l ((css l).idxOf c)) n) {d : H} (hd : d ∈ x.ins) : (needsP l c).idxOf d < (needsP l c).idxOf x.cls ∧ d ∈ needsP l c := by
  have hd2 : d ∈ insAt l n := by unfold insAt; rw [hx]; exact hd
  have hk := need_closed hr hm hd2
  have hlt := insAt_lt hr hd2
  have hdm : d ∈ css l := List.idxOf_lt_length_iff.1 (by have := (List.getElem?_eq_some_iff.1 hx).1; simp [css]; simp [css] at hlt; omega)
  obtain ⟨y, hy, rfl⟩ := at_idx hdm
  have h1 := out_at hr (needP_len l ((css l).idxOf c)) hy hk
  have h2 := out_at hr (needP_len l ((css l).idxOf c)) hx hm
  refine ⟨?_, List.mem_of_getElem? h1.1⟩
  show (outA _ _).idxOf _ < (outA _ _).idxOf _
  rw [h1.2, h2.2]
  exact cnt_lt hk hlt
/-- what is needed needs no more -/
theorem needs_sub {c : H} {n : Nat} {x : It H} (hx : l[n]? = some x) (hm : Mk (needP l ((css l).idxOf c)) n) : (∀ d ∈ needsP l x.cls, d ∈ needsP l c) ∧ (needsP l x.cls).length ≤ cnt (needP l ((css l).idxOf c)) n + 1 := by
  have hi := idx_at hr hx
  constructor
  · intro d hd
    obtain ⟨i, hi2⟩ := List.getElem?_of_mem hd
    obtain ⟨k, y, hy, hk, h3, _, _⟩ := needsP_at hr (c := x.cls) i (List.getElem?_eq_some_iff.1 hi2).1
    rw [hi2] at h3
    injection h3 with h3
    subst h3
    rw [hi] at hk
    exact List.mem_of_getElem? (out_at hr (needP_len l _) hy (need_least hr hm hk)).1
  · show (outA _ _).length ≤ _
    rw [outA_len _ _ (by rw [needP_len]; simp [css]), hi, ← cnt_succ hm]
    unfold cnt
    have hb : (needP l n).count true = ((needP l n).take (n + 1)).count true := by
      have h2 : ((needP l n).drop (n + 1)).count true = 0 := by
        rw [List.count_eq_zero]
        intro hmem
        obtain ⟨j, hj⟩ := List.getElem?_of_mem hmem
        rw [List.getElem?_drop] at hj
        have := need_le hr hj
        omega
      have h3 := List.count_append (a := true) (l₁ := (needP l n).take (n + 1)) (l₂ := (needP l n).drop (n + 1))
      rw [List.take_append_drop] at h3
      omega
    rw [hb]
    refine count_sub _ _ (by simp [needP_len]) fun k hk => ?_
    unfold Mk at hk ⊢
    rw [List.getElem?_take] at hk ⊢
    split at hk
    · rename_i hlt
      rw [if_pos hlt]
      exact need_least hr hm hk
    · cases hk
/-- all but it are an input of one of them -/
theorem needs_used {c : H} (hc : c ∈ css l) {i : Nat} (hi : i + 1 < (needsP l c).length) {h : H} (hh : (needsP l c)[i]? = some h) : ∃ (j : Nat) (y : It H), (needsP l c)[j]? = some y.cls ∧ y ∈ l ∧ h ∈ y.ins := by
  obtain ⟨n, x, hx, hm, h1, h2, h3⟩ := needsP_at hr (c := c) i (by omega)
  rw [hh] at h1
  injection h1 with h1
  subst h1
  rcases need_from hm with e | ⟨k, hk, d, hd, e⟩
  · -- it would be the last one
    exfalso
    obtain ⟨z, hz, hzc⟩ := at_idx hc
    have hl := (needs_last hr hc).2
    have hm2 := need_self (l := l) (idx_lt hc)
    rw [e] at hm h2
    have h5 := (out_at hr (needP_len l ((css l).idxOf c)) hz hm2).1
    rw [h2] at h5
    rw [hzc] at h5
    have hnd := out_nodup hr (needP l ((css l).idxOf c))
    have q1 : (needsP l c)[i]? = some c := h5
    have q2 := hl
    have := (List.getElem?_inj (List.getElem?_eq_some_iff.1 q1).1 hnd).1 (q1.trans q2.symm)
    omega
  · have hkl : k < l.length := by have := (List.getElem?_eq_some_iff.1 hk).1; rwa [needP_len] at this
    obtain ⟨y, hy⟩ : ∃ y, l[k]? = some y := ⟨_, List.getElem?_eq_getElem hkl⟩
    have hdy : d ∈ y.ins := by unfold insAt at hd; rw [hy] at hd; exact hd
    have hdc : d = x.cls := by
      have hlt := hr.ins k y hy d hdy
      have hdm : d ∈ css l := List.idxOf_lt_length_iff.1 (by simp [css]; simp [css] at hlt; omega)
      obtain ⟨y2, hy2, e2⟩ := at_idx hdm
      rw [e, hx] at hy2
      injection hy2 with hy2
      rw [← e2, ← hy2]
    exact ⟨_, y, (out_at hr (needP_len l _) hy hk).1, List.mem_of_getElem? hy, hdc ▸ hdy⟩
end
/-! how deep a class is -/
def maxOf : List Nat → Nat := fun l => l.foldl max 0
def depF : List (It H) → (H → Nat) → H → Nat
  | [], f => f
  | x :: l, f => depF l fun h => if h = x.cls then maxOf (x.ins.map f) + 1 else f h
def depthP (l : List (It H)) (c : H) : Nat := depF (l.take ((css l).idxOf c + 1)) (fun _ => 0) c
theorem depF_app (a b : List (It H)) (f : H → Nat) : depF (a ++ b) f = depF b (depF a f) := by
  induction a generalizing f with
  | nil => rfl
  | cons x a ih => exact ih _
theorem depF_other : ∀ (l : List (It H)) (f : H → Nat) (h : H), h ∉ css l → depF l f h = f h
  | [], _, _, _ => rfl
  | x :: l, f, h, hn => by
    unfold depF
    rw [depF_other l _ h (fun hm => hn (List.mem_cons_of_mem _ hm)), if_neg (fun e => hn (by rw [e]; exact List.mem_cons_self ..))]
theorem le_maxOf {l : List Nat} {n : Nat} (h : n ∈ l) : n ≤ maxOf l := by
  have key : ∀ (l : List Nat) (a : Nat), a ≤ l.foldl max a ∧ ∀ n ∈ l, n ≤ l.foldl max a := by
    intro l
    induction l with
    | nil => intro a; exact ⟨Nat.le_refl _, fun n h => by cases h⟩
    | cons x l ih =>
      intro a
      obtain ⟨h1, h2⟩ := ih (max a x)
      refine ⟨Nat.le_trans (Nat.le_max_left _ _) h1, fun n hn => ?_⟩
      rcases List.mem_cons.1 hn with rfl | hn
      · exact Nat.le_trans (Nat.le_max_right _ _) h1
      · exact h2 n hn
  exact (key l 0).2 n h
section
variable {l : List (It H)} (hr : Right l)
include hr
theorem depth_step {n : Nat} {x : It H} (hx : l[n]? = some x) : depthP l x.cls = maxOf (x.ins.map (depF (l.take n) fun _ => 0)) + 1 := by
  unfold depthP
  rw [idx_at hr hx, List.take_add_one, hx, depF_app]
  show (if x.cls = x.cls then _ else _) = _
  rw [if_pos rfl]
theorem depth_at {d : H} {n : Nat} (hd : (css l).idxOf d < n) : depF (l.take n) (fun _ => 0) d = depthP l d := by
  unfold depthP
  have e : l.take n = l.take ((css l).idxOf d + 1) ++ (l.take n).drop ((css l).idxOf d + 1) := by
    have h := List.take_append_drop ((css l).idxOf d + 1) (l.take n)
    rw [List.take_take, Nat.min_eq_left (by omega)] at h
    exact h.symm
  rw [e, depF_app, depF_other]
  intro hm
  obtain ⟨y, hy, rfl⟩ := List.mem_map.1 hm
  obtain ⟨j, hj⟩ := List.getElem?_of_mem hy
  rw [List.getElem?_drop, List.getElem?_take] at hj
  split at hj
  · have := idx_at hr hj
    omega
  · cases hj
/-- what is needed is less deep -/
theorem depth_lt {n : Nat} {x : It H} (hx : l[n]? = some x) {d : H} (hd : d ∈ x.ins) : depthP l d < depthP l x.cls := by
  rw [depth_step hr hx, ← depth_at hr (n := n) (hr.ins n x hx d hd)]
  exact Nat.lt_succ_of_le (le_maxOf (List.mem_map.2 ⟨d, hd, rfl⟩))
end
/-! one more at the end -/
omit [DecidableEq H] in
theorem css_app (l : List (It H)) (x : It H) : css (l ++ [x]) = css l ++ [x.cls] := by simp [css]
theorem mset_more {cs : List H} {y : H} {ins : List H} (h : ∀ c ∈ ins, c ∈ cs) : ∀ (b : List Bool), b.length = cs.length → mset (cs ++ [y]) ins (b ++ [false]) = mset cs ins b ++ [false] := by
  induction ins with
  | nil => intro b hb; rfl
  | cons c ins ih =>
    intro b hb
    have hc := h c (List.mem_cons_self ..)
    show mset _ ins ((b ++ [false]).set _ true) = mset cs ins (b.set _ true) ++ [false]
    rw [List.idxOf_append, if_pos hc, List.set_append_left _ _ (by rw [hb]; exact List.idxOf_lt_length_iff.2 hc)]
    exact ih (fun c hc => h c (List.mem_cons_of_mem _ hc)) _ (by rw [List.length_set, hb])
theorem markA_more {l : List (It H)} (hr : Right l) (x : It H) : ∀ (n : Nat) (b : List Bool), b.length = l.length → n ≤ l.length → markA (l ++ [x]) n (b ++ [false]) = markA l n b ++ [false]
  | 0, _, _, _ => rfl
  | n + 1, b, hb, hn => by
    unfold markA
    rw [List.getElem?_append_left (by omega)]
    have e : insAt (l ++ [x]) n = insAt l n := by unfold insAt; rw [List.getElem?_append_left (by omega)]
    rw [e, css_app]
    split
    · rw [mset_more (fun c hc => List.idxOf_lt_length_iff.1 (by have := insAt_lt hr hc; simp [css]; simp [css] at this; omega)) b (by simp [css, hb])]
      exact markA_more hr x n _ (by rw [mset_len, hb]) (by omega)
    · exact markA_more hr x n _ hb (by omega)
theorem needs_more {l : List (It H)} (hr : Right l) (x : It H) {c : H} (hc : c ∈ css l) : needsP (l ++ [x]) c = needsP l c ∧ depthP (l ++ [x]) c = depthP l c := by
  have hi := idx_lt hc
  have e1 : (css (l ++ [x])).idxOf c = (css l).idxOf c := by rw [css_app, List.idxOf_append, if_pos hc]
  have e2 : needP (l ++ [x]) ((css l).idxOf c) = needP l ((css l).idxOf c) ++ [false] := by
    unfold needP
    rw [List.length_append, List.length_singleton, List.replicate_succ', List.set_append_left _ _ (by simpa using hi)]
    exact markA_more hr x _ _ (by simp) (by omega)
  refine ⟨?_, ?_⟩
  · unfold needsP
    rw [e1, e2, css_app]
    have : ∀ (cs : List H) (b : List Bool), b.length = cs.length → outA (cs ++ [x.cls]) (b ++ [false]) = outA cs b := by
      intro cs
      induction cs with
      | nil => intro b hb; rw [List.eq_nil_of_length_eq_zero hb]; rfl
      | cons y cs ih =>
        intro b hb
        cases b with
        | nil => simp at hb
        | cons v b =>
          have := ih b (by simpa using hb)
          cases v
          · exact this
          · exact congrArg (y :: ·) this
    exact this _ _ (by rw [needP_len]; simp [css])
  · unfold depthP
    rw [e1, List.take_append_of_le_length (by omega)]
end Go.Proofs.Ytidiepbmbbflhaa.Dr
