/- Rows of things of many cells: a source of an append; an append onto a row of one's own, whatever the source is; one that grows from nothing. -/
import Derived.Test.YtidiepbmbbflhaaGrow
import Derived.Test.YtidiepbmbbflhaaLay
namespace Go.Proofs.Ytidiepbmbbflhaa
open Go Go.RowKit
/-- a source of m things of n cells -/
structure SrcN (w : World) (n : Nat) (A : Option Addr) (m c : Nat) (news : List Value) : Prop where
  len : news.length = m * n
  none_ : A = none → m = 0 ∧ c = 0
  one : ∀ u ∈ news, u.oneCell' = true
  cells : ∀ ad, A = some ad → ∀ j u, news[j]? = some u → w.cell? (ad.add j) = some u
theorem SrcN.below {w w' : World} {n m c : Nat} {A : Option Addr} {news : List Value} (h : SrcN w n A m c news) (hb : Below w.heap.size w w') : SrcN w' n A m c news :=
  ⟨h.len, h.none_, h.one, fun ad had j u hu => by
    have h1 := h.cells ad had j u hu
    rw [World.cell?_of_block (w' := w') (hb.block _ (World.block_lt_of_cell? w _ h1))]
    exact h1⟩
section
variable {P : Program} {w : World} {ops : Array Oper} {rest : List Oper} {o : Oper} {a : Act} {Q : Exit → Act → World → Prop}
theorem run_appS (base : Nat) (t ty e : TypeId) (i : TypeInfo) (z : Value) (size bytes : Nat) (ht : P.underlying t = some (.slice e)) (hi : P.info? e = some i) (hz : i.zero = some z)
    (hsize : i.size = size) (hby : i.bytes = bytes) (hzs : z.cells.size = size) (hsz : 0 < size) (v : Value) (n : Nat) (xs : List Value) (hown : w.ownsRow base e size v n xs)
    (A : Option Addr) (m c : Nat) (news : List Value) (hs : SrcN w size A m c news) (h63 : n + m ≤ maxLen) (hbytes : (n + m) * bytes ≤ 140737488355328) (hbase : base ≤ w.heap.size) :
    ∃ v' w', (Builtin.append_ #[t, t] ty #[v, .slice A m c]).run P w = .ok v' w' ∧ w'.ownsRow base e size v' (n + m) (xs ++ news) ∧ w.grownBy w' v.ownBlock ∧
      (v'.ownBlock = v.ownBlock ∨ v'.ownBlock = some w.heap.size) ∧ (v' = .slice none 0 0 → v = .slice none 0 0) := by
  rcases A with _ | ad
  · obtain ⟨rfl, rfl⟩ := hs.none_ rfl
    have hn : news = [] := List.eq_nil_of_length_eq_zero (by rw [hs.len]; omega)
    subst hn
    exact ⟨v, w, run_append_owned_none (P := P) (w := w) base t ty e i size ht hi v n xs hown, by simpa using hown, World.grownBy.refl w _, .inl rfl, id⟩
  · obtain ⟨v', w', h1, h2, h3, h4, h5⟩ := run_append_own_at (P := P) w base t ty e i z size bytes ht hi hz hsize hby hzs hsz v n xs hown ad m c news hs.len (hs.cells ad rfl) hs.one h63 hbytes hbase
    exact ⟨v', w', h1, h2, h3, h5, fun h => (h4.1 h).1⟩
theorem wpList_appS (hgd : o.guard = none) (s x : Operand) (t : TypeId)
    (ho : o.op = .call { callee := .builtin .append, args := #[s, x], argTypes := #[t, t] })
    (base : Nat) (e : TypeId) (i : TypeInfo) (z : Value) (size bytes : Nat) (ht : P.underlying t = some (.slice e)) (hi : P.info? e = some i) (hz : i.zero = some z)
    (hsize : i.size = size) (hby : i.bytes = bytes) (hzs : z.cells.size = size) (hsz : 0 < size) (v : Value) (n : Nat) (xs : List Value) (hown : w.ownsRow base e size v n xs)
    (A : Option Addr) (m c : Nat) (news : List Value) (hsrc : SrcN w size A m c news) (h63 : n + m ≤ maxLen) (hbytes : (n + m) * bytes ≤ 140737488355328) (hbase : base ≤ w.heap.size)
    (hs : a.eval s = v) (hx : a.eval x = .slice A m c)
    (h : ∀ v' w', w'.ownsRow base e size v' (n + m) (xs ++ news) → w.grownBy w' v.ownBlock → (v'.ownBlock = v.ownBlock ∨ v'.ownBlock = some w.heap.size) → wpList P ops Q rest (a.put o.dst v') w') :
    wpList P ops Q (o :: rest) a w := by
  refine wpList_plain hgd fun K hK => ?_
  obtain ⟨v', w', hr, h2, h3, h4, _⟩ := run_appS (P := P) (w := w) base t o.type e i z size bytes ht hi hz hsize hby hzs hsz v n xs hown A m c news hsrc h63 hbytes hbase
  unfold Oper.wp execOp
  simp only [ho, resolve, invoke, builtin, Sem.run_bind, Sem.run_pure, Result.andThen_ok, List.map_toArray, List.map_cons, List.map_nil, hs, hx, hr]
  exact hK _ _ (h v' w' h2 h3 h4)
end
/-- what is made apart from some own block stays below -/
theorem Below.grownOwn {w0 w w' : World} {v : Value} {base n s : Nat} {e : TypeId} {xs : List Value} (h : Below w0.heap.size w0 w) (hown : w.ownsRow base e s v n xs) (hb : w0.heap.size ≤ base) (hg : w.grownBy w' v.ownBlock) : Below w0.heap.size w0 w' :=
  h.grown hg h.size fun _ hk => Nat.le_trans hb (owned_ltN hown hk).1
section
variable {α : Type} {f : α → List Value} {n : Nat}
theorem flatC_length : ∀ (l : List α), (∀ x ∈ l, (f x).length = n) → (l.flatMap f).length = l.length * n
  | [], _ => by simp
  | x :: l, h => by
    rw [List.flatMap_cons, List.length_append, h x (by simp), flatC_length l fun y hy => h y (by simp [hy]), List.length_cons, Nat.add_mul]
    omega
theorem flatC_get (h0 : 0 < n) : ∀ (l : List α), (∀ x ∈ l, (f x).length = n) → ∀ (j : Nat) (u : Value), (l.flatMap f)[j]? = some u → ∃ x, l[j / n]? = some x ∧ (f x)[j % n]? = some u
  | [], _, j, u, hu => by simp at hu
  | x :: l, h, j, u, hu => by
    have hx := h x (by simp)
    rw [List.flatMap_cons, List.getElem?_append] at hu
    by_cases hj : j < n
    · rw [if_pos (by omega)] at hu
      rw [Nat.div_eq_of_lt hj, Nat.mod_eq_of_lt hj]
      exact ⟨x, rfl, hu⟩
    · rw [if_neg (by omega), hx] at hu
      obtain ⟨y, h1, h2⟩ := flatC_get h0 l (fun y hy => h y (by simp [hy])) (j - n) u hu
      have e1 : j / n = (j - n) / n + 1 := by
        rw [show j = (j - n) + n by omega, Nat.add_div_right _ h0]
        simp
      have e2 : j % n = (j - n) % n := by
        rw [Nat.mod_eq_sub_mod (by omega)]
      exact ⟨y, by rw [e1, List.getElem?_cons_succ]; exact h1, by rw [e2]; exact h2⟩
theorem flatC_at (h0 : 0 < n) : ∀ (l : List α), (∀ x ∈ l, (f x).length = n) → ∀ (k : Nat) (x : α), l[k]? = some x → ∀ j u, (f x)[j]? = some u → (l.flatMap f)[k * n + j]? = some u
  | [], _, k, x, hk, _, _, _ => by simp at hk
  | y :: l, h, k, x, hk, j, u, hu => by
    have hy := h y (by simp)
    rw [List.flatMap_cons]
    cases k with
    | zero =>
      simp only [List.getElem?_cons_zero, Option.some.injEq] at hk
      subst hk
      rw [Nat.zero_mul, Nat.zero_add, List.getElem?_append_left (List.getElem?_eq_some_iff.1 hu).1]
      exact hu
    | succ k =>
      rw [List.getElem?_cons_succ] at hk
      have := flatC_at h0 l (fun y hy => h y (by simp [hy])) k x hk j u hu
      rw [List.getElem?_append_right (by rw [hy, Nat.add_mul]; omega), hy, show (k + 1) * n + j - n = k * n + j by rw [Nat.add_mul]; omega]
      exact this
theorem flatC_one (h : ∀ x : α, ∀ u ∈ f x, u.oneCell' = true) (l : List α) : ∀ u ∈ l.flatMap f, u.oneCell' = true := by
  intro u hu
  obtain ⟨x, _, hx⟩ := List.mem_flatMap.1 hu
  exact h x u hx
/-- a row that is read is a source -/
theorem slice_src {t : TypeId} {L : Lay α} (h0 : 0 < L.n) (hf : ∀ {w B cs x}, L.At w B cs x → cs = f x) (h1 : ∀ x : α, ∀ u ∈ f x, u.oneCell' = true) {w : World} {B len cap : Nat} {A : Option Addr} {l : List α} (h : (Lay.slice t L).At w B [.slice A len cap] l) : len = l.length ∧ SrcN w L.n A l.length cap (l.flatMap f) := by
  obtain ⟨A', cap', e, h2, h3, h4, h5⟩ := h
  simp only [List.cons.injEq, Value.slice.injEq, and_true] at e
  obtain ⟨rfl, rfl, rfl⟩ := e
  have hlen : ∀ x ∈ l, (f x).length = L.n := fun x hx => by
    obtain ⟨i, hi⟩ := List.getElem?_of_mem hx
    obtain ⟨b, off, _, _, hE⟩ := h5 (by have := (List.getElem?_eq_some_iff.1 hi).1; omega)
    obtain ⟨cs, _, h6⟩ := hE i x hi
    rw [← hf h6]
    exact L.len h6
  refine ⟨rfl, flatC_length l hlen, fun hA => by have := h4 hA; omega, flatC_one h1 l, fun ad had j u hu => ?_⟩
  obtain ⟨x, h6, h7⟩ := flatC_get h0 l hlen j u hu
  obtain ⟨b, off, e, hb, hE⟩ := h5 (Nat.lt_of_le_of_lt (Nat.zero_le _) (List.getElem?_eq_some_iff.1 h6).1)
  rw [e] at had
  injection had with had
  subst had
  obtain ⟨cs, h8, h9⟩ := hE _ x h6
  rw [hf h9] at h8
  have := h8 _ u h7
  rw [Addr.add_mid]
  rw [Nat.add_assoc, show j / L.n * L.n + j % L.n = j by rw [Nat.mul_comm]; exact Nat.div_add_mod j L.n] at this
  exact this
/-- one thing in a box is a source -/
theorem box_src {w : World} {g : Nat} {t : TypeId} {cs : List Value} (hb : Blk w g t cs.toArray) (h1 : ∀ u ∈ cs, u.oneCell' = true) : SrcN w cs.length (some ⟨g, 0, none⟩) 1 1 cs :=
  ⟨by omega, (fun h => by cases h), h1, fun ad had j u hu => by
    injection had with had
    subst had
    rw [Addr.add_mid, Nat.zero_add, hb.cell]
    simpa using hu⟩
/-- a row of one's own, of things whose cells are known, is read -/
theorem own_slice {t e : TypeId} {L : Lay α} (h0 : 0 < L.n) {w : World} {R : Nat} {v : Value} {l : List α} (hown : w.ownsRow R e L.n v l.length (l.flatMap f)) (B : Nat) (hB : w.heap.size ≤ B) (hat : ∀ x ∈ l, L.At w B (f x) x) : (Lay.slice t L).At w B [v] l := by
  have hlen : ∀ x ∈ l, (f x).length = L.n := fun x hx => L.len (hat x hx)
  rcases owned_formN hown with ⟨rfl, hl, _⟩ | ⟨g, cap, cur, rfl, hbg, hnc, hcm, hg, hcs, htake, _⟩
  · obtain rfl := List.eq_nil_of_length_eq_zero hl
    exact ⟨none, 0, rfl, Nat.le_refl _, Nat.zero_le _, (fun _ => rfl), fun h => absurd h (by simp)⟩
  · refine ⟨_, cap, rfl, hnc, hcm, (fun h => by cases h), fun _ => ⟨g, 0, rfl, by have := hg.lt; omega, fun j x hj => ⟨f x, fun i u hu => ?_, hat x (List.mem_of_getElem? hj)⟩⟩⟩
    have h2 := flatC_at h0 l hlen j x hj i u hu
    rw [hg.cell, ← Array.getElem?_toList, Nat.zero_add]
    rw [← htake] at h2
    have hlt : j * L.n + i < l.length * L.n := by
      have := (List.getElem?_eq_some_iff.1 h2).1
      rw [List.length_take] at this
      omega
    rwa [List.getElem?_take_of_lt hlt] at h2
end
end Go.Proofs.Ytidiepbmbbflhaa
