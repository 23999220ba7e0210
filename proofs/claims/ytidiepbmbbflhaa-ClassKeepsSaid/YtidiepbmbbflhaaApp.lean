/- append onto a row of one's own, whatever the source is: nil, empty, or lying anywhere. -/
import Derived.Test.YtidiepbmbbflhaaBase
import Derived.Maps.AppendAt
import Derived.Laws.AppendOwnNone
import Derived.RegionTactic
import Derived.OwnWalk
namespace Go.Proofs.Ytidiepbmbbflhaa
open Go.RowKit
/-- what is appended: m cells that lie at A -/
structure Src (w : World) (A : Option Addr) (m c : Nat) (news : List Value) : Prop where
  len : news.length = m
  none_ : A = none → m = 0 ∧ c = 0
  one : ∀ u ∈ news, u.oneCell' = true
  cells : ∀ ad, A = some ad → ∀ j u, news[j]? = some u → w.cell? (ad.add j) = some u
theorem cell_alloc_some {w : World} {p : Addr} {u : Value} (h : w.cell? p = some u) (o : Obj) : (w.alloc o).cell? p = some u :=
  (World.cell?_alloc_lt w o p (World.block_lt_of_cell? w _ h)).trans h
theorem Src.alloc {w : World} {A : Option Addr} {m c : Nat} {news : List Value} (h : Src w A m c news) (o : Obj) : Src (w.alloc o) A m c news :=
  ⟨h.len, h.none_, h.one, fun ad had j u hu => cell_alloc_some (h.cells ad had j u hu) o⟩
theorem src_one (w : World) (x : Value) (t : TypeId) (h : x.oneCell' = true) : Src (w.alloc (.cells #[x] t)) (some ⟨w.heap.size, 0, none⟩) 1 1 [x] :=
  ⟨rfl, (by intro h; cases h), (by intro u hu; rw [List.mem_singleton.1 hu]; exact h), (by intro ad had; injection had with had; subst had; exact cell_one_new w x t)⟩
/-- the same, the block behind a name -/
theorem src_at {w : World} {g : Nat} {t : TypeId} {x : Value} (hb : Blk w g t #[x]) (h : x.oneCell' = true) : Src w (some ⟨g, 0, none⟩) 1 1 [x] :=
  ⟨rfl, (by intro h; cases h), (by intro u hu; rw [List.mem_singleton.1 hu]; exact h), (by
    intro ad had j u hu
    injection had with had
    subst had
    match j, hu with
    | 0, hu =>
      have h := hb.cell 0
      simp only [Addr.add] at h ⊢
      rw [← hu]; exact h)⟩
section
variable {P : Program} {w : World} {ops : Array Oper} {rest : List Oper} {o : Oper} {a : Act} {Q : Exit → Act → World → Prop}
theorem run_app (base : Nat) (t ty e : TypeId) (i : TypeInfo) (z : Value) (bytes : Nat) (ht : P.underlying t = some (.slice e)) (hi : P.info? e = some i) (hz : i.zero = some z)
    (hsize : i.size = 1) (hby : i.bytes = bytes) (hzs : z.cells.size = 1) (v : Value) (n : Nat) (xs : List Value) (hown : w.ownsRow base e 1 v n xs)
    (A : Option Addr) (m c : Nat) (news : List Value) (hs : Src w A m c news) (h63 : n + m ≤ maxLen) (hbytes : (n + m) * bytes ≤ 140737488355328) (hbase : base ≤ w.heap.size) :
    ∃ v' w', (Builtin.append_ #[t, t] ty #[v, .slice A m c]).run P w = .ok v' w' ∧ w'.ownsRow base e 1 v' (n + m) (xs ++ news) ∧ w.grownBy w' v.ownBlock ∧
      (v'.ownBlock = v.ownBlock ∨ v'.ownBlock = some w.heap.size) ∧ (v' = .slice none 0 0 → v = .slice none 0 0) := by
  rcases A with _ | ad
  · obtain ⟨rfl, rfl⟩ := hs.none_ rfl
    have hn : news = [] := List.eq_nil_of_length_eq_zero hs.len
    subst hn
    exact ⟨v, w, run_append_owned_none (P := P) (w := w) base t ty e i 1 ht hi v n xs hown, by simpa using hown, World.grownBy.refl w _, .inl rfl, id⟩
  · obtain ⟨v', w', h1, h2, h3, h4, h5⟩ := run_append_own_at (P := P) w base t ty e i z 1 bytes ht hi hz hsize hby hzs (by omega) v n xs hown ad m c news (by rw [hs.len]; omega) (hs.cells ad rfl) hs.one h63 hbytes hbase
    exact ⟨v', w', h1, h2, h3, h5, fun h => (h4.1 h).1⟩
theorem wp_app {K : Act → World → Prop} (s x : Operand) (t : TypeId)
    (ho : o.op = .call { callee := .builtin .append, args := #[s, x], argTypes := #[t, t] })
    (base : Nat) (e : TypeId) (i : TypeInfo) (z : Value) (bytes : Nat) (ht : P.underlying t = some (.slice e)) (hi : P.info? e = some i) (hz : i.zero = some z)
    (hsize : i.size = 1) (hby : i.bytes = bytes) (hzs : z.cells.size = 1) (v : Value) (n : Nat) (xs : List Value) (hown : w.ownsRow base e 1 v n xs)
    (A : Option Addr) (m c : Nat) (news : List Value) (hsrc : Src w A m c news) (h63 : n + m ≤ maxLen) (hbytes : (n + m) * bytes ≤ 140737488355328) (hbase : base ≤ w.heap.size)
    (hs : a.eval s = v) (hx : a.eval x = .slice A m c)
    (h : ∀ v' w', w'.ownsRow base e 1 v' (n + m) (xs ++ news) → w.grownBy w' v.ownBlock → (v'.ownBlock = v.ownBlock ∨ v'.ownBlock = some w.heap.size) → (v' = .slice none 0 0 → v = .slice none 0 0) → K (a.put o.dst v') w') : o.wp P a w K Q := by
  obtain ⟨v', w', hr, h2, h3, h4, h5⟩ := run_app (P := P) (w := w) base t o.type e i z bytes ht hi hz hsize hby hzs v n xs hown A m c news hsrc h63 hbytes hbase
  unfold Oper.wp execOp
  simp only [ho, resolve, invoke, builtin, Sem.run_bind, Sem.run_pure, Result.andThen_ok, List.map_toArray, List.map_cons, List.map_nil, hs, hx, hr]
  exact h v' w' h2 h3 h4 h5
theorem wpList_app (hgd : o.guard = none) (s x : Operand) (t : TypeId)
    (ho : o.op = .call { callee := .builtin .append, args := #[s, x], argTypes := #[t, t] })
    (base : Nat) (e : TypeId) (i : TypeInfo) (z : Value) (bytes : Nat) (ht : P.underlying t = some (.slice e)) (hi : P.info? e = some i) (hz : i.zero = some z)
    (hsize : i.size = 1) (hby : i.bytes = bytes) (hzs : z.cells.size = 1) (v : Value) (n : Nat) (xs : List Value) (hown : w.ownsRow base e 1 v n xs)
    (A : Option Addr) (m c : Nat) (news : List Value) (hsrc : Src w A m c news) (h63 : n + m ≤ maxLen) (hbytes : (n + m) * bytes ≤ 140737488355328) (hbase : base ≤ w.heap.size)
    (hs : a.eval s = v) (hx : a.eval x = .slice A m c)
    (h : ∀ v' w', w'.ownsRow base e 1 v' (n + m) (xs ++ news) → w.grownBy w' v.ownBlock → (v'.ownBlock = v.ownBlock ∨ v'.ownBlock = some w.heap.size) → (v' = .slice none 0 0 → v = .slice none 0 0) → wpList P ops Q rest (a.put o.dst v') w') :
    wpList P ops Q (o :: rest) a w :=
  wpList_plain hgd fun _ hK => wp_app s x t ho base e i z bytes ht hi hz hsize hby hzs v n xs hown A m c news hsrc h63 hbytes hbase hs hx fun v' w' h2 h3 h4 h5 => hK _ _ (h v' w' h2 h3 h4 h5)
theorem step_app {K : Act → World → Prop} {E : Prop} (hgd : o.guard = none) (s x : Operand) (t : TypeId)
    (ho : o.op = .call { callee := .builtin .append, args := #[s, x], argTypes := #[t, t] })
    (base : Nat) (e : TypeId) (i : TypeInfo) (z : Value) (bytes : Nat) (ht : P.underlying t = some (.slice e)) (hi : P.info? e = some i) (hz : i.zero = some z)
    (hsize : i.size = 1) (hby : i.bytes = bytes) (hzs : z.cells.size = 1) (v : Value) (n : Nat) (xs : List Value) (hown : w.ownsRow base e 1 v n xs)
    (A : Option Addr) (m c : Nat) (news : List Value) (hsrc : Src w A m c news) (h63 : n + m ≤ maxLen) (hbytes : (n + m) * bytes ≤ 140737488355328) (hbase : base ≤ w.heap.size)
    (hs : a.eval s = v) (hx : a.eval x = .slice A m c)
    (h : ∀ v' w', w'.ownsRow base e 1 v' (n + m) (xs ++ news) → w.grownBy w' v.ownBlock → (v'.ownBlock = v.ownBlock ∨ v'.ownBlock = some w.heap.size) → (v' = .slice none 0 0 → v = .slice none 0 0) → K (a.put o.dst v') w') :
    if Region.wanted o (yielded ops a.tmps) = true then Oper.wp P o a w K Q else E := by
  have hw : Region.wanted o (yielded ops a.tmps) = true := by simp [Region.wanted, hgd]
  rw [if_pos hw]
  exact wp_app s x t ho base e i z bytes ht hi hz hsize hby hzs v n xs hown A m c news hsrc h63 hbytes hbase hs hx h
end
/-- the row's first cells lie where its value says -/
theorem owned_form {w : World} {base n : Nat} {e : TypeId} {v : Value} {xs : List Value} (h : w.ownsRow base e 1 v n xs) :
    (v = .slice none 0 0 ∧ n = 0 ∧ xs = []) ∨ ∃ g cap cur, v = .slice (some ⟨g, 0, none⟩) n cap ∧ base ≤ g ∧ n ≤ cap ∧ cap ≤ maxLen ∧ Blk w g e cur ∧ cur.size = cap ∧ cur.toList.take n = xs ∧ g < w.heap.size := by
  obtain ⟨hl, h⟩ := h
  rcases h with ⟨h, h2⟩ | ⟨g, cap, cur, h, hb, hh, hn, hc, hs, ht⟩
  · exact .inl ⟨h, h2, List.eq_nil_of_length_eq_zero (by omega)⟩
  · exact .inr ⟨g, cap, cur, h, hb, hn, hc, hh, by omega, by simpa using ht, Blk.lt hh⟩
theorem owned_slice {w : World} {base n : Nat} {e : TypeId} {v : Value} {xs : List Value} (h : w.ownsRow base e 1 v n xs) : ∃ A c, v = .slice A n c := by
  rcases owned_form h with ⟨rfl, rfl, _⟩ | ⟨g, cap, cur, rfl, _⟩
  · exact ⟨_, _, rfl⟩
  · exact ⟨_, _, rfl⟩
/-- another block's row, and the block -/
theorem owned_keep {w w' : World} {base n : Nat} {e : TypeId} {v : Value} {xs : List Value} (h : w.ownsRow base e 1 v n xs) (hk : ∀ g, v.ownBlock = some g → g < w.heap.size → w'.heap[g]? = w.heap[g]?) : w'.ownsRow base e 1 v n xs := by
  obtain ⟨hl, h⟩ := h
  refine ⟨hl, ?_⟩
  rcases h with h | ⟨g, cap, cur, h, hb, hh, hr⟩
  · exact .inl h
  · subst h
    exact .inr ⟨g, cap, cur, rfl, hb, (hk g rfl (Blk.lt hh)).trans hh, hr⟩
theorem owned_ne {w : World} {base n g : Nat} {e t : TypeId} {v : Value} {xs : List Value} {cs : Array Value} (h : w.ownsRow base e 1 v n xs) (hb : Blk w g t cs) (hne : e ≠ t) : v.ownBlock ≠ some g := by
  rcases owned_form h with ⟨rfl, _⟩ | ⟨g', cap, cur, rfl, _, _, _, hh, _⟩
  · simp [Value.ownBlock]
  · intro he
    injection he with he
    change g' = g at he
    subst he
    exact Blk.ne_ hh hb hne rfl
theorem owned_lt {w : World} {base n g : Nat} {e : TypeId} {v : Value} {xs : List Value} (h : w.ownsRow base e 1 v n xs) (hg : v.ownBlock = some g) : base ≤ g ∧ g < w.heap.size := by
  rcases owned_form h with ⟨rfl, _⟩ | ⟨g', cap, cur, rfl, hb, _, _, hh, _⟩
  · cases hg
  · injection hg with hg
    change g' = g at hg
    subst hg
    exact ⟨hb, hh.lt⟩
theorem owned_base {w : World} {base base' n : Nat} {e : TypeId} {v : Value} {xs : List Value} (h : w.ownsRow base e 1 v n xs) (hb : ∀ g, v.ownBlock = some g → base' ≤ g) : w.ownsRow base' e 1 v n xs := by
  obtain ⟨hl, h⟩ := h
  refine ⟨hl, ?_⟩
  rcases h with h | ⟨g, cap, cur, rfl, _, hr⟩
  · exact .inl h
  · exact .inr ⟨g, cap, cur, rfl, hb g rfl, hr⟩
/-- only some blocks, and new ones, have turned -/
structure Turned (S : Nat → Prop) (w w' : World) : Prop where
  os : w'.os = w.os
  tape : w'.tape = w.tape
  output : w'.output = w.output
  size : w.heap.size ≤ w'.heap.size
  block : ∀ k, k < w.heap.size → ¬ S k → w'.heap[k]? = w.heap[k]?
section
variable {S T : Nat → Prop} {a b c w : World}
theorem Turned.refl (S : Nat → Prop) (w : World) : Turned S w w := ⟨rfl, rfl, rfl, Nat.le_refl _, fun _ _ _ => rfl⟩
theorem Turned.trans (h : Turned S a b) (k : Turned S b c) : Turned S a c :=
  ⟨k.os.trans h.os, k.tape.trans h.tape, k.output.trans h.output, Nat.le_trans h.size k.size, fun i hi hne => (k.block i (Nat.lt_of_lt_of_le hi h.size) hne).trans (h.block i hi hne)⟩
theorem Turned.then_ (h : Turned S a b) (k : Turned T b c) (hT : ∀ k, k < a.heap.size → T k → S k) : Turned S a c :=
  ⟨k.os.trans h.os, k.tape.trans h.tape, k.output.trans h.output, Nat.le_trans h.size k.size, fun i hi hne => (k.block i (Nat.lt_of_lt_of_le hi h.size) (fun ht => hne (hT i hi ht))).trans (h.block i hi hne)⟩
theorem Turned.mono (h : Turned S a b) (hT : ∀ k, k < a.heap.size → S k → T k) : Turned T a b := ⟨h.os, h.tape, h.output, h.size, fun k hk hn => h.block k hk fun hs => hn (hT k hk hs)⟩
theorem Turned.of_grown {row : Option Nat} (h : a.grownBy b row) (hr : ∀ k, row = some k → k < a.heap.size → S k) : Turned S a b := ⟨h.os, h.tape, h.output, h.size, fun k hk hn => h.block k hk fun e => hn (hr k e.symm hk)⟩
theorem Turned.of_below (h : Below a.heap.size a b) (S : Nat → Prop) : Turned S a b := ⟨h.os, h.tape, h.output, h.size, fun k hk _ => h.block k hk⟩
theorem Turned.drewN (h : Turned S a b) (n : Nat) : Turned S a (b.drewN n) := ⟨h.os, h.tape, h.output, h.size, h.block⟩
theorem Turned.drew (h : Turned S a b) : Turned S a b.drew := ⟨h.os, h.tape, h.output, h.size, h.block⟩
theorem Turned.alloc (h : Turned S a b) (o : Obj) : Turned S a (b.alloc o) :=
  ⟨h.os, h.tape, h.output, Nat.le_trans h.size (by rw [size_alloc]; omega), fun i hi hne => (Below.heap_alloc b o i (Nat.lt_of_lt_of_le hi h.size)).trans (h.block i hi hne)⟩
theorem Turned.setCell (h : Turned S a b) {p : Addr} (hp : p.block < a.heap.size → S p.block) (u : Value) : Turned S a (b.setCell p u) :=
  ⟨h.os, h.tape, h.output, by simpa [World.setCell] using h.size, fun i hi hne => (Below.heap_setCell b p u i (by
    rintro rfl
    exact hne (hp hi))).trans (h.block i hi hne)⟩
/-- behind it: what lies ahead of the first block is as it was -/
theorem Turned.below (h : Turned S a b) {B : Nat} (hB : B ≤ a.heap.size) (hS : ∀ k, S k → B ≤ k) : Below B a b := ⟨h.os, h.tape, h.output, h.size, fun k hk => h.block k (by omega) fun hs => by have := hS k hs; omega⟩
theorem Turned.below_new (h : Turned S b c) (hb : Below a.heap.size a b) (hS : ∀ k, k < b.heap.size → S k → a.heap.size ≤ k) : Below a.heap.size a c :=
  ⟨h.os.trans hb.os, h.tape.trans hb.tape, h.output.trans hb.output, Nat.le_trans hb.size h.size, fun k hk => (h.block k (Nat.lt_of_lt_of_le hk hb.size) fun hs => by have := hS k (Nat.lt_of_lt_of_le hk hb.size) hs; omega).trans (hb.block k hk)⟩
theorem Blk.turned {g : Nat} {t : TypeId} {cs : Array Value} (h : Blk a g t cs) (ht : Turned S a b) (hg : ¬ S g) : Blk b g t cs := (ht.block g h.lt hg).trans h
theorem owned_turned {base n : Nat} {e : TypeId} {v : Value} {xs : List Value} (h : a.ownsRow base e 1 v n xs) (ht : Turned S a b) (hg : ∀ g, v.ownBlock = some g → ¬ S g) : b.ownsRow base e 1 v n xs :=
  owned_keep h fun g hg' hlt => ht.block g hlt (hg g hg')
end
end Go.Proofs.Ytidiepbmbbflhaa
