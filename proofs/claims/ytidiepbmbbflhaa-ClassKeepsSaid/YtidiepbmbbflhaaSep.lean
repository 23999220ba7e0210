/- Memory of a call's own, as one fact that each step of a walk hands on: things that lie apart from each other, none of them old. -/
import Derived.Test.YtidiepbmbbflhaaFlat
import Derived.Test.YtidiepbmbbflhaaOps
namespace Go.Proofs.Ytidiepbmbbflhaa
open Go Go.RowKit
/-- a thing in memory: the blocks that it needs, and what is so -/
structure Ent where
  F : Nat → Prop
  P : World → Prop
/-- what is so of a thing hangs on its blocks alone -/
def Ent.Ok (e : Ent) : Prop := ∀ w w', e.P w → (∀ b, e.F b → b < w.heap.size → w'.heap[b]? = w.heap[b]?) → e.P w'
def Far (F G : Nat → Prop) : Prop := ∀ b, F b → G b → False
theorem Far.symm {F G : Nat → Prop} (h : Far F G) : Far G F := fun b x y => h b y x
structure Mem (w0 w : World) (L : List Ent) : Prop where
  below : Below w0.heap.size w0 w
  ok : ∀ e ∈ L, e.Ok
  holds : ∀ e ∈ L, e.P w
  lo : ∀ e ∈ L, ∀ b, e.F b → w0.heap.size ≤ b ∧ b < w.heap.size
  far : L.Pairwise fun x y => Far x.F y.F
section
variable {w0 w w' : World} {L : List Ent} {e e' : Ent}
theorem Mem.start (w : World) : Mem w w [] := ⟨Below.refl _ _, (fun _ h => by cases h), (fun _ h => by cases h), (fun _ h => by cases h), .nil⟩
theorem Mem.get (h : Mem w0 w L) (i : Nat) (hi : L[i]? = some e) : e.P w := h.holds e (List.mem_of_getElem? hi)
theorem Mem.from_ (h : Mem w0 w L) (i : Nat) (hi : L[i]? = some e) {b : Nat} (hb : e.F b) : w0.heap.size ≤ b ∧ b < w.heap.size := h.lo e (List.mem_of_getElem? hi) b hb
theorem Mem.call (h : Mem w0 w L) (hb : Below w.heap.size w w') : Mem w0 w' L :=
  ⟨h.below.trans (hb.mono h.below.size), h.ok, (fun e he => h.ok e he w w' (h.holds e he) fun b _ hl => hb.block b hl), (fun e he b hf => ⟨(h.lo e he b hf).1, Nat.lt_of_lt_of_le (h.lo e he b hf).2 hb.size⟩), h.far⟩
theorem Mem.cons (h : Mem w0 w L) (ho : e.Ok) (hp : e.P w) (hF : ∀ b, e.F b → w0.heap.size ≤ b ∧ b < w.heap.size ∧ ∀ x ∈ L, ¬ x.F b) : Mem w0 w (e :: L) :=
  ⟨h.below, (fun x hx => by rcases List.mem_cons.1 hx with rfl | hx; exact ho; exact h.ok x hx), (fun x hx => by rcases List.mem_cons.1 hx with rfl | hx; exact hp; exact h.holds x hx), (fun x hx b hf => by rcases List.mem_cons.1 hx with rfl | hx; exact ⟨(hF b hf).1, (hF b hf).2.1⟩; exact h.lo x hx b hf), List.pairwise_cons.2 ⟨fun x hx b h1 h2 => (hF b h1).2.2 x hx h2, h.far⟩⟩
/-- a call that made something new -/
theorem Mem.new (h : Mem w0 w L) (hb : Below w.heap.size w w') (ho : e.Ok) (hp : e.P w') (hF : ∀ b, e.F b → w.heap.size ≤ b ∧ b < w'.heap.size) : Mem w0 w' (e :: L) :=
  (h.call hb).cons ho hp fun b hf => ⟨Nat.le_trans h.below.size (hF b hf).1, (hF b hf).2, fun x hx hx2 => by have := (h.lo x hx b hx2).2; have := (hF b hf).1; omega⟩
/-- a step that turned one thing, and made some memory -/
theorem Mem.upd (h : Mem w0 w L) (i : Nat) (hi : L[i]? = some e) {row : Option Nat} (hg : w.grownBy w' row) (hrow : ∀ b, row = some b → e.F b) (ho : e'.Ok) (hp : e'.P w') (hF : ∀ b, e'.F b → e.F b ∨ (w.heap.size ≤ b ∧ b < w'.heap.size)) : Mem w0 w' (L.set i e') := by
  have hlt : i < L.length := (List.getElem?_eq_some_iff.1 hi).1
  have hmem : ∀ x, x ∈ L.set i e' → x = e' ∨ ∃ k, k ≠ i ∧ L[k]? = some x := fun x hx => by
    obtain ⟨k, hk⟩ := List.getElem?_of_mem hx
    rw [List.getElem?_set] at hk
    by_cases e1 : i = k
    · rw [if_pos e1, if_pos (by omega)] at hk
      exact .inl (Option.some.inj hk).symm
    · rw [if_neg e1] at hk
      exact .inr ⟨k, fun e2 => e1 e2.symm, hk⟩
  have hfar : ∀ k x, k ≠ i → L[k]? = some x → Far e.F x.F := fun k x hk hx => by
    have hp2 := List.pairwise_iff_getElem.1 h.far
    have hkl := (List.getElem?_eq_some_iff.1 hx).1
    have e1 := (List.getElem?_eq_some_iff.1 hx).2
    have e2 := (List.getElem?_eq_some_iff.1 hi).2
    rcases Nat.lt_or_ge k i with hlt2 | hge
    · have := hp2 k i hkl hlt hlt2
      rw [e1, e2] at this
      exact this.symm
    · have := hp2 i k hlt hkl (by omega)
      rw [e1, e2] at this
      exact this
  refine ⟨h.below.grown hg h.below.size fun b hb => (h.from_ i hi (hrow b hb)).1, fun x hx => ?_, fun x hx => ?_, fun x hx b hf => ?_, ?_⟩
  · rcases hmem x hx with rfl | ⟨k, _, hk⟩
    · exact ho
    · exact h.ok x (List.mem_of_getElem? hk)
  · rcases hmem x hx with rfl | ⟨k, hne, hk⟩
    · exact hp
    · refine h.ok x (List.mem_of_getElem? hk) w w' (h.holds x (List.mem_of_getElem? hk)) fun b hf hl => hg.block b hl fun e1 => ?_
      exact hfar k x hne hk b (hrow b e1.symm) hf
  · rcases hmem x hx with rfl | ⟨k, _, hk⟩
    · rcases hF b hf with h1 | h1
      · exact ⟨(h.from_ i hi h1).1, Nat.lt_of_lt_of_le (h.from_ i hi h1).2 hg.size⟩
      · exact ⟨Nat.le_trans h.below.size h1.1, h1.2⟩
    · have := h.lo x (List.mem_of_getElem? hk) b hf
      exact ⟨this.1, Nat.lt_of_lt_of_le this.2 hg.size⟩
  · refine List.pairwise_iff_getElem.2 fun a c ha hc hac => ?_
    rw [List.length_set] at ha hc
    rw [List.getElem_set, List.getElem_set]
    have hold : ∀ k (hk : k < L.length), k ≠ i → Far e'.F (L[k]).F := fun k hk hne b h1 h2 => by
      rcases hF b h1 with h3 | h3
      · exact hfar k _ hne (List.getElem?_eq_getElem hk) b h3 h2
      · have := (h.lo _ (List.getElem_mem hk) b h2).2
        omega
    by_cases e1 : i = a
    · subst e1
      rw [if_pos rfl, if_neg (by omega)]
      exact hold c hc (by omega)
    · rw [if_neg e1]
      by_cases e2 : i = c
      · subst e2
        rw [if_pos rfl]
        exact (hold a ha (by omega)).symm
      · rw [if_neg e2]
        exact List.pairwise_iff_getElem.1 h.far a c ha hc hac
theorem Mem.refit (h : Mem w0 w L) (i : Nat) (hi : L[i]? = some e) (ho : e'.Ok) (hp : e'.P w) (hF : ∀ b, e'.F b → e.F b) : Mem w0 w (L.set i e') :=
  h.upd i hi (World.grownBy.refl w none) (fun _ hb => by cases hb) ho hp fun b hf => .inl (hF b hf)
/-- some of the things, in another order -/
theorem Mem.pick (h : Mem w0 w L) (l : List Nat) (hn : l.Nodup) {L' : List Ent} (hs : l.mapM (fun i => L[i]?) = some L') : Mem w0 w L' := by
  have hat : ∀ (l : List Nat) (L' : List Ent), l.mapM (fun i => L[i]?) = some L' → L'.length = l.length ∧ ∀ (k : Nat) (x : Ent), L'[k]? = some x → ∃ i, l[k]? = some i ∧ L[i]? = some x := by
    intro l
    induction l with
    | nil => intro L' hs; simp at hs; subst hs; exact ⟨rfl, fun k x hx => by simp at hx⟩
    | cons i l ih =>
      intro L' hs
      rw [List.mapM_cons] at hs
      cases h1 : L[i]? with
      | none => simp [h1] at hs
      | some x =>
        cases h2 : l.mapM (fun i => L[i]?) with
        | none => simp [h1, h2] at hs
        | some M =>
          simp only [h1, h2, Option.bind_eq_bind, Option.bind_some, Option.pure_def, Option.some.injEq] at hs
          subst hs
          obtain ⟨k1, k2⟩ := ih M h2
          refine ⟨by simp [k1], fun k y hy => ?_⟩
          cases k with
          | zero => simp at hy; subst hy; exact ⟨i, rfl, h1⟩
          | succ k => exact k2 k y (by simpa using hy)
  obtain ⟨hl, hg⟩ := hat l L' hs
  have hm : ∀ x ∈ L', x ∈ L := fun x hx => by
    obtain ⟨k, hk⟩ := List.getElem?_of_mem hx
    obtain ⟨i, _, hi⟩ := hg k x hk
    exact List.mem_of_getElem? hi
  refine ⟨h.below, fun x hx => h.ok x (hm x hx), fun x hx => h.holds x (hm x hx), fun x hx => h.lo x (hm x hx), List.pairwise_iff_getElem.2 fun a c ha hc hac => ?_⟩
  obtain ⟨i, hi1, hi2⟩ := hg a _ (List.getElem?_eq_getElem ha)
  obtain ⟨k, hk1, hk2⟩ := hg c _ (List.getElem?_eq_getElem hc)
  obtain ⟨hil, e1⟩ := List.getElem?_eq_some_iff.1 hi2
  obtain ⟨hkl, e2⟩ := List.getElem?_eq_some_iff.1 hk2
  have hne : i ≠ k := by
    rintro rfl
    have h1 := List.getElem?_eq_some_iff.1 hi1
    have h2 := List.getElem?_eq_some_iff.1 hk1
    have := (List.getElem_inj hn).1 (h1.2.trans h2.2.symm)
    omega
  have hp2 := List.pairwise_iff_getElem.1 h.far
  rw [← e1, ← e2]
  rcases Nat.lt_or_ge i k with h1 | h1
  · exact hp2 i k hil hkl h1
  · exact (hp2 k i hkl hil (by omega)).symm
theorem Mem.drop (h : Mem w0 w L) (n : Nat) : Mem w0 w (L.drop n) :=
  ⟨h.below, fun x hx => h.ok x (List.mem_of_mem_drop hx), fun x hx => h.holds x (List.mem_of_mem_drop hx), fun x hx => h.lo x (List.mem_of_mem_drop hx), h.far.drop⟩
/-- two things are one -/
def Ent.both (a b : Ent) : Ent := ⟨fun k => a.F k ∨ b.F k, fun w => a.P w ∧ b.P w⟩
theorem Ent.both_ok {a b : Ent} (ha : a.Ok) (hb : b.Ok) : (a.both b).Ok := fun w w' h hk => ⟨ha w w' h.1 fun k hf => hk k (.inl hf), hb w w' h.2 fun k hf => hk k (.inr hf)⟩
/-- what is so of each of some, that lie apart -/
def Ent.all {α : Type} (l : List α) (f : α → Ent) : Ent := ⟨fun b => ∃ x ∈ l, (f x).F b, fun w => (∀ x ∈ l, (f x).P w) ∧ l.Pairwise fun x y => Far (f x).F (f y).F⟩
theorem Ent.all_ok {α : Type} {l : List α} {f : α → Ent} (h : ∀ x ∈ l, (f x).Ok) : (Ent.all l f).Ok := fun w w' hp hk => ⟨fun x hx => h x hx w w' (hp.1 x hx) fun b hf => hk b ⟨x, hx, hf⟩, hp.2⟩
theorem Mem.join {a b : Ent} (h : Mem w0 w (a :: b :: L)) : Mem w0 w (a.both b :: L) := by
  have h2 := h.drop 2
  have hf := List.pairwise_cons.1 h.far
  have hf2 := List.pairwise_cons.1 hf.2
  refine h2.cons (Ent.both_ok (h.ok a (by simp)) (h.ok b (by simp))) ⟨h.holds a (by simp), h.holds b (by simp)⟩ fun k hk => ?_
  rcases hk with hk | hk
  · exact ⟨(h.lo a (by simp) k hk).1, (h.lo a (by simp) k hk).2, fun x hx hx2 => hf.1 x (List.mem_cons_of_mem _ hx) k hk hx2⟩
  · exact ⟨(h.lo b (by simp) k hk).1, (h.lo b (by simp) k hk).2, fun x hx hx2 => hf2.1 x hx k hk hx2⟩
/-- one more of some -/
theorem Mem.push {α : Type} {l : List α} {x : α} {f : α → Ent} (h : Mem w0 w (f x :: Ent.all l f :: L)) (hx : (f x).Ok) : Mem w0 w (Ent.all (l ++ [x]) f :: L) := by
  have h2 := h.join
  have hf0 : Far (f x).F (Ent.all l f).F := (List.pairwise_cons.1 h.far).1 _ (by simp)
  have hp0 := h.holds (Ent.all l f) (by simp)
  refine (h2.drop 1).cons ?_ ?_ ?_
  · intro w w' hp hk
    refine ⟨fun y hy => ?_, hp.2⟩
    rcases List.mem_append.1 hy with hy | hy
    · exact ((h.ok (Ent.all l f) (by simp)) w w' ⟨fun y hy => hp.1 y (List.mem_append_left _ hy), hp0.2⟩ (fun b ⟨z, hz, hf⟩ => hk b ⟨z, List.mem_append_left _ hz, hf⟩)).1 y hy
    · rw [List.mem_singleton.1 hy]
      exact hx w w' (hp.1 x (by simp)) fun b hf => hk b ⟨x, by simp, hf⟩
  · refine ⟨fun y hy => ?_, List.pairwise_append.2 ⟨hp0.2, by simp, fun y hy z hz b h1 h3 => ?_⟩⟩
    · rcases List.mem_append.1 hy with hy | hy
      · exact hp0.1 y hy
      · rw [List.mem_singleton.1 hy]
        exact h.holds (f x) (by simp)
    · rw [List.mem_singleton.1 hz] at h3
      exact hf0 b h3 ⟨y, hy, h1⟩
  · rintro b ⟨y, hy, hf⟩
    have hb : ((f x).both (Ent.all l f)).F b := by
      rcases List.mem_append.1 hy with hy | hy
      · exact .inr ⟨y, hy, hf⟩
      · rw [List.mem_singleton.1 hy] at hf
        exact .inl hf
    exact ⟨(h2.lo _ (by simp) b hb).1, (h2.lo _ (by simp) b hb).2, fun z hz hz2 => (List.pairwise_cons.1 h2.far).1 z hz b hb hz2⟩
/-- a block known whole -/
def blkE (g : Nat) (t : TypeId) (cs : Array Value) : Ent := ⟨fun b => b = g, fun w => Blk w g t cs⟩
theorem blkE_ok (g : Nat) (t : TypeId) (cs : Array Value) : (blkE g t cs).Ok := fun _ _ h hk => (hk g rfl (Blk.lt h)).trans h
/-- a row of one's own -/
def ownE (B : Nat) (t : TypeId) (s : Nat) (u : Value) (n : Nat) (xs : List Value) : Ent := ⟨fun b => u.ownBlock = some b, fun w => w.ownsRow B t s u n xs⟩
theorem ownE_ok (B : Nat) (t : TypeId) (s : Nat) (u : Value) (n : Nat) (xs : List Value) : (ownE B t s u n xs).Ok := fun _ _ h hk => owned_keepN h fun g hg hl => hk g hg hl
theorem Mem.blk {g : Nat} {t : TypeId} {cs : Array Value} (h : Mem w0 w L) (i : Nat) (hi : L[i]? = some (blkE g t cs)) : Blk w g t cs := h.get i hi
theorem Mem.own {B n s : Nat} {t : TypeId} {u : Value} {xs : List Value} (h : Mem w0 w L) (i : Nat) (hi : L[i]? = some (ownE B t s u n xs)) : w.ownsRow B t s u n xs := h.get i hi
/-- one block more -/
theorem Mem.new1 {t : TypeId} {cs : Array Value} (h : Mem w0 w L) (hn : New1 w w' t cs) : Mem w0 w' (blkE w.heap.size t cs :: L) :=
  h.new hn.below (blkE_ok _ _ _) hn.blk fun b hf => by have := hn.size; have e : b = w.heap.size := hf; omega
/-- a store into a block -/
theorem Mem.st {g : Nat} {t t' : TypeId} {cs cs' : Array Value} (h : Mem w0 w L) (i : Nat) (hi : L[i]? = some (blkE g t cs)) (hk : Blk w' g t' cs') (hg : w.grownBy w' (some g)) : Mem w0 w' (L.set i (blkE g t' cs')) :=
  h.upd i hi hg (fun b hb => (Option.some.inj hb).symm) (blkE_ok _ _ _) hk fun _ hf => .inl hf
/-- an append onto a row of one's own -/
theorem Mem.app {B n n' s : Nat} {t : TypeId} {u u' : Value} {xs xs' : List Value} (h : Mem w0 w L) (i : Nat) (hi : L[i]? = some (ownE B t s u n xs)) (ho : w'.ownsRow B t s u' n' xs') (hg : w.grownBy w' u.ownBlock) (hp : u'.ownBlock = u.ownBlock ∨ u'.ownBlock = some w.heap.size) : Mem w0 w' (L.set i (ownE B t s u' n' xs')) :=
  h.upd i hi hg (fun _ hb => hb) (ownE_ok _ _ _ _ _ _) ho fun b hf => by
    have hf : u'.ownBlock = some b := hf
    rcases hp with e1 | e1
    · exact .inl (show u.ownBlock = some b by rw [← e1]; exact hf)
    · rw [e1] at hf
      injection hf with hf
      subst hf
      exact .inr ⟨Nat.le_refl _, (owned_ltN ho e1).2⟩
/-- a row of nothing -/
theorem Mem.nilRow (h : Mem w0 w L) (B : Nat) (t : TypeId) (s : Nat) : Mem w0 w (ownE B t s (.slice none 0 0) 0 [] :: L) :=
  h.cons (ownE_ok _ _ _ _ _ _) (World.ownsRow_nil _ _ _ _) fun b hf => by cases (show (none : Option Nat) = some b from hf)
/-- a thing that needs no memory -/
theorem Mem.pure (h : Mem w0 w L) (ho : e.Ok) (hp : e.P w) (hF : ∀ b, ¬ e.F b) : Mem w0 w (e :: L) := h.cons ho hp fun b hf => absurd hf (hF b)
theorem Mem.allNil {α : Type} (h : Mem w0 w L) (f : α → Ent) : Mem w0 w (Ent.all [] f :: L) :=
  h.pure (fun _ _ _ _ => ⟨(fun x hx => by cases hx), List.Pairwise.nil⟩) ⟨(fun x hx => by cases hx), List.Pairwise.nil⟩ (fun b ⟨x, hx, _⟩ => by cases hx)
/-- old memory is as it was -/
theorem Mem.old (h : Mem w0 w L) {b : Nat} (hb : b < w0.heap.size) : w.heap[b]? = w0.heap[b]? := h.below.block b hb
end
end Go.Proofs.Ytidiepbmbbflhaa
