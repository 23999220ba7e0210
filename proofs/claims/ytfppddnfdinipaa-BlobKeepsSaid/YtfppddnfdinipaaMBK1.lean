/- A region that leaves its order open: the first n operations only read (in every world of a class C each yields one value and leaves a world of C), the others stand in one forced order behind them. ONE walk serves: the head quietly, in the text's order, the tail as a list. (After the library's two theorems on a still head with a tail, and on quiet regions: Derived/StillTail.lean, Derived/Deep/Quiet.lean, which are imported.) A region that leaves its order open, whose head reads, calls what only makes new memory, and makes blocks of its own: whatever order is taken, each made thing is as its own predicate says. ONE walk in the text's order serves; what stands behind the head is one forced tail.
   The slots of made things (F) hold 'undef' on the walk; where an operation looks at such a slot it is shown for whatever value meets the slot's predicate. Small words for the walks of this seat: hiding a fact, blocks that are known whole, worlds that have grown. More small words: slices of arrays behind a pointer. More small words: an element of an array by value. The region law of FreshTail for made things of any sorts: slot by slot a list of predicates. append onto a row of one's own, whatever the source is: nil, empty, or lying anywhere. rows of bytes in memory: words that all else shares. Arrays of bytes against one another. Single operations, run: for the region laws. spencekit: lists that are lent, with marks behind them. package dev: a device's block; the small walks. package dev: a device is made; its fuse, its crash, what there is to say of it. package dev: what there is to say of a device. steps for a region that draws its order: a block of many cells is loaded, a row of one struct is built, a row of structs grows. append onto a row of one's own, and where the new row lies: in the old one's place, or anew, the old one as it was. -/
import Derived.StillTail
import Derived.Deep.Quiet
import Derived.BigQuiet
import Derived.Below
import Derived.Test.YtfppddnfdinipaaRows
import Derived.WalkKit
import Derived.WalkSpells
import Derived.WalkLawsBesides
import Derived.Laws.OwnMore
import Derived.Deep.Draws
import Derived.Laws.Rows
import Derived.Laws.CopyOwn
import Derived.Deep.WholeRow
import Derived.Deep.MidRow
import Derived.Maps.AppendAt
import Derived.Laws.AppendOwnNone
import Derived.RegionTactic
import Derived.OwnWalk
import Derived.Deep.OwnRows
import Derived.Stop.BytesEq
import Derived.Deep.RegionLaw
section
namespace Go.Proofs.Ytfppddnfdinipaa
open Go
section
variable {P : Program} {ops : Array Oper} {md : Region.Mode} {C : World → Prop}

/-- whatever order the head is taken in, L holds when it is done -/
def headQ (P : Program) (md : Region.Mode) (ops : Array Oper) (C : World → Prop) (n : Nat) (L : Array Bool → Act → Prop) : Nat → Array Bool → Act → Prop
  | 0, d, a => L d a
  | f + 1, d, a => Region.ready md ops d ≠ [] ∧ ∀ i ∈ Region.ready md ops d, i < n ∧ qOp P ops C i (headQ P md ops C n L f (d.setIfInBounds i true)) a

theorem any_of_headQ {n g : Nat} {L : Array Bool → Act → Prop} {Q' : Exit → Act → World → Prop} (hL : ∀ d a w, C w → L d a → wpAny P md ops Q' g d a w) :
    ∀ (f : Nat) (d : Array Bool) (a : Act) (w : World), C w → headQ P md ops C n L f d a → wpAny P md ops Q' (f + g) d a w
  | 0, d, a, w, hw, h => by
    rw [Nat.zero_add]
    exact hL _ _ _ hw h
  | f + 1, d, a, w, hw, h => by
    rw [Nat.add_right_comm]
    exact ⟨fun he => absurd he h.1, fun i hi => wpOp_of_qOp hw (fun a' w' hw' h' => any_of_headQ hL f _ a' w' hw' h') (h.2 i hi).2⟩

theorem headQ_lt {n : Nat} {d : Array Bool} (hs : Region.sinkB md ops n = true) (hc : Region.chainB md ops n = true) (hn : n < ops.size) (inv : HeadInv md ops n d)
    {i j : Nat} (hin : i < n) (hun : d.getD i true = false) (hj : j ∈ Region.ready md ops d) : j < n :=
  Nat.lt_of_not_le fun h => tail_waits hs hc hn inv _ i rfl hin hun j h hj

theorem headQ_first {n i : Nat} {oi : Oper} {v : Value} {L : Array Bool → Act → Prop} (hi : ops[i]? = some oi) (hsel : ∀ (j : Nat) (o : Oper) cs b, ops[j]? = some o → o.op ≠ .select cs b)
    (hs : Region.sinkB md ops n = true) (hc : Region.chainB md ops n = true) (hn : n < ops.size) (hin : i < n) (hdone : ∀ d a, L d a → ∀ j ∈ Region.ready md ops d, n ≤ j) (f : Nat) :
    ∀ (d : Array Bool) (a : Act), HeadInv md ops n d →
      (∀ j oj, ops[j]? = some oj → j ≠ i → d.getD j true = false → (∀ e ∈ oj.after, Region.binds md e = true → e.on ≠ i) → oi.apart ops oj = true) →
      i ∈ Region.ready md ops d → YieldsIn P ops C oi v a →
      headQ P md ops C n L f (d.setIfInBounds i true) (a.put oi.dst v) → headQ P md ops C n L (f + 1) d a := by
  induction f with
  | zero =>
    intro d a inv _ hr hy H
    refine ⟨List.ne_nil_of_mem hr, fun j hj => ?_⟩
    have hjn := headQ_lt hs hc hn inv hin (mem_ready.1 hr).1 hj
    refine ⟨hjn, ?_⟩
    rcases Nat.decEq j i with hji | hji
    · exact absurd (hdone _ _ H j (ready_mono hj hji)) (by omega)
    · subst hji
      exact hy.qOp hi H
  | succ f ih =>
    intro d a inv hfree hr hy H
    refine ⟨List.ne_nil_of_mem hr, fun j hj => ?_⟩
    have hjn := headQ_lt hs hc hn inv hin (mem_ready.1 hr).1 hj
    refine ⟨hjn, ?_⟩
    rcases Nat.decEq j i with hji | hji
    · obtain ⟨hjun, oj, hoj, hall⟩ := mem_ready.1 hj
      have hnot : ∀ e ∈ oj.after, Region.binds md e = true → e.on ≠ i := by
        intro e he hb heq
        have h1 := hall e he hb
        rw [heq, getD_both (mem_ready.1 hr).1] at h1
        cases h1
      have hstep := qOp_put hoj (hfree j oj hoj hji hjun hnot) (fun cs b => hsel i oi cs b hi) (fun cs b => hsel j oj cs b hoj) hy (H.2 j (ready_mono hj hji)).2
      refine qOp_mono (fun a' h3 => ih (d.setIfInBounds j true) a' (inv.set hj hjn) ?_ (ready_mono hr (Ne.symm hji)) h3.1 ?_) hstep
      · intro k ok hk hki hunk hno
        refine hfree k ok hk hki ?_ hno
        rcases Nat.decEq j k with hjk | hjk
        · rwa [getD_set_ne true hjk] at hunk
        · subst hjk
          exact hjun
      · rw [Array.setIfInBounds_comm _ _ hji]
        exact h3.2
    · subst hji
      exact hy.qOp hi H

theorem headQ_lex {n g : Nat} {Lq : Act → Prop} (hsel : Region.noSelect ops = true) (hs : Region.sinkB md ops n = true) (hc : Region.chainB md ops n = true) (hn : n < ops.size) :
    ∀ (l : List Oper) (k : Nat) (d : Array Bool) (a : Act), (∀ j, j < l.length → l[j]? = ops[k + j]?) → k + l.length = n → HeadInv md ops n d →
    Region.lexHead md ops g l.length k d = true → wpQuiet P ops C Lq l a →
    headQ P md ops C n (fun d' a' => Region.seqB md ops g n d' = true ∧ Lq a') l.length d a
  | [], k, d, a, _, hk, _, hB, h => by
    obtain rfl : k = n := by simpa using hk
    exact ⟨by simpa [Region.lexHead] using hB, h⟩
  | o :: l, k, d, a, hl, hk, inv, hB, h => by
    have h0 : ops[k]? = some o := by simpa using (hl 0 (by simp)).symm
    simp only [List.length_cons, Region.lexHead, Bool.and_eq_true] at hB
    obtain ⟨⟨hr, hf⟩, hB'⟩ := hB
    have hkn : k < n := by simp only [List.length_cons] at hk; omega
    have hr' : k ∈ Region.ready md ops d := by simpa using hr
    have hst : qOp P ops C k (wpQuiet P ops C Lq l) a := by unfold qOp; simp only [h0]; exact h
    obtain ⟨v, hy, hK⟩ := yieldsIn_of_qOp h0 hst
    refine headQ_first h0 (Region.noSelect_spec hsel) hs hc hn hkn (fun d' a' hL => seqB_ready hL.1) l.length d a inv (Region.free_spec h0 hf) hr' hy ?_
    refine headQ_lex hsel hs hc hn l (k + 1) _ _ (fun j hj => ?_) (by simp only [List.length_cons] at hk; omega) (inv.set hr' hkn) hB' hK
    have := hl (j + 1) (by simp; omega)
    simpa [Nat.add_assoc, Nat.add_comm 1 j] using this

/-- the law -/
theorem wp_quiet_tail {id : Nat} {Q : Exit → Act → World → Prop} {a : Act} {w : World} {l : List Oper} (n : Nat) (hm : P.follows .mixedOrders = true) (hB : Region.lexTailB .any l.toArray n = true)
    (hC : C w.drew) (h : wpQuiet P l.toArray C (fun a' => ∀ w', C w' → wpList P l.toArray Q (l.drop n) a' w') (l.take n) a) : (Code.region id l.toArray true).wp P Q a w := by
  simp only [Region.lexTailB, Bool.and_eq_true, decide_eq_true_eq] at hB
  obtain ⟨⟨⟨⟨hsel, hn⟩, hs⟩, hc⟩, hlex⟩ := hB
  have hn' : n < l.length := by simpa using hn
  have htl : (l.take n).length = n := by simp; omega
  have hdl : (l.drop n).length = l.toArray.size - n := by simp
  have inv0 : HeadInv .any l.toArray n (Array.replicate l.toArray.size false) :=
    ⟨by simp, fun j oj _ hl => (by rw [getD_replicate_false] at hl; cases hl), fun t _ ht => getD_in (by simpa using ht) (getD_replicate_false _ _)⟩
  have H := headQ_lex (C := C) (md := .any) (g := l.toArray.size - n) hsel hs hc hn (l.take n) 0 _ a (fun j hj => by
    have hj' : j < n := by rw [htl] at hj; exact hj
    simp [hj']) (by simpa using htl) inv0 (by rw [htl]; exact hlex) h
  refine wp_region_any hm ?_
  have hfin := any_of_headQ (Q' := Q) (g := l.toArray.size - n) (fun d a' w' hw' hL => by
    have h2 := wpAny_of_seq (md := .any) (Q' := Q) (l.drop n) n d a' w' (fun j => by simp [List.getElem?_drop]) (by rw [hdl]; exact hL.1) (hL.2 w' hw')
    rwa [hdl] at h2) _ _ _ w.drew hC H
  rw [htl, show n + (l.toArray.size - n) = l.toArray.size by omega] at hfin
  exact hfin
/-- the law at the class 'the world after some draws' -/
theorem wp_quiet_tail_drewN {id : Nat} {Q : Exit → Act → World → Prop} {a : Act} {w : World} {l : List Oper} (n : Nat) (hm : P.follows .mixedOrders = true) (hB : Region.lexTailB .any l.toArray n = true)
    (h : wpQuiet P l.toArray (fun w' => ∃ k, w' = w.drewN k) (fun a' => ∀ k, wpList P l.toArray Q (l.drop n) a' (w.drewN k)) (l.take n) a) : (Code.region id l.toArray true).wp P Q a w := by
  refine wp_quiet_tail (C := fun w' => ∃ k, w' = w.drewN k) n hm hB ⟨1, rfl⟩ ?_
  have e : (fun a' => ∀ w', (∃ k, w' = w.drewN k) → wpList P l.toArray Q (l.drop n) a' w') = (fun a' => ∀ k, wpList P l.toArray Q (l.drop n) a' (w.drewN k)) := by
    funext a'
    exact propext ⟨fun h k => h _ ⟨k, rfl⟩, fun h w' ⟨k, hk⟩ => hk ▸ h k⟩
  rw [e]
  exact h
end
end Go.Proofs.Ytfppddnfdinipaa
end
section
namespace Go.Proofs.Ytfppddnfdinipaa
open Go Go.RowKit

/-- all that was there is as it was -/
def Ext (w w' : World) : Prop := Below w.heap.size w w'
theorem Ext.refl (w : World) : Ext w w := Below.refl _ _
theorem Ext.trans {a b c : World} (h : Ext a b) (k : Ext b c) : Ext a c := Below.trans h (Below.mono k h.size)
theorem Ext.drew (w : World) : Ext w w.drew := (Below.refl _ _).drew
theorem Ext.alloc (w : World) (o : Obj) : Ext w (w.alloc o) := (Below.refl _ _).alloc (Nat.le_refl _) o

/-- what is made, slot by slot -/
abbrev Made := Tmp → Option (Value → World → Prop)

section
variable {P : Program} {ops : Array Oper} {md : Region.Mode} {F : Made} {w0 : World}

/-- what a made thing is stays so -/
def stays (F : Made) : Prop := ∀ t V, F t = some V → ∀ u w w', V u w → Ext w w' → V u w'

/-- an operation hands on one value -/
def quietTo (P : Program) (v : Value) (w : World) : Result Next → Prop
  | .ok (.value u) w' => w' = w ∧ u = v
  | .ok .skip w' => w' = w ∧ v = undef
  | .ok (.enter f args) w' => w' = w ∧ Calls P f args w (fun e w'' => e = .returned v ∧ Ext w w'')
  | _ => False
/-- a value is none of the made ones -/
def newTo (F : Made) (w : World) (u : Value) : Prop := ∀ t V u', F t = some V → V u' w → u' ≠ u
/-- an operation makes something -/
def freshTo (P : Program) (F : Made) (V : Value → World → Prop) (w : World) : Result Next → Prop
  | .ok (.value u) w' => Ext w w' ∧ V u w' ∧ newTo F w u
  | .ok (.enter f args) w' => w' = w ∧ Calls P f args w (fun e w'' => ∃ u, e = .returned u ∧ Ext w w'' ∧ V u w'' ∧ newTo F w u)
  | _ => False
/-- the one or the other -/
def makesTo (P : Program) (F : Made) (V? : Option (Value → World → Prop)) (v : Value) (w : World) (r : Result Next) : Prop :=
  match V? with
  | some V => v = undef ∧ freshTo P F V w r
  | none => quietTo P v w r

/-- frames that are one but for made slots -/
def Same (F : Made) (a b : Act) : Prop := a.defers = b.defers ∧ a.tmps.size = b.tmps.size ∧ ∀ t, F t = none → a.tmps[t]? = b.tmps[t]?

/-- the made slots that are looked at hold what they should -/
def Holds (F : Made) (l : List Tmp) (b : Act) (w : World) : Prop := ∀ t ∈ l, ∀ V, F t = some V → ∃ u, b.tmps[t]? = some u ∧ V u w

/-- what an operation does in whatever frame that is as 'a' but for made slots, and whose made slots that it looks at hold what they should -/
def Does (P : Program) (ops : Array Oper) (F : Made) (w0 : World) (o : Oper) (v : Value) (a : Act) : Prop :=
  ∀ b w, Ext w0 w → Same F b a → Holds F (o.looksAt ops) b w →
    (Region.wanted o (yielded ops b.tmps) = true → makesTo P F (o.dst.bind F) v w ((execOp b.eval o).run P w)) ∧
    (Region.wanted o (yielded ops b.tmps) = false → v = undef ∧ o.dst.bind F = none)

theorem tmps_put (a : Act) (d : Tmp) (x : Value) (t : Tmp) (h : t ≠ d) : (a.put (some d) x).tmps[t]? = a.tmps[t]? := by
  simp only [Act.put]
  rw [Array.getElem?_setIfInBounds_ne (Ne.symm h)]
theorem size_put (a : Act) (dst : Option Tmp) (x : Value) : (a.put dst x).tmps.size = a.tmps.size := by cases dst <;> simp [Act.put]
theorem defers_put (a : Act) (dst : Option Tmp) (x : Value) : (a.put dst x).defers = a.defers := by cases dst <;> rfl
theorem tmps_put_at (a : Act) (d : Tmp) (x : Value) : (a.put (some d) x).tmps[d]? = if d < a.tmps.size then some x else none := by
  simp only [Act.put, Array.getElem?_setIfInBounds, if_true]
theorem Same.put {a b : Act} (h : Same F a b) (dst : Option Tmp) (x : Value) : Same F (a.put dst x) (b.put dst x) := by
  refine ⟨by rw [defers_put, defers_put, h.1], by rw [size_put, size_put, h.2.1], fun t ht => ?_⟩
  cases dst with
  | none => exact h.2.2 t ht
  | some d =>
    by_cases e : t = d
    · subst e
      rw [tmps_put_at, tmps_put_at, h.2.1]
    · rw [tmps_put _ _ _ _ e, tmps_put _ _ _ _ e]
      exact h.2.2 t ht

theorem Holds.put {l : List Tmp} {b : Act} {w : World} (dst : Option Tmp) (x : Value) (hl : ∀ d, dst = some d → d ∉ l) : Holds F l (b.put dst x) w ↔ Holds F l b w := by
  unfold Holds
  constructor
  · intro h t ht V hV
    obtain ⟨u, hu, hv⟩ := h t ht V hV
    refine ⟨u, ?_, hv⟩
    cases dst with
    | none => exact hu
    | some d => rwa [tmps_put _ _ _ _ (fun e => hl d rfl (by rw [← e]; exact ht))] at hu
  · intro h t ht V hV
    obtain ⟨u, hu, hv⟩ := h t ht V hV
    refine ⟨u, ?_, hv⟩
    cases dst with
    | none => exact hu
    | some d => rw [tmps_put _ _ _ _ (fun e => hl d rfl (by rw [← e]; exact ht))]; exact hu

/-- another slot makes no difference -/
theorem Does.of_put {o : Oper} (hs : ∀ cs b, o.op ≠ .select cs b) {v : Value} {a : Act} {dst : Option Tmp} {x : Value} (hd : ∀ d, dst = some d → d ∉ o.looksAt ops) (h : Does P ops F w0 o v (a.put dst x)) : Does P ops F w0 o v a := by
  intro b w hw hb hh
  have h2 := h (b.put dst x) w hw (hb.put dst x) ((Holds.put dst x hd).2 hh)
  rwa [wanted_put o b dst x hd, execOp_put o hs b dst x hd] at h2
theorem Does.put {o : Oper} (hs : ∀ cs b, o.op ≠ .select cs b) {v : Value} {a : Act} {dst : Option Tmp} {x : Value} (hd : ∀ d, dst = some d → d ∉ o.looksAt ops) (h : Does P ops F w0 o v a) : Does P ops F w0 o v (a.put dst x) := by
  cases dst with
  | none => exact h
  | some d =>
    intro b w hw hb hh
    have hsame : Same F (b.put (some d) (a.tmps.getD d undef)) a := by
      refine ⟨by rw [defers_put, hb.1, defers_put], by rw [size_put, hb.2.1, size_put], fun t ht => ?_⟩
      by_cases e : t = d
      · subst e
        rw [tmps_put_at, hb.2.1, size_put]
        split
        · rename_i hlt; simp [hlt]
        · rename_i hlt; rw [Array.getElem?_eq_none (Nat.le_of_not_lt hlt)]
      · rw [tmps_put _ _ _ _ e, hb.2.2 t ht, tmps_put _ _ _ _ e]
    have h2 := h (b.put (some d) (a.tmps.getD d undef)) w hw hsame ((Holds.put (some d) _ hd).2 hh)
    rwa [wanted_put o b (some d) _ hd, execOp_put o hs b (some d) _ hd] at h2

def absOp (P : Program) (ops : Array Oper) (F : Made) (w0 : World) (i : Nat) (K : Act → Prop) (a : Act) : Prop :=
  match ops[i]? with
  | none => K a
  | some o => ∃ v, Does P ops F w0 o v a ∧ K (a.put o.dst v)
theorem absOp_mono {i : Nat} {a : Act} {K K' : Act → Prop} (h : ∀ a, K a → K' a) (hh : absOp P ops F w0 i K a) : absOp P ops F w0 i K' a := by
  unfold absOp at *
  cases ho : ops[i]? with
  | none => simp only [ho] at hh; exact h _ hh
  | some o =>
    simp only [ho] at hh
    obtain ⟨v, h1, h2⟩ := hh
    exact ⟨v, h1, h _ h2⟩

theorem absOp_put {j : Nat} {oi oj : Oper} {v : Value} (hj : ops[j]? = some oj) (hap : oi.apart ops oj = true)
    (hsi : ∀ cs b, oi.op ≠ .select cs b) (hsj : ∀ cs b, oj.op ≠ .select cs b) {K : Act → Prop} {a : Act}
    (hy : Does P ops F w0 oi v a) (h : absOp P ops F w0 j K (a.put oi.dst v)) :
    absOp P ops F w0 j (fun a' => Does P ops F w0 oi v a' ∧ K (a'.put oi.dst v)) a := by
  obtain ⟨h1, h2, h3⟩ := Oper.apart_spec hap
  unfold absOp at *
  simp only [hj] at *
  obtain ⟨u, hu, hk⟩ := h
  exact ⟨u, hu.of_put hsj h1, hy.put hsi h3, by rw [← Act.put_comm a v u h2]; exact hk⟩

/-- whatever order the head is taken in, L holds when it is done -/
def headF (P : Program) (md : Region.Mode) (ops : Array Oper) (F : Made) (w0 : World) (n : Nat) (L : Array Bool → Act → Prop) : Nat → Array Bool → Act → Prop
  | 0, d, a => L d a
  | f + 1, d, a => Region.ready md ops d ≠ [] ∧ ∀ i ∈ Region.ready md ops d, i < n ∧ absOp P ops F w0 i (headF P md ops F w0 n L f (d.setIfInBounds i true)) a

theorem headF_first {n i : Nat} {oi : Oper} {v : Value} {L : Array Bool → Act → Prop} (hi : ops[i]? = some oi) (hsel : ∀ (j : Nat) (o : Oper) cs b, ops[j]? = some o → o.op ≠ .select cs b)
    (hs : Region.sinkB md ops n = true) (hc : Region.chainB md ops n = true) (hn : n < ops.size) (hin : i < n) (hdone : ∀ d a, L d a → ∀ j ∈ Region.ready md ops d, n ≤ j) (f : Nat) :
    ∀ (d : Array Bool) (a : Act), HeadInv md ops n d →
      (∀ j oj, ops[j]? = some oj → j ≠ i → d.getD j true = false → (∀ e ∈ oj.after, Region.binds md e = true → e.on ≠ i) → oi.apart ops oj = true) →
      i ∈ Region.ready md ops d → Does P ops F w0 oi v a →
      headF P md ops F w0 n L f (d.setIfInBounds i true) (a.put oi.dst v) → headF P md ops F w0 n L (f + 1) d a := by
  have own : ∀ (K : Act → Prop) (a : Act), Does P ops F w0 oi v a → K (a.put oi.dst v) → absOp P ops F w0 i K a := by
    intro K a hy hk
    unfold absOp
    simp only [hi]
    exact ⟨v, hy, hk⟩
  induction f with
  | zero =>
    intro d a inv _ hr hy H
    refine ⟨List.ne_nil_of_mem hr, fun j hj => ?_⟩
    have hjn := headQ_lt hs hc hn inv hin (mem_ready.1 hr).1 hj
    refine ⟨hjn, ?_⟩
    rcases Nat.decEq j i with hji | hji
    · exact absurd (hdone _ _ H j (ready_mono hj hji)) (by omega)
    · subst hji
      exact own _ _ hy H
  | succ f ih =>
    intro d a inv hfree hr hy H
    refine ⟨List.ne_nil_of_mem hr, fun j hj => ?_⟩
    have hjn := headQ_lt hs hc hn inv hin (mem_ready.1 hr).1 hj
    refine ⟨hjn, ?_⟩
    rcases Nat.decEq j i with hji | hji
    · obtain ⟨hjun, oj, hoj, hall⟩ := mem_ready.1 hj
      have hnot : ∀ e ∈ oj.after, Region.binds md e = true → e.on ≠ i := by
        intro e he hb heq
        have h1 := hall e he hb
        rw [heq, getD_both (mem_ready.1 hr).1] at h1
        cases h1
      have hstep := absOp_put hoj (hfree j oj hoj hji hjun hnot) (fun cs b => hsel i oi cs b hi) (fun cs b => hsel j oj cs b hoj) hy (H.2 j (ready_mono hj hji)).2
      refine absOp_mono (fun a' h3 => ih (d.setIfInBounds j true) a' (inv.set hj hjn) ?_ (ready_mono hr (Ne.symm hji)) h3.1 ?_) hstep
      · intro k ok hk hki hunk hno
        refine hfree k ok hk hki ?_ hno
        rcases Nat.decEq j k with hjk | hjk
        · rwa [getD_set_ne true hjk] at hunk
        · subst hjk
          exact hjun
      · rw [Array.setIfInBounds_comm _ _ hji]
        exact h3.2
    · subst hji
      exact own _ _ hy H

/-- the walk in the text's order -/
def wpMade (P : Program) (ops : Array Oper) (F : Made) (w0 : World) (Q : Act → Prop) : List Oper → Act → Prop
  | [], a => Q a
  | o :: rest, a => ∃ v, Does P ops F w0 o v a ∧ wpMade P ops F w0 Q rest (a.put o.dst v)

theorem headF_lex {n g : Nat} {Lq : Act → Prop} (hsel : Region.noSelect ops = true) (hs : Region.sinkB md ops n = true) (hc : Region.chainB md ops n = true) (hn : n < ops.size) :
    ∀ (l : List Oper) (k : Nat) (d : Array Bool) (a : Act), (∀ j, j < l.length → l[j]? = ops[k + j]?) → k + l.length = n → HeadInv md ops n d → (∀ i, i < k → d.getD i false = true) →
    Region.lexHead md ops g l.length k d = true → wpMade P ops F w0 Lq l a →
    headF P md ops F w0 n (fun d' a' => (Region.seqB md ops g n d' = true ∧ ∀ i, i < n → d'.getD i false = true) ∧ Lq a') l.length d a
  | [], k, d, a, _, hk, _, hd, hB, h => by
    obtain rfl : k = n := by simpa using hk
    exact ⟨⟨by simpa [Region.lexHead] using hB, hd⟩, h⟩
  | o :: l, k, d, a, hl, hk, inv, hd, hB, h => by
    have h0 : ops[k]? = some o := by simpa using (hl 0 (by simp)).symm
    simp only [List.length_cons, Region.lexHead, Bool.and_eq_true] at hB
    obtain ⟨⟨hr, hf⟩, hB'⟩ := hB
    have hkn : k < n := by simp only [List.length_cons] at hk; omega
    have hr' : k ∈ Region.ready md ops d := by simpa using hr
    obtain ⟨v, hy, hK⟩ := h
    refine headF_first h0 (Region.noSelect_spec hsel) hs hc hn hkn (fun d' a' hL => seqB_ready hL.1.1) l.length d a inv (Region.free_spec h0 hf) hr' hy ?_
    refine headF_lex hsel hs hc hn l (k + 1) _ _ (fun j hj => ?_) (by simp only [List.length_cons] at hk; omega) (inv.set hr' hkn) (fun i hi => ?_) hB' hK
    · have := hl (j + 1) (by simp; omega)
      simpa [Nat.add_assoc, Nat.add_comm 1 j] using this
    · by_cases e : k = i
      · subst e
        have : k < d.size := by rw [inv.size]; omega
        simp [this]
      · rw [getD_set_ne false e]
        exact hd i (by omega)

/-- made slots that are looked at have been made -/
def madeB (md : Region.Mode) (ops : Array Oper) (keys : List Tmp) (n : Nat) : Bool :=
  (List.range n).all fun j => match ops[j]? with
    | none => true
    | some o => (o.looksAt ops).all fun t => !keys.contains t || (List.range n).any fun i => (ops[i]?).bind (·.dst) == some t && Region.waitsFor md ops j i
/-- all made slots are made by the head -/
def allMadeB (ops : Array Oper) (keys : List Tmp) (n : Nat) : Bool := keys.all fun t => (List.range n).any fun i => (ops[i]?).bind (·.dst) == some t

def Sim (ops : Array Oper) (F : Made) (w0 : World) (d : Array Bool) (a b : Act) (w : World) : Prop :=
  Ext w0 w ∧ Same F b a ∧ ∀ i o t V, ops[i]? = some o → d.getD i false = true → o.dst = some t → F t = some V → (∃ u, b.tmps[t]? = some u ∧ V u w) ∧
    ∀ i' o' t' V', ops[i']? = some o' → d.getD i' false = true → o'.dst = some t' → F t' = some V' → t ≠ t' → b.tmps[t]? ≠ b.tmps[t']?

theorem any_of_headF {n g : Nat} {keys : List Tmp} (hF : stays F) (hkeys : ∀ t V, F t = some V → t ∈ keys) (hmade : madeB md ops keys n = true) (hsz : ∀ t ∈ keys, ∀ a : Act, ∀ b : Act, Same F b a → True)
    {L : Array Bool → Act → Prop} {Q' : Exit → Act → World → Prop} {size : Nat} (hrange : ∀ t V, F t = some V → t < size)
    (hL : ∀ d a b w, b.tmps.size = size → Sim ops F w0 d a b w → L d a → wpAny P md ops Q' g d b w) :
    ∀ (f : Nat) (d : Array Bool) (a b : Act) (w : World), b.tmps.size = size → HeadInv md ops n d → Sim ops F w0 d a b w → headF P md ops F w0 n L f d a → wpAny P md ops Q' (f + g) d b w
  | 0, d, a, b, w, hb, _, hs, h => by
    rw [Nat.zero_add]
    exact hL _ _ _ _ hb hs h
  | f + 1, d, a, b, w, hb, inv, hs, h => by
    rw [Nat.add_right_comm]
    refine ⟨fun he => absurd he h.1, fun i hi => ?_⟩
    obtain ⟨hin, hop⟩ := h.2 i hi
    obtain ⟨hun, oi, hoi, hall⟩ := mem_ready.1 hi
    obtain ⟨hw, hsame, hV⟩ := hs
    unfold absOp at hop
    simp only [hoi] at hop
    obtain ⟨v, hdo, hk⟩ := hop
    -- the made slots that it looks at
    have hhold : Holds F (oi.looksAt ops) b w := by
      intro t ht V hFt
      have h1 := List.all_eq_true.1 hmade i (List.mem_range.2 hin)
      simp only [hoi] at h1
      have h2 := List.all_eq_true.1 h1 t ht
      have hk2 : keys.contains t = true := by simpa using hkeys t V hFt
      simp only [hk2, Bool.not_true, Bool.false_or] at h2
      obtain ⟨j, _, hj2⟩ := List.any_eq_true.1 h2
      simp only [Bool.and_eq_true, beq_iff_eq] at hj2
      obtain ⟨hj3, hj4⟩ := hj2
      obtain ⟨oi', hoi', e, he, hbd, hon⟩ := Region.waitsFor_spec hj4
      obtain rfl : oi' = oi := Option.some.inj (hoi'.symm.trans hoi)
      cases hoj : ops[j]? with
      | none => simp [hoj] at hj3
      | some oj =>
        have hdst : oj.dst = some t := by simpa [hoj] using hj3
        exact (hV j oj t V hoj (by have := hall e he hbd; rwa [hon] at this) hdst hFt).1
    obtain ⟨hyes, hno⟩ := hdo b w hw hsame hhold
    -- the next state
    have next : ∀ (x : Value) (w' : World), Ext w w' → (∀ t V, oi.dst = some t → F t = some V → V x w' ∧ newTo F w x) → (oi.dst.bind F = none → x = v) →
        wpAny P md ops Q' (f + g) (d.setIfInBounds i true) (b.put oi.dst x) w' := by
      intro x w' hx hVx hxv
      refine any_of_headF hF hkeys hmade hsz hrange hL f _ (a.put oi.dst v) _ w' (by rw [size_put]; exact hb) (inv.set hi hin) ⟨hw.trans hx, ?_, ?_⟩ hk
      · refine ⟨by rw [defers_put, defers_put, hsame.1], by rw [size_put, size_put, hsame.2.1], fun t ht => ?_⟩
        cases hd : oi.dst with
        | none => exact hsame.2.2 t ht
        | some dd =>
          by_cases e : t = dd
          · subst e
            rw [hxv (by simp [hd, ht]), tmps_put_at, tmps_put_at, hsame.2.1]
          · rw [tmps_put _ _ _ _ e, tmps_put _ _ _ _ e]
            exact hsame.2.2 t ht
      · -- what stands in a slot of the next frame
        have at_new : ∀ t V, oi.dst = some t → F t = some V → (b.put oi.dst x).tmps[t]? = some x := by
          intro t V e hFt
          rw [e, tmps_put_at, if_pos (by rw [hb]; exact hrange t V hFt)]
        have at_old : ∀ t, oi.dst ≠ some t → (b.put oi.dst x).tmps[t]? = b.tmps[t]? := by
          intro t e
          cases hd : oi.dst with
          | none => rfl
          | some dd => exact tmps_put _ _ _ _ (fun e3 => e (by rw [hd, e3]))
        have was : ∀ j oj t V, ops[j]? = some oj → (d.setIfInBounds i true).getD j false = true → oj.dst = some t → F t = some V → oi.dst ≠ some t → d.getD j false = true := by
          intro j oj t V hoj hlj hdj hFt e
          have hji : j ≠ i := by
            intro e2
            subst e2
            obtain rfl : oj = oi := Option.some.inj (hoj.symm.trans hoi)
            exact e hdj
          rwa [getD_set_ne false (Ne.symm hji)] at hlj
        intro j oj t V hoj hlj hdj hFt
        constructor
        · by_cases e : oi.dst = some t
          · exact ⟨x, at_new t V e hFt, (hVx t V e hFt).1⟩
          · obtain ⟨u, hu, hVu⟩ := (hV j oj t V hoj (was j oj t V hoj hlj hdj hFt e) hdj hFt).1
            exact ⟨u, by rw [at_old t e]; exact hu, hF t V hFt u w w' hVu hx⟩
        · intro j' oj' t' V' hoj' hlj' hdj' hFt' hne
          by_cases e : oi.dst = some t
          · have e' : oi.dst ≠ some t' := by rw [e]; intro h; exact hne (Option.some.inj h)
            obtain ⟨u, hu, hVu⟩ := (hV j' oj' t' V' hoj' (was j' oj' t' V' hoj' hlj' hdj' hFt' e') hdj' hFt').1
            rw [at_new t V e hFt, at_old t' e', hu]
            intro h
            exact (hVx t V e hFt).2 t' V' u hFt' hVu (Option.some.inj h).symm
          · by_cases e' : oi.dst = some t'
            · obtain ⟨u, hu, hVu⟩ := (hV j oj t V hoj (was j oj t V hoj hlj hdj hFt e) hdj hFt).1
              rw [at_new t' V' e' hFt', at_old t e, hu]
              intro h
              exact (hVx t' V' e' hFt').2 t V u hFt hVu (Option.some.inj h)
            · rw [at_old t e, at_old t' e']
              exact (hV j oj t V hoj (was j oj t V hoj hlj hdj hFt e) hdj hFt).2 j' oj' t' V' hoj' (was j' oj' t' V' hoj' hlj' hdj' hFt' e') hdj' hFt' hne
    unfold wpOp
    simp only [hoi]
    by_cases hwt : Region.wanted oi (yielded ops b.tmps) = true
    · rw [if_pos hwt]
      refine .inl ?_
      have hm := hyes hwt
      unfold Oper.wp
      generalize (execOp b.eval oi).run P w = r at hm
      cases hbind : oi.dst.bind F with
      | none =>
        simp only [makesTo, hbind] at hm
        have hVx : ∀ (x : Value) (w' : World) t V, oi.dst = some t → F t = some V → V x w' ∧ newTo F w x := by
          intro x w' t V h1 h2
          simp [h1, h2] at hbind
        cases r with
        | halt x w' => exact hm.elim
        | ok nx w' =>
          cases nx <;> simp only [quietTo] at hm
          case value u =>
            obtain ⟨rfl, rfl⟩ := hm
            exact next _ _ (Ext.refl _) (hVx _ _) (fun _ => rfl)
          case skip =>
            obtain ⟨rfl, rfl⟩ := hm
            exact next _ _ (Ext.refl _) (hVx _ _) (fun _ => rfl)
          case enter fn args =>
            obtain ⟨rfl, hcall⟩ := hm
            refine hcall.mono ?_
            rintro e w'' ⟨rfl, hx⟩
            exact next _ _ hx (hVx _ _) (fun _ => rfl)
      | some V =>
        simp only [makesTo, hbind] at hm
        obtain ⟨_, hm⟩ := hm
        have hnone : oi.dst.bind F = none → ∀ x : Value, x = v := fun h => by rw [hbind] at h; cases h
        have hVx : ∀ (x : Value) (w' : World), V x w' ∧ newTo F w x → ∀ t V', oi.dst = some t → F t = some V' → V' x w' ∧ newTo F w x := by
          intro x w' hx t V' h1 h2
          simp only [h1, Option.bind_some, h2, Option.some.injEq] at hbind
          rw [hbind]; exact hx
        cases r with
        | halt x w' => exact hm.elim
        | ok nx w' =>
          cases nx <;> simp only [freshTo] at hm
          case value u => exact next _ _ hm.1 (hVx _ _ hm.2) (fun h => hnone h _)
          case enter fn args =>
            obtain ⟨rfl, hcall⟩ := hm
            refine hcall.mono ?_
            rintro e w'' ⟨u, rfl, hx, hVu⟩
            exact next _ _ hx (hVx _ _ hVu) (fun h => hnone h _)
    · rw [if_neg hwt]
      have h3 := hno (by simpa using hwt)
      refine next _ _ (Ext.refl _) ?_ (fun _ => h3.1.symm)
      intro t V h1 h2
      have h4 := h3.2
      simp [h1, h2] at h4

/-- THE LAW. -/
theorem wp_made_tail {id : Nat} {Q : Exit → Act → World → Prop} {a : Act} {w : World} {l : List Oper} (n : Nat) (keys : List Tmp) (F : Made) (hm : P.follows .mixedOrders = true)
    (hB : (Region.lexTailB .any l.toArray n && madeB .any l.toArray keys n && allMadeB l.toArray keys n) = true) (hkeys : ∀ t V, F t = some V → t ∈ keys) (hF : stays F) (hrange : ∀ t ∈ keys, t < a.tmps.size)
    (h : wpMade P l.toArray F w (fun a' => ∀ b w', Ext w w' → Same F b a' → (∀ t V, F t = some V → (∃ u, b.tmps[t]? = some u ∧ V u w') ∧ ∀ t' V', F t' = some V' → t ≠ t' → b.tmps[t]? ≠ b.tmps[t']?) → wpList P l.toArray Q (l.drop n) b w') (l.take n) a) :
    (Code.region id l.toArray true).wp P Q a w := by
  simp only [Bool.and_eq_true] at hB
  obtain ⟨⟨hB, hmade⟩, hallm⟩ := hB
  simp only [Region.lexTailB, Bool.and_eq_true, decide_eq_true_eq] at hB
  obtain ⟨⟨⟨⟨hsel, hn⟩, hs⟩, hc⟩, hlex⟩ := hB
  have hn' : n < l.length := by simpa using hn
  have htl : (l.take n).length = n := by simp; omega
  have hdl : (l.drop n).length = l.toArray.size - n := by simp
  have inv0 : HeadInv .any l.toArray n (Array.replicate l.toArray.size false) :=
    ⟨by simp, fun j oj _ hl => (by rw [getD_replicate_false] at hl; cases hl), fun t _ ht => getD_in (by simpa using ht) (getD_replicate_false _ _)⟩
  have H := headF_lex (md := .any) (g := l.toArray.size - n) hsel hs hc hn (l.take n) 0 _ a (fun j hj => by
    have hj' : j < n := by rw [htl] at hj; exact hj
    simp [hj']) (by simpa using htl) inv0 (fun i hi => absurd hi (Nat.not_lt_zero _)) (by rw [htl]; exact hlex) h
  refine wp_region_any hm ?_
  have hfin := any_of_headF (Q' := Q) (g := l.toArray.size - n) (size := a.tmps.size) hF hkeys hmade (fun _ _ _ _ _ => trivial) (fun t V h => hrange t (hkeys t V h)) (fun d a' b w' _ hsim hL => by
    have mk : ∀ t V, F t = some V → ∃ i oi, l.toArray[i]? = some oi ∧ d.getD i false = true ∧ oi.dst = some t := by
      intro t V hFt
      have h5 := List.all_eq_true.1 hallm t (hkeys t V hFt)
      obtain ⟨i, hi, hi2⟩ := List.any_eq_true.1 h5
      simp only [beq_iff_eq] at hi2
      cases hoi : l.toArray[i]? with
      | none => simp [hoi] at hi2
      | some oi => exact ⟨i, oi, hoi, hL.1.2 i (List.mem_range.1 hi), by simpa [hoi] using hi2⟩
    have h2 := hL.2 b w' hsim.1 hsim.2.1 (fun t V hFt => by
      obtain ⟨i, oi, hoi, hdn, hdst⟩ := mk t V hFt
      have h6 := hsim.2.2 i oi t V hoi hdn hdst hFt
      refine ⟨h6.1, fun t' V' hFt' hne => ?_⟩
      obtain ⟨i', oi', hoi', hdn', hdst'⟩ := mk t' V' hFt'
      exact h6.2 i' oi' t' V' hoi' hdn' hdst' hFt' hne)
    have h4 := wpAny_of_seq (md := .any) (Q' := Q) (l.drop n) n d b w' (fun j => by simp [List.getElem?_drop]) (by rw [hdl]; exact hL.1.1) h2
    rwa [hdl] at h4) _ _ a a w.drew rfl inv0 ⟨Ext.drew w, ⟨rfl, rfl, fun _ _ => rfl⟩, fun i o t V _ hd => by rw [getD_replicate_false] at hd; cases hd⟩ H
  rw [htl, show n + (l.toArray.size - n) = l.toArray.size by omega] at hfin
  exact hfin

/- FOR THE WALK -/
theorem Same.fix {a b : Act} {t : Tmp} {u : Value} (h : Same F b a) (hu : b.tmps[t]? = some u) : Same (fun s => if s = t then none else F s) b (a.put (some t) u) := by
  have ht : t < b.tmps.size := by
    rcases Nat.lt_or_ge t b.tmps.size with h | h
    · exact h
    · rw [Array.getElem?_eq_none h] at hu; cases hu
  refine ⟨by rw [defers_put]; exact h.1, by rw [size_put]; exact h.2.1, fun s hs => ?_⟩
  by_cases e : s = t
  · subst e
    rw [tmps_put_at, if_pos (by rw [← h.2.1]; exact ht), hu]
  · rw [tmps_put _ _ _ _ e]
    exact h.2.2 s (by simpa [e] using hs)
theorem Same.eq {a b : Act} (h : Same F b a) (hF : ∀ s, F s = none) : b = a := by
  obtain ⟨bt, bd⟩ := b
  obtain ⟨at', ad⟩ := a
  obtain ⟨h1, _, h3⟩ := h
  have h4 : bt = at' := Array.ext_getElem? fun i => h3 i (hF i)
  cases h1; cases h4; rfl
theorem Same.eval {a b : Act} (h : Same F b a) {x : Operand} (hx : ∀ t, x = .tmp t → F t = none) : b.eval x = a.eval x := by
  cases x with
  | tmp t =>
    have h1 := h.2.2 t (hx t rfl)
    show b.tmps.getD t undef = a.tmps.getD t undef
    rw [Array.getD_eq_getD_getElem?, Array.getD_eq_getD_getElem?, h1]
  | _ => rfl
theorem does_of {o : Oper} {v : Value} {a : Act} (hs : ∀ cs b, o.op ≠ .select cs b) (hg : o.guard = none) (hl : ∀ x ∈ o.op.operands, ∀ t, x = .tmp t → F t = none)
    (h : ∀ w, Ext w0 w → makesTo P F (o.dst.bind F) v w ((execOp a.eval o).run P w)) : Does P ops F w0 o v a := by
  intro b w hw hb _
  have e : execOp b.eval o = execOp a.eval o := execOp_congr o hs fun x hx => hb.eval (hl x hx)
  have hwt : Region.wanted o (yielded ops b.tmps) = true := by unfold Region.wanted; rw [hg]
  rw [e]
  exact ⟨fun _ => h w hw, fun h2 => by rw [hwt] at h2; cases h2⟩
end
end Go.Proofs.Ytfppddnfdinipaa
end
section
namespace Go.Proofs.Ytfppddnfdinipaa
open Go.RowKit

theorem hide {p : Prop} (h : p) : Hid p := h
theorem unhide {p : Prop} (h : Hid p) : p := h
theorem ret_int {k : IntKind} {a b : Int} (h : a = b) : Ending.returned (.int k a) = .returned (.int k b) := by rw [h]
theorem ret_bool {a b : Bool} (h : a = b) : Ending.returned (.bool a) = .returned (.bool b) := by rw [h]

/-- block g is just the cells cs of element type t, none frozen -/
def Blk (w : World) (g : Nat) (t : TypeId) (cs : Array Value) : Prop := w.heap[g]? = some (.cells cs t (0, 0))

section
variable {w w' : World} {g : Nat} {t : TypeId} {cs : Array Value}
theorem Blk.lt (h : Blk w g t cs) : g < w.heap.size := by
  rcases Nat.lt_or_ge g w.heap.size with hlt | hge
  · exact hlt
  · unfold Blk at h; rw [Array.getElem?_eq_none hge] at h; cases h
theorem Blk.cell (h : Blk w g t cs) (i : Nat) : w.cell? ⟨g, i, none⟩ = cs[i]? := cell_of_row w g i cs t (0, 0) h
theorem Blk.frozen (h : Blk w g t cs) (i : Nat) : w.frozen? ⟨g, i, none⟩ = false := by
  unfold Blk at h
  simp [World.frozen?, h]
theorem Blk.new (w : World) (t : TypeId) (cs : Array Value) : Blk (w.alloc (.cells cs t)) w.heap.size t cs := heap_alloc_new w _
theorem Blk.drew (h : Blk w g t cs) : Blk w.drew g t cs := h
theorem Blk.drewN (h : Blk w g t cs) (n : Nat) : Blk (w.drewN n) g t cs := h
theorem Blk.alloc (h : Blk w g t cs) (o : Obj) : Blk (w.alloc o) g t cs := (Below.heap_alloc w o g h.lt).trans h
theorem Blk.set_ (h : Blk w g t cs) (i : Nat) (u : Value) : Blk (w.setCell ⟨g, i, none⟩ u) g t (cs.setIfInBounds i u) := by
  unfold Blk at h ⊢
  simp [World.setCell, Array.getElem?_modify, h]
theorem Blk.far (h : Blk w g t cs) {p : Addr} (hp : g ≠ p.block) (u : Value) : Blk (w.setCell p u) g t cs := (Below.heap_setCell w p u g hp).trans h
theorem Blk.below {B : Nat} (h : Blk w g t cs) (hb : Below B w w') (hg : g < B) : Blk w' g t cs := (hb.block g hg).trans h
theorem Blk.grown {row : Option Nat} (h : Blk w g t cs) (hb : w.grownBy w' row) (hg : some g ≠ row) : Blk w' g t cs := (hb.block g h.lt hg).trans h
theorem Blk.setRow_ (h : Blk w g t cs) (cs' : Array Value) : Blk (w.setRow g cs') g t cs' := setRow_heap w g cs _ t _ h
theorem Blk.ne_ {g' : Nat} {t' : TypeId} {cs' : Array Value} (h : Blk w g t cs) (h' : Blk w g' t' cs') (hne : t ≠ t') : g ≠ g' := by
  rintro rfl
  unfold Blk at h h'
  rw [h] at h'
  injection h' with h'
  injection h' with _ ht
  exact hne ht
end

/-- all old cells and marks read as before -/
theorem bcell {W w1 : World} (hb : Below W.heap.size W w1) : (∀ b o, b < W.heap.size → w1.cell? ⟨b, o, none⟩ = W.cell? ⟨b, o, none⟩) ∧ (∀ b o, b < W.heap.size → w1.frozen? ⟨b, o, none⟩ = W.frozen? ⟨b, o, none⟩) :=
  ⟨fun b o h => hb.cell (p := ⟨b, o, none⟩) h, fun b o h => hb.frozen (p := ⟨b, o, none⟩) h⟩
theorem below_drewN {B : Nat} {a w : World} (h : Below B a w) (n : Nat) : Below B a (w.drewN n) := ⟨h.os, h.tape, h.output, h.size, h.block⟩
theorem below_of_grown {a w : World} {row : Option Nat} {B : Nat} (h : a.grownBy w row) (hB : B ≤ a.heap.size) (hr : ∀ k, row = some k → B ≤ k) : Below B a w :=
  (Below.refl B a).grown h hB hr
theorem below_lt {B : Nat} {a w : World} (h : Below B a w) : a.heap.size ≤ w.heap.size := h.size

section
variable {P : Program} {ops : Array Oper} {rest : List Oper} {o : Oper} {a : Act} {w : World} {Q : Exit → Act → World → Prop}
/-- An operation whose run is known as a closed fact. -/
theorem wpList_value (hg : o.guard = none) (v : Value) (w' : World) (hrun : (execOp a.eval o).run P w = .ok (.value v) w') (h : wpList P ops Q rest (a.put o.dst v) w') : wpList P ops Q (o :: rest) a w :=
  wpList_plain hg fun K hK => by
    unfold Oper.wp
    rw [hrun]
    exact hK _ _ h
/-- A whole array, or a struct, stored into a block that it fills. -/
theorem wpList_store_blk (hg : o.guard = none) (ty : TypeId) (x y : Operand) (ho : o.op = .store ty x y)
    (g : Nat) (cs cells : Array Value) (t : TypeId) (hb : Blk w g t cs)
    (hi : (P.info? ty).map (·.size) = some cells.size) (hs : cs.size = cells.size) (h1 : cells.all (·.oneCell') = true)
    (hx : a.eval x = .pointer (some ⟨g, 0, none⟩)) (hy : a.eval y = .agg cells)
    (h : wpList P ops Q rest (a.put o.dst undef) (w.setRow g cells)) : wpList P ops Q (o :: rest) a w :=
  wpList_plain hg fun K hK => by
    have hrun := run_storeVar_row (P := P) w g t ty cs cells hb hi hs h1
    unfold Oper.wp execOp
    simp only [ho, hx, hy, Instr.storeAt, Instr.sureAddr, Sem.run_bind, Sem.run_pure, Result.andThen_ok, hrun]
    exact hK _ _ h
end

section
variable {P : Program} {ops : Array Oper} {rest : List Oper} {o : Oper} {a : Act} {w : World} {Q : Exit → Act → World → Prop}
/-- A whole array loaded out of a block that it fills. -/
theorem wpList_load_blk (hgd : o.guard = none) (ty : TypeId) (x : Operand) (ho : o.op = .load ty x)
    (g : Nat) (t : TypeId) (cs : Array Value) (n : Nat) (e : TypeId) (hg : Blk w g t cs)
    (hu : P.underlying ty = some (.array n e)) (hi : (P.info? ty).map (·.size) = some cs.size) (hx : a.eval x = .pointer (some ⟨g, 0, none⟩))
    (h : wpList P ops Q rest (a.put o.dst (.agg cs)) w) : wpList P ops Q (o :: rest) a w :=
  wpList_load_row hgd ty x ho g hx t cs (0, 0) _ hg hu rfl hi h
theorem results_cell_blk {fn : Func} {p : Tmp} {ty : TypeId} (h : fn.results = #[.cell p ty]) (tmps : Array Value) (w : World) (g : Nat) (t : TypeId) (cs : Array Value) (n : Nat) (e : TypeId)
    (hp : tmps.getD p undef = .pointer (some ⟨g, 0, none⟩)) (hg : Blk w g t cs)
    (hu : P.underlying ty = some (.array n e)) (hi : (P.info? ty).map (·.size) = some cs.size) :
    (results fn tmps).run P w = .ok (.agg cs) w := results_cell_row h tmps w g t cs (0, 0) _ hp hg hu rfl hi
end

theorem cell_alloc (w : World) (cs : Array Value) (t : TypeId) (b i : Nat) : (w.alloc (.cells cs t)).cell? ⟨b, i, none⟩ = if b = w.heap.size then cs[i]? else w.cell? ⟨b, i, none⟩ := by
  split
  · rename_i h
    subst h
    exact (Blk.new w t cs).cell i
  · rename_i h
    unfold World.cell? World.alloc
    simp only [Array.getElem?_push, if_neg h]
theorem size_drewN (w : World) (k : Nat) : (w.drewN k).heap.size = w.heap.size := rfl

/-- The same, the world behind it a variable. -/
theorem wpList_store_blkA {P : Program} {ops : Array Oper} {rest : List Oper} {o : Oper} {a : Act} {w : World} {Q : Exit → Act → World → Prop} (hg : o.guard = none) (ty : TypeId) (x y : Operand) (ho : o.op = .store ty x y)
    (g : Nat) (cs cells : Array Value) (t : TypeId) (hb : Blk w g t cs)
    (hi : (P.info? ty).map (·.size) = some cells.size) (hs : cs.size = cells.size) (h1 : cells.all (·.oneCell') = true)
    (hx : a.eval x = .pointer (some ⟨g, 0, none⟩)) (hy : a.eval y = .agg cells)
    (h : ∀ w', Blk w' g t cells → w.grownBy w' (some g) → wpList P ops Q rest (a.put o.dst undef) w') : wpList P ops Q (o :: rest) a w :=
  wpList_store_blk hg ty x y ho g cs cells t hb hi hs h1 hx hy
    (h _ (hb.setRow_ cells) ⟨rfl, rfl, rfl, by simp [World.setRow], fun k _ hne => setRow_other w g k cells (fun e => hne (by rw [e]))⟩)
theorem size_alloc (w : World) (o : Obj) : (w.alloc o).heap.size = w.heap.size + 1 := by
  show (w.heap.push o).size = _
  simp
theorem Blk.new1 (w : World) (o : Obj) (t : TypeId) (cs : Array Value) : Blk ((w.alloc o).alloc (.cells cs t)) (w.heap.size + 1) t cs := by
  have h := Blk.new (w.alloc o) t cs
  rwa [size_alloc] at h

/-- copy into a block that is known whole; the world behind it is a variable. -/
theorem wpList_copyA {P : Program} {ops : Array Oper} {rest : List Oper} {o : Oper} {a : Act} {w : World} {Q : Exit → Act → World → Prop} (hgd : o.guard = none) (d s : Operand) (dT sT : TypeId)
    (ho : o.op = .call { callee := .builtin .copy, args := #[d, s], argTypes := #[dT, sT] }) (elem : TypeId) (hu : P.underlying dT = some (.slice elem)) (hsz : (P.info? elem).map (·.size) = some 1)
    (g off dLen dCap : Nat) (ad : Addr) (sLen sCap : Nat) (cur : Array Value) (t : TypeId) (hg : Blk w g t cur) (cs : List Value) (hn : cs.length = Nat.min sLen dLen)
    (hsrc : ∀ j v, cs[j]? = some v → w.cell? (ad.add j) = some v) (hfit : off + cs.length ≤ cur.size) (h1 : ∀ v ∈ cs, v.oneCell' = true)
    (hd : a.eval d = .slice (some ⟨g, off, none⟩) dLen dCap) (hs : a.eval s = .slice (some ad) sLen sCap)
    (h : ∀ w', Blk w' g t (cur.toList.take off ++ (cs ++ cur.toList.drop (off + cs.length))).toArray → w.grownBy w' (some g) → wpList P ops Q rest (a.put o.dst (goInt cs.length)) w') : wpList P ops Q (o :: rest) a w :=
  wpList_copy_own hgd d s dT sT ho elem hu hsz g off dLen dCap ad sLen sCap hd hs cur t hg cs hn hsrc hfit h1
    (h _ (hg.setRow_ _) ⟨rfl, rfl, rfl, by simp [World.setRow], fun k _ hne => setRow_other w g k _ (fun e => hne (by rw [e]))⟩)
theorem below_setRow' {B g : Nat} {w0 w : World} (hb : Below B w0 w) (hBg : B ≤ g) (cs : Array Value) : Below B w0 (w.setRow g cs) := below_setRow hb hBg cs
end Go.Proofs.Ytfppddnfdinipaa
end
section
namespace Go.Proofs.Ytfppddnfdinipaa
open Go.RowKit

section
variable {P : Program} (t e n : Nat) (ht : P.underlying t = some (.array n e)) (hs : (P.info? e).map (·.size) = some 1)
include ht hs
theorem run_sliceAt_l (b o q : Nat) (hq : q < n) (w : World) :
    (Instr.sliceAt t (.pointer (some ⟨b, o, none⟩)) (some (.int .i64 (q : Int))) none none).run P w = .ok (.slice (some ⟨b, o + q, none⟩) (n - q) (n - q)) w := by
  have e1 : P.arrayLen t = n := by simp [Program.arrayLen, ht]
  have e2 : P.elem t = e := by simp [Program.elem, ht]
  have h := run_sliceAt_array_l (P := P) w t ⟨b, o, none⟩ (by rw [e1, e2]; exact ht) .i64 (q : Int) (by omega) (by rw [e1]; omega)
  rw [h, e1, e2]
  cases hi : P.info? e with
  | none => simp [hi] at hs
  | some i =>
    have h1 : i.size = 1 := by simpa [hi] using hs
    have h2 : ¬ n = q := by omega
    simp [sizeOf, typeInfo, hi, h1, slicedAt, h2, Addr.add_mid]
end

section
variable {P : Program} (t e : Nat) (ht : P.underlying t = some (.slice e)) (hs : (P.info? e).map (·.size) = some 1)
include ht hs
theorem run_slice_from (A : Option Addr) (len cap n : Nat) (hn : n ≤ len) (w : World) :
    (Instr.slice t (.slice A len cap) (some (.int .i64 (n : Int))) none none).run P w = .ok (.slice (if cap = n then A else A.map (·.add n)) (len - n) (cap - n)) w := by
  have e2 : P.elem t = e := by simp [Program.elem, ht]
  have h := run_slice_l (P := P) w t A len cap (by rw [e2]; exact ht) .i64 (n : Int) (by omega) (by omega)
  rw [h, e2]
  cases hi : P.info? e with
  | none => simp [hi] at hs
  | some i =>
    have h1 : i.size = 1 := by simpa [hi] using hs
    simp [sizeOf, typeInfo, hi, h1, sliced]
theorem run_sliceAt_from (A : Option Addr) (len cap n : Nat) (hn : n ≤ len) (w : World) :
    (Instr.sliceAt t (.slice A len cap) (some (.int .i64 (n : Int))) none none).run P w = .ok (.slice (if cap = n then A else A.map (·.add n)) (len - n) (cap - n)) w := by
  have e2 : P.elem t = e := by simp [Program.elem, ht]
  rw [run_sliceAt_slice w t _ _ _ _ (by rw [e2]; exact ht)]
  exact run_slice_from t e ht hs A len cap n hn w
end
end Go.Proofs.Ytfppddnfdinipaa
end
section
namespace Go.Proofs.Ytfppddnfdinipaa
open Go.RowKit
theorem run_index_int {P : Program} (t e n : Nat) (k : IntKind) (ht : P.underlying t = some (.array n e)) (he : P.underlying e = some (.int k)) (hs : (P.info? e).map (·.size) = some 1)
    (cs : Array Value) (i : Nat) (hi : i < n) (v : Value) (hv : cs[i]? = some v) (w : World) : (Instr.index t (.agg cs) (.int .i64 (i : Int))).run P w = .ok v w := by
  cases hq : P.info? e with
  | none => simp [hq] at hs
  | some j =>
    have h1 : j.size = 1 := by simpa [hq] using hs
    simp [Instr.index, asIntOf, run_underlying ht, hi, part, isAgg, run_underlying he, sizeOf, typeInfo, hq, h1, hv]
end Go.Proofs.Ytfppddnfdinipaa
end
section
namespace Go.Proofs.Ytfppddnfdinipaa
open Go Go.RowKit
/-- the block that a value begins in -/
def blkOf : Value → Option Nat
  | .pointer (some a) => some a.block
  | .slice (some a) _ _ => some a.block
  | _ => none
/-- slot by slot, what a made thing is -/
abbrev MadeL := List (Tmp × (Value → World → Prop))
def madeBy (L : MadeL) : Made := fun t => (L.find? (fun p => p.1 == t)).map (·.2)
/-- what is made stays so, and lies somewhere -/
structure MadeOk (V : Value → World → Prop) : Prop where
  stays : ∀ u w w', V u w → Ext w w' → V u w'
  there : ∀ u w, V u w → ∃ r, blkOf u = some r ∧ r < w.heap.size
theorem madeBy_mem {L : MadeL} {t : Tmp} {V : Value → World → Prop} (h : madeBy L t = some V) : (t, V) ∈ L := by
  unfold madeBy at h
  cases hf : L.find? (fun p => p.1 == t) with
  | none => rw [hf] at h; cases h
  | some p =>
    rw [hf] at h
    obtain rfl := Option.some.inj h
    have h1 := List.mem_of_find?_eq_some hf
    have h2 := List.find?_some hf
    simp only [beq_iff_eq] at h2
    obtain ⟨a, b⟩ := p
    subst h2
    exact h1
theorem madeBy_cons (t : Tmp) (V : Value → World → Prop) (L : MadeL) (s : Tmp) : madeBy ((t, V) :: L) s = if t = s then some V else madeBy L s := by
  unfold madeBy
  by_cases h : t = s
  · simp [h]
  · simp [h]
theorem madeBy_look : ∀ {L : MadeL} {t : Tmp} {V : Value → World → Prop}, (L.map (·.1)).Nodup → (t, V) ∈ L → madeBy L t = some V
  | [], _, _, _, hm => by cases hm
  | (t', V') :: L, t, V, hn, hm => by
    simp only [List.map_cons, List.nodup_cons] at hn
    rw [madeBy_cons]
    rcases List.mem_cons.1 hm with hm | hm
    · injection hm with e1 e2
      subst e1 e2
      rw [if_pos rfl]
    · rw [if_neg (fun e => hn.1 (List.mem_map.2 ⟨_, hm, e.symm⟩))]
      exact madeBy_look hn.2 hm
theorem madeBy_none {L : MadeL} {t : Tmp} (h : (L.map (·.1)).contains t = false) : madeBy L t = none := by
  cases hm : madeBy L t with
  | none => rfl
  | some V =>
    have h1 := madeBy_mem hm
    have h2 : (L.map (·.1)).contains t = true := by
      rw [List.contains_iff_mem]
      exact List.mem_map.2 ⟨_, h1, rfl⟩
    rw [h2] at h; cases h
section
variable {P : Program} {ops : Array Oper} {L : MadeL} {w0 : World} {rest : List Oper} {o : Oper} {a : Act} {Q : Act → Prop}
theorem stays_by (hL : ∀ p ∈ L, MadeOk p.2) : stays (madeBy L) := fun _ _ hV u w w' hu hw => (hL _ (madeBy_mem hV)).stays u w w' hu hw
theorem newTo_by (hL : ∀ p ∈ L, MadeOk p.2) {w : World} {u : Value} {r : Nat} (hu : blkOf u = some r) (hr : w.heap.size ≤ r) : newTo (madeBy L) w u := by
  intro t V u' hV hu' e
  obtain ⟨r', h1, h2⟩ := (hL _ (madeBy_mem hV)).there u' w hu'
  rw [e, hu] at h1
  have := Option.some.inj h1
  omega
/-- an operation that looks at no made slot but t, and is no select -/
def looksB (keys : List Tmp) (ops : Array Oper) (o : Oper) : Bool := (match o.op with | .select _ _ => false | _ => true) && (o.looksAt ops).all fun s => !keys.contains s
theorem looksB_sel {keys : List Tmp} (h : looksB keys ops o = true) : ∀ cs b, o.op ≠ .select cs b := by
  intro cs b e
  unfold looksB at h
  rw [e] at h
  cases h
theorem looksB_opd {keys : List Tmp} (h : looksB keys ops o = true) {x : Operand} (hx : x ∈ o.op.operands) {t : Tmp} (e : x = .tmp t) : keys.contains t = false := by
  simp only [looksB, Bool.and_eq_true] at h
  have h2 := List.all_eq_true.1 h.2 t (by
    unfold Oper.looksAt
    exact List.mem_append_left _ (List.mem_filterMap.2 ⟨x, by simpa using hx, by rw [e]⟩))
  simpa using h2
theorem looksB_guard {keys : List Tmp} (h : looksB keys ops o = true) {g : Nat} {y : Bool} (hg : o.guard = some (g, y)) {t : Tmp} (ht : (ops[g]?).bind (·.dst) = some t) : keys.contains t = false := by
  simp only [looksB, Bool.and_eq_true] at h
  have h2 := List.all_eq_true.1 h.2 t (by
    unfold Oper.looksAt
    refine List.mem_append_right _ ?_
    rw [hg]
    simp [ht])
  simpa using h2
theorem wanted_same {F : Made} {b : Act} (hb : Same F b a) (hg : ∀ g x, o.guard = some (g, x) → ∀ t, (ops[g]?).bind (·.dst) = some t → F t = none) : Region.wanted o (yielded ops b.tmps) = Region.wanted o (yielded ops a.tmps) := by
  unfold Region.wanted
  cases hgd : o.guard with
  | none => rfl
  | some p =>
    obtain ⟨g, x⟩ := p
    simp only
    unfold yielded
    cases ht : (ops[g]?).bind (·.dst) with
    | none => rfl
    | some t => simp only [Option.bind_some, hb.2.2 t (hg g x hgd t ht)]
theorem looksB_wanted {b : Act} (hB : looksB (L.map (·.1)) ops o = true) (hb : Same (madeBy L) b a) : Region.wanted o (yielded ops b.tmps) = Region.wanted o (yielded ops a.tmps) :=
  wanted_same hb fun _ _ hg _ ht => madeBy_none (looksB_guard hB hg ht)
theorem looksB_exec {b : Act} (hB : looksB (L.map (·.1)) ops o = true) (hb : Same (madeBy L) b a) : execOp b.eval o = execOp a.eval o :=
  execOp_congr o (looksB_sel hB) fun _ hx => hb.eval fun _ e => madeBy_none (looksB_opd hB hx e)

/-- an operation that hands on a value -/
theorem made_val (v : Value) (hB : looksB (L.map (·.1)) ops o = true) (hw : Region.wanted o (yielded ops a.tmps) = true) (hd : o.dst.bind (madeBy L) = none)
    (hrun : ∀ w, Ext w0 w → (execOp a.eval o).run P w = .ok (.value v) w) (h : wpMade P ops (madeBy L) w0 Q rest (a.put o.dst v)) : wpMade P ops (madeBy L) w0 Q (o :: rest) a := by
  refine ⟨v, fun b w hx hb _ => ⟨fun _ => ?_, fun h2 => ?_⟩, h⟩
  · rw [hd, looksB_exec hB hb, hrun w hx]
    exact ⟨rfl, rfl⟩
  · rw [looksB_wanted hB hb, hw] at h2; cases h2
/-- an operation that is not wanted -/
theorem made_skip (hB : looksB (L.map (·.1)) ops o = true) (hw : Region.wanted o (yielded ops a.tmps) = false) (hd : o.dst.bind (madeBy L) = none)
    (h : wpMade P ops (madeBy L) w0 Q rest (a.put o.dst undef)) : wpMade P ops (madeBy L) w0 Q (o :: rest) a := by
  refine ⟨undef, fun b w hx hb _ => ⟨fun h2 => ?_, fun _ => ⟨rfl, hd⟩⟩, h⟩
  rw [looksB_wanted hB hb, hw] at h2; cases h2
/-- a call that makes at most memory, and hands on a value -/
theorem made_call (v : Value) (f : Nat) (args : Array Value) (hB : looksB (L.map (·.1)) ops o = true) (hw : Region.wanted o (yielded ops a.tmps) = true) (hd : o.dst.bind (madeBy L) = none)
    (hrun : ∀ w, (execOp a.eval o).run P w = .ok (.enter f args) w) (hc : ∀ w, Ext w0 w → Calls P f args w fun e w' => e = .returned v ∧ Ext w w')
    (h : wpMade P ops (madeBy L) w0 Q rest (a.put o.dst v)) : wpMade P ops (madeBy L) w0 Q (o :: rest) a := by
  refine ⟨v, fun b w hx hb _ => ⟨fun _ => ?_, fun h2 => ?_⟩, h⟩
  · rw [hd, looksB_exec hB hb, hrun w]
    exact ⟨rfl, hc w hx⟩
  · rw [looksB_wanted hB hb, hw] at h2; cases h2
/-- an operation that makes something -/
theorem made_new (t : Tmp) (V : Value → World → Prop) (hL : ∀ p ∈ L, MadeOk p.2) (hB : looksB (L.map (·.1)) ops o = true) (hw : Region.wanted o (yielded ops a.tmps) = true) (hd : o.dst = some t) (hV : madeBy L t = some V)
    (hrun : ∀ w, Ext w0 w → ∃ u w' r, (execOp a.eval o).run P w = .ok (.value u) w' ∧ Ext w w' ∧ V u w' ∧ blkOf u = some r ∧ w.heap.size ≤ r)
    (h : wpMade P ops (madeBy L) w0 Q rest (a.put o.dst undef)) : wpMade P ops (madeBy L) w0 Q (o :: rest) a := by
  refine ⟨undef, fun b w hx hb _ => ⟨fun _ => ?_, fun h2 => ?_⟩, h⟩
  · obtain ⟨u, w', r, h1, h2, h3, h4, h5⟩ := hrun w hx
    rw [hd, Option.bind_some, hV, looksB_exec hB hb, h1]
    exact ⟨rfl, h2, h3, newTo_by hL h4 h5⟩
  · rw [looksB_wanted hB hb, hw] at h2; cases h2
/-- a call that makes something -/
theorem made_newcall (t : Tmp) (V : Value → World → Prop) (f : Nat) (args : Array Value) (hL : ∀ p ∈ L, MadeOk p.2) (hB : looksB (L.map (·.1)) ops o = true) (hw : Region.wanted o (yielded ops a.tmps) = true) (hd : o.dst = some t) (hV : madeBy L t = some V)
    (hrun : ∀ w, (execOp a.eval o).run P w = .ok (.enter f args) w) (hc : ∀ w, Ext w0 w → Calls P f args w fun e w' => ∃ u r, e = .returned u ∧ Ext w w' ∧ V u w' ∧ blkOf u = some r ∧ w.heap.size ≤ r)
    (h : wpMade P ops (madeBy L) w0 Q rest (a.put o.dst undef)) : wpMade P ops (madeBy L) w0 Q (o :: rest) a := by
  refine ⟨undef, fun b w hx hb _ => ⟨fun _ => ?_, fun h2 => ?_⟩, h⟩
  · rw [hd, Option.bind_some, hV, looksB_exec hB hb, hrun w]
    refine ⟨rfl, rfl, (hc w hx).mono ?_⟩
    rintro e w' ⟨u, r, h1, h2, h3, h4, h5⟩
    exact ⟨u, h1, h2, h3, newTo_by hL h4 h5⟩
  · rw [looksB_wanted hB hb, hw] at h2; cases h2

/-- the same, of an operation that looks at one made slot -/
def looksB1 (s : Tmp) (keys : List Tmp) (ops : Array Oper) (o : Oper) : Bool := (match o.op with | .select _ _ => false | _ => true) && (o.op.operands.toList.all fun x => match x with | .tmp t => t == s || !keys.contains t | _ => true) &&
  (match o.guard with | some (g, _) => ((ops[g]?).bind (·.dst)).toList.all fun t => !keys.contains t | none => true) && (o.looksAt ops).contains s
theorem looksB1_wanted {s : Tmp} {b : Act} (hB : looksB1 s (L.map (·.1)) ops o = true) (hb : Same (madeBy L) b a) : Region.wanted o (yielded ops b.tmps) = Region.wanted o (yielded ops a.tmps) := by
  refine wanted_same hb fun g _ hg t ht => madeBy_none ?_
  simp only [looksB1, Bool.and_eq_true] at hB
  have h := hB.1.2
  rw [hg] at h
  simpa [ht] using h
theorem looksB1_exec {s : Tmp} {u : Value} {b : Act} (hB : looksB1 s (L.map (·.1)) ops o = true) (hb : Same (madeBy L) b a) (hu : b.tmps[s]? = some u) : execOp b.eval o = execOp (a.put (some s) u).eval o := by
  simp only [looksB1, Bool.and_eq_true] at hB
  refine execOp_congr o ?_ fun x hx => ?_
  · intro cs d e
    have h := hB.1.1.1
    rw [e] at h
    cases h
  · refine (hb.fix hu).eval fun t e => ?_
    have h := List.all_eq_true.1 hB.1.1.2 x (by simpa using hx)
    rw [e] at h
    simp only [Bool.or_eq_true, beq_iff_eq, Bool.not_eq_true'] at h
    rcases h with h | h
    · rw [if_pos h]
    · split
      · rfl
      · exact madeBy_none h
theorem looksB1_holds {s : Tmp} {V : Value → World → Prop} {b : Act} {w : World} (hB : looksB1 s (L.map (·.1)) ops o = true) (hV : madeBy L s = some V) (hh : Holds (madeBy L) (o.looksAt ops) b w) : ∃ u, b.tmps[s]? = some u ∧ V u w := by
  simp only [looksB1, Bool.and_eq_true] at hB
  exact hh s (by simpa using hB.2) V hV
theorem made_val1 (s : Tmp) (V : Value → World → Prop) (v : Value) (hB : looksB1 s (L.map (·.1)) ops o = true) (hV : madeBy L s = some V) (hw : Region.wanted o (yielded ops a.tmps) = true) (hd : o.dst.bind (madeBy L) = none)
    (hrun : ∀ u w, Ext w0 w → V u w → (execOp (a.put (some s) u).eval o).run P w = .ok (.value v) w) (h : wpMade P ops (madeBy L) w0 Q rest (a.put o.dst v)) : wpMade P ops (madeBy L) w0 Q (o :: rest) a := by
  refine ⟨v, fun b w hx hb hh => ⟨fun _ => ?_, fun h2 => ?_⟩, h⟩
  · obtain ⟨u, hu, hVu⟩ := looksB1_holds hB hV hh
    rw [hd, looksB1_exec hB hb hu, hrun u w hx hVu]
    exact ⟨rfl, rfl⟩
  · rw [looksB1_wanted hB hb, hw] at h2; cases h2
theorem made_call1 (s : Tmp) (V : Value → World → Prop) (v : Value) (f : Nat) (args : Value → Array Value) (hB : looksB1 s (L.map (·.1)) ops o = true) (hV : madeBy L s = some V) (hw : Region.wanted o (yielded ops a.tmps) = true) (hd : o.dst.bind (madeBy L) = none)
    (hrun : ∀ u w, (execOp (a.put (some s) u).eval o).run P w = .ok (.enter f (args u)) w) (hc : ∀ u w, Ext w0 w → V u w → Calls P f (args u) w fun e w' => e = .returned v ∧ Ext w w')
    (h : wpMade P ops (madeBy L) w0 Q rest (a.put o.dst v)) : wpMade P ops (madeBy L) w0 Q (o :: rest) a := by
  refine ⟨v, fun b w hx hb hh => ⟨fun _ => ?_, fun h2 => ?_⟩, h⟩
  · obtain ⟨u, hu, hVu⟩ := looksB1_holds hB hV hh
    rw [hd, looksB1_exec hB hb hu, hrun u w]
    exact ⟨rfl, hc u w hx hVu⟩
  · rw [looksB1_wanted hB hb, hw] at h2; cases h2
/-- what is made out of one made thing -/
theorem made_new1 (s : Tmp) (V : Value → World → Prop) (t : Tmp) (V' : Value → World → Prop) (hL : ∀ p ∈ L, MadeOk p.2) (hB : looksB1 s (L.map (·.1)) ops o = true) (hV : madeBy L s = some V) (hw : Region.wanted o (yielded ops a.tmps) = true) (hd : o.dst = some t) (hV' : madeBy L t = some V')
    (hrun : ∀ u w, Ext w0 w → V u w → ∃ u' w' r, (execOp (a.put (some s) u).eval o).run P w = .ok (.value u') w' ∧ Ext w w' ∧ V' u' w' ∧ blkOf u' = some r ∧ w.heap.size ≤ r)
    (h : wpMade P ops (madeBy L) w0 Q rest (a.put o.dst undef)) : wpMade P ops (madeBy L) w0 Q (o :: rest) a := by
  refine ⟨undef, fun b w hx hb hh => ⟨fun _ => ?_, fun h2 => ?_⟩, h⟩
  · obtain ⟨u, hu, hVu⟩ := looksB1_holds hB hV hh
    obtain ⟨u', w', r, h1, h2, h3, h4, h5⟩ := hrun u w hx hVu
    rw [hd, Option.bind_some, hV', looksB1_exec hB hb hu, h1]
    exact ⟨rfl, h2, h3, newTo_by hL h4 h5⟩
  · rw [looksB1_wanted hB hb, hw] at h2; cases h2

/-- the end: the made things, one by one, in their slots; each another one than those ahead -/
def ended : MadeL → List Value → World → Act → (Act → Prop) → Prop
  | [], _, _, a, K => K a
  | (t, V) :: L, us, w, a, K => ∀ u, V u w → (∀ x ∈ us, x ≠ u) → ended L (us ++ [u]) w (a.put (some t) u) K
theorem ended_elim (K : Act → Prop) (w : World) : ∀ (L : MadeL) (us : List Value) (a b : Act), Same (madeBy L) b a → (L.map (·.1)).Nodup → (∀ t V, (t, V) ∈ L → ∃ u, b.tmps[t]? = some u ∧ V u w) →
    (∀ t V, (t, V) ∈ L → ∀ x ∈ us, b.tmps[t]? ≠ some x) → (∀ t V t' V', (t, V) ∈ L → (t', V') ∈ L → t ≠ t' → b.tmps[t]? ≠ b.tmps[t']?) → ended L us w a K → K b
  | [], us, a, b, hs, _, _, _, _, h => by
    obtain rfl := hs.eq (fun _ => rfl)
    exact h
  | (t, V) :: L, us, a, b, hs, hn, hh, hx, hd, h => by
    obtain ⟨u, hu, hVu⟩ := hh t V (by simp)
    have h2 := h u hVu (fun x hxu e => hx t V (by simp) x hxu (by rw [hu, e]))
    simp only [List.map_cons, List.nodup_cons] at hn
    refine ended_elim K w L (us ++ [u]) _ b ?_ hn.2 (fun s V' hm => hh s V' (by simp [hm])) ?_ (fun s V' s' V'' hm hm' => hd s V' s' V'' (by simp [hm]) (by simp [hm'])) h2
    · have h3 := hs.fix hu
      refine ⟨h3.1, h3.2.1, fun s hs' => h3.2.2 s ?_⟩
      show (if s = t then none else madeBy ((t, V) :: L) s) = none
      split
      · rfl
      · rename_i hne
        rw [madeBy_cons, if_neg (Ne.symm hne)]
        exact hs'
    · intro s V' hm x hxu
      rcases List.mem_append.1 hxu with hxu | hxu
      · exact hx s V' (by simp [hm]) x hxu
      · rw [List.mem_singleton.1 hxu, ← hu]
        exact fun e => hd s V' t V (by simp [hm]) (by simp) (fun e2 => hn.1 (List.mem_map.2 ⟨_, hm, e2⟩)) e
/-- THE LAW -/
theorem wp_made {id : Nat} {Q : Exit → Act → World → Prop} {a : Act} {w : World} {l : List Oper} (n : Nat) (L : MadeL) (hm : P.follows .mixedOrders = true)
    (hB : (Region.lexTailB .any l.toArray n && madeB .any l.toArray (L.map (·.1)) n && allMadeB l.toArray (L.map (·.1)) n) = true) (hL : ∀ p ∈ L, MadeOk p.2) (hn : (L.map (·.1)).Nodup) (hrange : ∀ t ∈ L.map (·.1), t < a.tmps.size)
    (h : wpMade P l.toArray (madeBy L) w (fun a' => ∀ w', Ext w w' → ended L [] w' a' fun b => wpList P l.toArray Q (l.drop n) b w') (l.take n) a) :
    (Code.region id l.toArray true).wp P Q a w := by
  refine wp_made_tail n (L.map (·.1)) (madeBy L) hm hB (fun t V hV => List.mem_map.2 ⟨_, madeBy_mem hV, rfl⟩) (stays_by hL) hrange ?_
  have e : ∀ (rest : List Oper) (a : Act), wpMade P l.toArray (madeBy L) w (fun a' => ∀ w', Ext w w' → ended L [] w' a' fun b => wpList P l.toArray Q (l.drop n) b w') rest a →
      wpMade P l.toArray (madeBy L) w (fun a' => ∀ b w', Ext w w' → Same (madeBy L) b a' → (∀ t V, madeBy L t = some V → (∃ u, b.tmps[t]? = some u ∧ V u w') ∧ ∀ t' V', madeBy L t' = some V' → t ≠ t' → b.tmps[t]? ≠ b.tmps[t']?) → wpList P l.toArray Q (l.drop n) b w') rest a := by
    intro rest
    induction rest with
    | nil =>
      intro a h b w' hx hs hh
      exact ended_elim _ w' L [] a b hs hn (fun t V hm => (hh t V (madeBy_look hn hm)).1) (fun _ _ _ x hx => absurd hx (by simp)) (fun t V t' V' hm hm' hne => (hh t V (madeBy_look hn hm)).2 t' V' (madeBy_look hn hm') hne) (h w' hx)
    | cons o rest ih =>
      intro a h
      obtain ⟨v, h1, h2⟩ := h
      exact ⟨v, h1, ih _ h2⟩
  exact e _ _ h

/- SORTS OF MADE THINGS -/
def madePtr (B : Nat) (ty : TypeId) (cs : Array Value) (u : Value) (w : World) : Prop := ∃ r, u = .pointer (some ⟨r, 0, none⟩) ∧ B ≤ r ∧ Blk w r ty cs
def madeSlc (B : Nat) (ty : TypeId) (cs : Array Value) (u : Value) (w : World) : Prop := ∃ r, u = .slice (some ⟨r, 0, none⟩) cs.size cs.size ∧ B ≤ r ∧ Blk w r ty cs
theorem madePtr_ok (B : Nat) (ty : TypeId) (cs : Array Value) : MadeOk (madePtr B ty cs) :=
  ⟨fun u w w' h hx => by obtain ⟨r, e, hr, hb⟩ := h; exact ⟨r, e, hr, hb.below hx hb.lt⟩, fun u w h => by obtain ⟨r, rfl, _, hb⟩ := h; exact ⟨r, rfl, hb.lt⟩⟩
theorem madeSlc_ok (B : Nat) (ty : TypeId) (cs : Array Value) : MadeOk (madeSlc B ty cs) :=
  ⟨fun u w w' h hx => by obtain ⟨r, e, hr, hb⟩ := h; exact ⟨r, e, hr, hb.below hx hb.lt⟩, fun u w h => by obtain ⟨r, rfl, _, hb⟩ := h; exact ⟨r, rfl, hb.lt⟩⟩
theorem new_ptr {B : Nat} {ty : TypeId} {cs : Array Value} {w0 : World} {R : World → Result Next} (hB : B ≤ w0.heap.size) (hrun : ∀ w, R w = .ok (.value (.pointer (some ⟨w.heap.size, 0, none⟩))) (w.alloc (.cells cs ty))) :
    ∀ w, Ext w0 w → ∃ u w' r, R w = .ok (.value u) w' ∧ Ext w w' ∧ madePtr B ty cs u w' ∧ blkOf u = some r ∧ w.heap.size ≤ r :=
  fun w hx => ⟨_, _, w.heap.size, hrun w, Ext.alloc w _, ⟨_, rfl, Nat.le_trans hB hx.size, Blk.new _ _ _⟩, rfl, Nat.le_refl _⟩
theorem new_slc {B n : Nat} {ty : TypeId} {cs : Array Value} {w0 : World} {R : World → Result Next} (hB : B ≤ w0.heap.size) (hn : cs.size = n) (hrun : ∀ w, R w = .ok (.value (.slice (some ⟨w.heap.size, 0, none⟩) n n)) (w.alloc (.cells cs ty))) :
    ∀ w, Ext w0 w → ∃ u w' r, R w = .ok (.value u) w' ∧ Ext w w' ∧ madeSlc B ty cs u w' ∧ blkOf u = some r ∧ w.heap.size ≤ r :=
  fun w hx => ⟨_, _, w.heap.size, hrun w, Ext.alloc w _, ⟨_, by rw [hn], Nat.le_trans hB hx.size, Blk.new _ _ _⟩, rfl, Nat.le_refl _⟩
end
end Go.Proofs.Ytfppddnfdinipaa
end
section
namespace Go.Proofs.Ytfppddnfdinipaa
open Go.RowKit
/-- what is appended: m cells that lie at A -/
structure Src (w : World) (A : Option Addr) (m c : Nat) (news : List Value) : Prop where
  len : news.length = m
  none_ : A = none → m = 0 ∧ c = 0
  one : ∀ u ∈ news, u.oneCell' = true
  cells : ∀ ad, A = some ad → ∀ j u, news[j]? = some u → w.cell? (ad.add j) = some u
theorem cell_alloc_some {w : World} {p : Addr} {u : Value} (h : w.cell? p = some u) (o : Obj) : (w.alloc o).cell? p = some u :=
  (World.cell?_alloc_lt w o p (World.block_lt_of_cell? w _ h)).trans h
theorem Src.alloc {w : World} {A : Option Addr} {m c : Nat} {news : List Value} (h : Src w A m c news) (o : Obj) : Src (w.alloc o) A m c news :=
  ⟨h.len, h.none_, h.one, fun ad had j u hu => cell_alloc_some (h.cells ad had j u hu) o⟩
theorem src_one (w : World) (x : Value) (t : TypeId) (h : x.oneCell' = true) : Src (w.alloc (.cells #[x] t)) (some ⟨w.heap.size, 0, none⟩) 1 1 [x] :=
  ⟨rfl, (by intro h; cases h), (by intro u hu; rw [List.mem_singleton.1 hu]; exact h), (by intro ad had; injection had with had; subst had; exact cell_one_new w x t)⟩
/-- the same, the block behind a name -/
theorem src_at {w : World} {g : Nat} {t : TypeId} {x : Value} (hb : Blk w g t #[x]) (h : x.oneCell' = true) : Src w (some ⟨g, 0, none⟩) 1 1 [x] :=
  ⟨rfl, (by intro h; cases h), (by intro u hu; rw [List.mem_singleton.1 hu]; exact h), (by
    intro ad had j u hu
    injection had with had
    subst had
    match j, hu with
    | 0, hu =>
      have h := hb.cell 0
      simp only [Addr.add] at h ⊢
      rw [← hu]; exact h)⟩
section
variable {P : Program} {w : World} {ops : Array Oper} {rest : List Oper} {o : Oper} {a : Act} {Q : Exit → Act → World → Prop}
theorem run_app (base : Nat) (t ty e : TypeId) (i : TypeInfo) (z : Value) (bytes : Nat) (ht : P.underlying t = some (.slice e)) (hi : P.info? e = some i) (hz : i.zero = some z)
    (hsize : i.size = 1) (hby : i.bytes = bytes) (hzs : z.cells.size = 1) (v : Value) (n : Nat) (xs : List Value) (hown : w.ownsRow base e 1 v n xs)
    (A : Option Addr) (m c : Nat) (news : List Value) (hs : Src w A m c news) (h63 : n + m ≤ maxLen) (hbytes : (n + m) * bytes ≤ 140737488355328) (hbase : base ≤ w.heap.size) :
    ∃ v' w', (Builtin.append_ #[t, t] ty #[v, .slice A m c]).run P w = .ok v' w' ∧ w'.ownsRow base e 1 v' (n + m) (xs ++ news) ∧ w.grownBy w' v.ownBlock ∧
      (v'.ownBlock = v.ownBlock ∨ v'.ownBlock = some w.heap.size) ∧ (v' = .slice none 0 0 → v = .slice none 0 0) := by
  rcases A with _ | ad
  · obtain ⟨rfl, rfl⟩ := hs.none_ rfl
    have hn : news = [] := List.eq_nil_of_length_eq_zero hs.len
    subst hn
    exact ⟨v, w, run_append_owned_none (P := P) (w := w) base t ty e i 1 ht hi v n xs hown, by simpa using hown, World.grownBy.refl w _, .inl rfl, id⟩
  · obtain ⟨v', w', h1, h2, h3, h4, h5⟩ := run_append_own_at (P := P) w base t ty e i z 1 bytes ht hi hz hsize hby hzs (by omega) v n xs hown ad m c news (by rw [hs.len]; omega) (hs.cells ad rfl) hs.one h63 hbytes hbase
    exact ⟨v', w', h1, h2, h3, h5, fun h => (h4.1 h).1⟩
theorem wp_app {K : Act → World → Prop} (s x : Operand) (t : TypeId)
    (ho : o.op = .call { callee := .builtin .append, args := #[s, x], argTypes := #[t, t] })
    (base : Nat) (e : TypeId) (i : TypeInfo) (z : Value) (bytes : Nat) (ht : P.underlying t = some (.slice e)) (hi : P.info? e = some i) (hz : i.zero = some z)
    (hsize : i.size = 1) (hby : i.bytes = bytes) (hzs : z.cells.size = 1) (v : Value) (n : Nat) (xs : List Value) (hown : w.ownsRow base e 1 v n xs)
    (A : Option Addr) (m c : Nat) (news : List Value) (hsrc : Src w A m c news) (h63 : n + m ≤ maxLen) (hbytes : (n + m) * bytes ≤ 140737488355328) (hbase : base ≤ w.heap.size)
    (hs : a.eval s = v) (hx : a.eval x = .slice A m c)
    (h : ∀ v' w', w'.ownsRow base e 1 v' (n + m) (xs ++ news) → w.grownBy w' v.ownBlock → (v'.ownBlock = v.ownBlock ∨ v'.ownBlock = some w.heap.size) → (v' = .slice none 0 0 → v = .slice none 0 0) → K (a.put o.dst v') w') : o.wp P a w K Q := by
  obtain ⟨v', w', hr, h2, h3, h4, h5⟩ := run_app (P := P) (w := w) base t o.type e i z bytes ht hi hz hsize hby hzs v n xs hown A m c news hsrc h63 hbytes hbase
  unfold Oper.wp execOp
  simp only [ho, resolve, invoke, builtin, Sem.run_bind, Sem.run_pure, Result.andThen_ok, List.map_toArray, List.map_cons, List.map_nil, hs, hx, hr]
  exact h v' w' h2 h3 h4 h5
theorem wpList_app (hgd : o.guard = none) (s x : Operand) (t : TypeId)
    (ho : o.op = .call { callee := .builtin .append, args := #[s, x], argTypes := #[t, t] })
    (base : Nat) (e : TypeId) (i : TypeInfo) (z : Value) (bytes : Nat) (ht : P.underlying t = some (.slice e)) (hi : P.info? e = some i) (hz : i.zero = some z)
    (hsize : i.size = 1) (hby : i.bytes = bytes) (hzs : z.cells.size = 1) (v : Value) (n : Nat) (xs : List Value) (hown : w.ownsRow base e 1 v n xs)
    (A : Option Addr) (m c : Nat) (news : List Value) (hsrc : Src w A m c news) (h63 : n + m ≤ maxLen) (hbytes : (n + m) * bytes ≤ 140737488355328) (hbase : base ≤ w.heap.size)
    (hs : a.eval s = v) (hx : a.eval x = .slice A m c)
    (h : ∀ v' w', w'.ownsRow base e 1 v' (n + m) (xs ++ news) → w.grownBy w' v.ownBlock → (v'.ownBlock = v.ownBlock ∨ v'.ownBlock = some w.heap.size) → (v' = .slice none 0 0 → v = .slice none 0 0) → wpList P ops Q rest (a.put o.dst v') w') :
    wpList P ops Q (o :: rest) a w :=
  wpList_plain hgd fun _ hK => wp_app s x t ho base e i z bytes ht hi hz hsize hby hzs v n xs hown A m c news hsrc h63 hbytes hbase hs hx fun v' w' h2 h3 h4 h5 => hK _ _ (h v' w' h2 h3 h4 h5)
theorem step_app {K : Act → World → Prop} {E : Prop} (hgd : o.guard = none) (s x : Operand) (t : TypeId)
    (ho : o.op = .call { callee := .builtin .append, args := #[s, x], argTypes := #[t, t] })
    (base : Nat) (e : TypeId) (i : TypeInfo) (z : Value) (bytes : Nat) (ht : P.underlying t = some (.slice e)) (hi : P.info? e = some i) (hz : i.zero = some z)
    (hsize : i.size = 1) (hby : i.bytes = bytes) (hzs : z.cells.size = 1) (v : Value) (n : Nat) (xs : List Value) (hown : w.ownsRow base e 1 v n xs)
    (A : Option Addr) (m c : Nat) (news : List Value) (hsrc : Src w A m c news) (h63 : n + m ≤ maxLen) (hbytes : (n + m) * bytes ≤ 140737488355328) (hbase : base ≤ w.heap.size)
    (hs : a.eval s = v) (hx : a.eval x = .slice A m c)
    (h : ∀ v' w', w'.ownsRow base e 1 v' (n + m) (xs ++ news) → w.grownBy w' v.ownBlock → (v'.ownBlock = v.ownBlock ∨ v'.ownBlock = some w.heap.size) → (v' = .slice none 0 0 → v = .slice none 0 0) → K (a.put o.dst v') w') :
    if Region.wanted o (yielded ops a.tmps) = true then Oper.wp P o a w K Q else E := by
  have hw : Region.wanted o (yielded ops a.tmps) = true := by simp [Region.wanted, hgd]
  rw [if_pos hw]
  exact wp_app s x t ho base e i z bytes ht hi hz hsize hby hzs v n xs hown A m c news hsrc h63 hbytes hbase hs hx h
end
/-- the row's first cells lie where its value says -/
theorem owned_form {w : World} {base n : Nat} {e : TypeId} {v : Value} {xs : List Value} (h : w.ownsRow base e 1 v n xs) :
    (v = .slice none 0 0 ∧ n = 0 ∧ xs = []) ∨ ∃ g cap cur, v = .slice (some ⟨g, 0, none⟩) n cap ∧ base ≤ g ∧ n ≤ cap ∧ cap ≤ maxLen ∧ Blk w g e cur ∧ cur.size = cap ∧ cur.toList.take n = xs ∧ g < w.heap.size := by
  obtain ⟨hl, h⟩ := h
  rcases h with ⟨h, h2⟩ | ⟨g, cap, cur, h, hb, hh, hn, hc, hs, ht⟩
  · exact .inl ⟨h, h2, List.eq_nil_of_length_eq_zero (by omega)⟩
  · exact .inr ⟨g, cap, cur, h, hb, hn, hc, hh, by omega, by simpa using ht, Blk.lt hh⟩
theorem owned_slice {w : World} {base n : Nat} {e : TypeId} {v : Value} {xs : List Value} (h : w.ownsRow base e 1 v n xs) : ∃ A c, v = .slice A n c := by
  rcases owned_form h with ⟨rfl, rfl, _⟩ | ⟨g, cap, cur, rfl, _⟩
  · exact ⟨_, _, rfl⟩
  · exact ⟨_, _, rfl⟩
/-- another block's row, and the block -/
theorem owned_keep {w w' : World} {base n : Nat} {e : TypeId} {v : Value} {xs : List Value} (h : w.ownsRow base e 1 v n xs) (hk : ∀ g, v.ownBlock = some g → g < w.heap.size → w'.heap[g]? = w.heap[g]?) : w'.ownsRow base e 1 v n xs := by
  obtain ⟨hl, h⟩ := h
  refine ⟨hl, ?_⟩
  rcases h with h | ⟨g, cap, cur, h, hb, hh, hr⟩
  · exact .inl h
  · subst h
    exact .inr ⟨g, cap, cur, rfl, hb, (hk g rfl (Blk.lt hh)).trans hh, hr⟩
theorem owned_ne {w : World} {base n g : Nat} {e t : TypeId} {v : Value} {xs : List Value} {cs : Array Value} (h : w.ownsRow base e 1 v n xs) (hb : Blk w g t cs) (hne : e ≠ t) : v.ownBlock ≠ some g := by
  rcases owned_form h with ⟨rfl, _⟩ | ⟨g', cap, cur, rfl, _, _, _, hh, _⟩
  · simp [Value.ownBlock]
  · intro he
    injection he with he
    change g' = g at he
    subst he
    exact Blk.ne_ hh hb hne rfl
theorem owned_lt {w : World} {base n g : Nat} {e : TypeId} {v : Value} {xs : List Value} (h : w.ownsRow base e 1 v n xs) (hg : v.ownBlock = some g) : base ≤ g ∧ g < w.heap.size := by
  rcases owned_form h with ⟨rfl, _⟩ | ⟨g', cap, cur, rfl, hb, _, _, hh, _⟩
  · cases hg
  · injection hg with hg
    change g' = g at hg
    subst hg
    exact ⟨hb, hh.lt⟩
theorem owned_base {w : World} {base base' n : Nat} {e : TypeId} {v : Value} {xs : List Value} (h : w.ownsRow base e 1 v n xs) (hb : ∀ g, v.ownBlock = some g → base' ≤ g) : w.ownsRow base' e 1 v n xs := by
  obtain ⟨hl, h⟩ := h
  refine ⟨hl, ?_⟩
  rcases h with h | ⟨g, cap, cur, rfl, _, hr⟩
  · exact .inl h
  · exact .inr ⟨g, cap, cur, rfl, hb g rfl, hr⟩
/-- only some blocks, and new ones, have turned -/
structure Turned (S : Nat → Prop) (w w' : World) : Prop where
  os : w'.os = w.os
  tape : w'.tape = w.tape
  output : w'.output = w.output
  size : w.heap.size ≤ w'.heap.size
  block : ∀ k, k < w.heap.size → ¬ S k → w'.heap[k]? = w.heap[k]?
section
variable {S T : Nat → Prop} {a b c w : World}
theorem Turned.refl (S : Nat → Prop) (w : World) : Turned S w w := ⟨rfl, rfl, rfl, Nat.le_refl _, fun _ _ _ => rfl⟩
theorem Turned.trans (h : Turned S a b) (k : Turned S b c) : Turned S a c :=
  ⟨k.os.trans h.os, k.tape.trans h.tape, k.output.trans h.output, Nat.le_trans h.size k.size, fun i hi hne => (k.block i (Nat.lt_of_lt_of_le hi h.size) hne).trans (h.block i hi hne)⟩
theorem Turned.then_ (h : Turned S a b) (k : Turned T b c) (hT : ∀ k, k < a.heap.size → T k → S k) : Turned S a c :=
  ⟨k.os.trans h.os, k.tape.trans h.tape, k.output.trans h.output, Nat.le_trans h.size k.size, fun i hi hne => (k.block i (Nat.lt_of_lt_of_le hi h.size) (fun ht => hne (hT i hi ht))).trans (h.block i hi hne)⟩
theorem Turned.mono (h : Turned S a b) (hT : ∀ k, k < a.heap.size → S k → T k) : Turned T a b := ⟨h.os, h.tape, h.output, h.size, fun k hk hn => h.block k hk fun hs => hn (hT k hk hs)⟩
theorem Turned.of_grown {row : Option Nat} (h : a.grownBy b row) (hr : ∀ k, row = some k → k < a.heap.size → S k) : Turned S a b := ⟨h.os, h.tape, h.output, h.size, fun k hk hn => h.block k hk fun e => hn (hr k e.symm hk)⟩
theorem Turned.of_below (h : Below a.heap.size a b) (S : Nat → Prop) : Turned S a b := ⟨h.os, h.tape, h.output, h.size, fun k hk _ => h.block k hk⟩
theorem Turned.drewN (h : Turned S a b) (n : Nat) : Turned S a (b.drewN n) := ⟨h.os, h.tape, h.output, h.size, h.block⟩
theorem Turned.drew (h : Turned S a b) : Turned S a b.drew := ⟨h.os, h.tape, h.output, h.size, h.block⟩
theorem Turned.alloc (h : Turned S a b) (o : Obj) : Turned S a (b.alloc o) :=
  ⟨h.os, h.tape, h.output, Nat.le_trans h.size (by rw [size_alloc]; omega), fun i hi hne => (Below.heap_alloc b o i (Nat.lt_of_lt_of_le hi h.size)).trans (h.block i hi hne)⟩
theorem Turned.setCell (h : Turned S a b) {p : Addr} (hp : p.block < a.heap.size → S p.block) (u : Value) : Turned S a (b.setCell p u) :=
  ⟨h.os, h.tape, h.output, by simpa [World.setCell] using h.size, fun i hi hne => (Below.heap_setCell b p u i (by
    rintro rfl
    exact hne (hp hi))).trans (h.block i hi hne)⟩
/-- behind it: what lies ahead of the first block is as it was -/
theorem Turned.below (h : Turned S a b) {B : Nat} (hB : B ≤ a.heap.size) (hS : ∀ k, S k → B ≤ k) : Below B a b := ⟨h.os, h.tape, h.output, h.size, fun k hk => h.block k (by omega) fun hs => by have := hS k hs; omega⟩
theorem Turned.below_new (h : Turned S b c) (hb : Below a.heap.size a b) (hS : ∀ k, k < b.heap.size → S k → a.heap.size ≤ k) : Below a.heap.size a c :=
  ⟨h.os.trans hb.os, h.tape.trans hb.tape, h.output.trans hb.output, Nat.le_trans hb.size h.size, fun k hk => (h.block k (Nat.lt_of_lt_of_le hk hb.size) fun hs => by have := hS k (Nat.lt_of_lt_of_le hk hb.size) hs; omega).trans (hb.block k hk)⟩
theorem Blk.turned {g : Nat} {t : TypeId} {cs : Array Value} (h : Blk a g t cs) (ht : Turned S a b) (hg : ¬ S g) : Blk b g t cs := (ht.block g h.lt hg).trans h
theorem owned_turned {base n : Nat} {e : TypeId} {v : Value} {xs : List Value} (h : a.ownsRow base e 1 v n xs) (ht : Turned S a b) (hg : ∀ g, v.ownBlock = some g → ¬ S g) : b.ownsRow base e 1 v n xs :=
  owned_keep h fun g hg' hlt => ht.block g hlt (hg g hg')
end
end Go.Proofs.Ytfppddnfdinipaa
end
section
namespace Go.Proofs.Ytfppddnfdinipaa
open Go.RowKit
/-- a sponge's cells: eight words, sixty-four bytes, how many bytes came -/
def bv (l : List UInt8) : List Value := l.map fun b => Value.int .u8 (b.toNat : Int)
theorem size5 : (Try.prog.info? 5).map (·.size) = some 1 := by kernel_rfl
theorem bv_one (l : List UInt8) : (bv l).toArray.all (·.oneCell') = true := by
  rw [Array.all_eq_true_iff_forall_mem]; intro v hv; simp [bv] at hv; obtain ⟨x, _, rfl⟩ := hv; rfl
theorem bv_get (l : List UInt8) (i : Nat) (h : i < l.length) : (bv l).toArray[i]? = some (.int .u8 ((l.getD i 0).toNat : Int)) := by
  simp [bv, List.getD, h]
theorem bv_set (l : List UInt8) (i : Nat) (x : UInt8) : (bv l).toArray.setIfInBounds i (.int .u8 (x.toNat : Int)) = (bv (l.set i x)).toArray := by
  simp [bv, List.map_set]
/-- a slice of bytes that reads as l; what there is of it lies below block B -/
def BytesAt (w : World) (B : Nat) (v : Value) (l : List UInt8) : Prop :=
  ∃ A cap, v = .slice A l.length cap ∧ l.length ≤ cap ∧ (0 < l.length → ∃ b off, A = some ⟨b, off, none⟩ ∧ b < B ∧ ∀ j, j < l.length → w.cell? ⟨b, off + j, none⟩ = some (.int .u8 ((l.getD j 0).toNat : Int)))
/-- a slice of slices of bytes -/
def PartsAt (w : World) (B : Nat) (v : Value) (ls : List (List UInt8)) : Prop :=
  ∃ A cap, v = .slice A ls.length cap ∧ ls.length ≤ cap ∧ (0 < ls.length → ∃ b off, A = some ⟨b, off, none⟩ ∧ b < B ∧ ∀ j, j < ls.length → ∃ u, w.cell? ⟨b, off + j, none⟩ = some u ∧ BytesAt w B u (ls.getD j []))
/-- what lies below block B reads alike -/
def Alike (B : Nat) (w w' : World) : Prop := ∀ k, k < B → w'.heap[k]? = w.heap[k]?
theorem Alike.cell {B : Nat} {w w' : World} (h : Alike B w w') {p : Addr} (hp : p.block < B) : w'.cell? p = w.cell? p := World.cell?_of_block (h p.block hp)
theorem BytesAt.alike {w w' : World} {B : Nat} {v : Value} {l : List UInt8} (h : BytesAt w B v l) (ha : Alike B w w') : BytesAt w' B v l := by
  obtain ⟨A, cap, hv, hc, hA⟩ := h
  refine ⟨A, cap, hv, hc, fun hl => ?_⟩
  obtain ⟨b, off, h1, h2, h3⟩ := hA hl
  exact ⟨b, off, h1, h2, fun j hj => (ha.cell (p := ⟨b, off + j, none⟩) h2).trans (h3 j hj)⟩
theorem PartsAt.alike {w w' : World} {B : Nat} {v : Value} {ls : List (List UInt8)} (h : PartsAt w B v ls) (ha : Alike B w w') : PartsAt w' B v ls := by
  obtain ⟨A, cap, hv, hc, hA⟩ := h
  refine ⟨A, cap, hv, hc, fun hl => ?_⟩
  obtain ⟨b, off, h1, h2, h3⟩ := hA hl
  refine ⟨b, off, h1, h2, fun j hj => ?_⟩
  obtain ⟨u, h4, h5⟩ := h3 j hj
  exact ⟨u, (ha.cell (p := ⟨b, off + j, none⟩) h2).trans h4, h5.alike ha⟩
theorem alike_of_below {B : Nat} {w w' : World} (h : Below B w w') : Alike B w w' := h.block
theorem alike_of_grown {B g : Nat} {w w' : World} (h : w.grownBy w' (some g)) (hB : B ≤ g) (hw : B ≤ w.heap.size) : Alike B w w' :=
  fun k hk => h.block k (by omega) (by intro e; injection e with e; omega)
theorem Alike.trans {B : Nat} {a b c : World} (h : Alike B a b) (k : Alike B b c) : Alike B a c := fun i hi => (k i hi).trans (h i hi)
theorem info_u8 : (Try.prog.info? 5).map (fun i => (i.zero, i.size, i.bytes)) = some (some (.int .u8 0), 1, 1) := by kernel_rfl
theorem bvA (a b : List UInt8) : bv (a ++ b) = bv a ++ bv b := by simp [bv]
theorem bvL (a : List UInt8) : (bv a).length = a.length := by simp [bv]
theorem bv1 (a : List UInt8) : ∀ u ∈ bv a, u.oneCell' = true := by
  intro u hu
  obtain ⟨_, _, rfl⟩ := List.mem_map.1 hu
  rfl
theorem bv_src {w : World} {B : Nat} {A : Option Addr} {l : List UInt8} {cap : Nat} (h : BytesAt w B (.slice A l.length cap) l) (hn : A = none → cap = 0) : Src w A l.length cap (bv l) := by
  obtain ⟨A', cap', hv, hc, hA⟩ := h
  injection hv with e1 e2 e3
  subst e1 e3
  refine ⟨bvL l, fun h => ?_, bv1 l, fun ad had j u hu => ?_⟩
  · have := hn h
    exact ⟨by omega, this⟩
  · have hj : j < l.length := by
      have := (List.getElem?_eq_some_iff.1 hu).1
      simpa [bv] using this
    obtain ⟨b, off, h1, _, h3⟩ := hA (by omega)
    rw [h1] at had
    obtain rfl := Option.some.inj had
    have e : (⟨b, off, none⟩ : Addr).add j = ⟨b, off + j, none⟩ := by unfold Addr.add; split <;> simp_all
    rw [e, h3 j hj]
    have e2 : (bv l)[j]? = some (.int .u8 ((l.getD j 0).toNat : Int)) := by simp [bv, List.getD, hj]
    rw [e2] at hu
    exact hu
/-- a row that one owns reads as its bytes -/
theorem bytesAt_owned {w : World} {base : Nat} {v : Value} {l : List UInt8} (h : w.ownsRow base 5 1 v l.length (bv l)) : BytesAt w w.heap.size v l := by
  rcases owned_form h with ⟨rfl, h0, _⟩ | ⟨g, cap, cur, rfl, _, hc, _, hb, _, ht, hlt⟩
  · exact ⟨none, 0, by rw [h0], by omega, fun h => by omega⟩
  · refine ⟨_, cap, rfl, hc, fun _ => ⟨g, 0, rfl, hlt, fun j hj => ?_⟩⟩
    rw [Nat.zero_add, hb.cell]
    have h1 : cur.toList[j]? = (bv l)[j]? := by
      rw [← ht, List.getElem?_take_of_lt hj]
    rw [← Array.getElem?_toList, h1]
    simp [bv, List.getD, hj]
theorem owned_new (w : World) (e : TypeId) : (w.alloc (.cells #[] e)).ownsRow w.heap.size e 1 (.slice (some ⟨w.heap.size, 0, none⟩) 0 0) 0 [] :=
  ⟨rfl, .inr ⟨w.heap.size, 0, #[], rfl, Nat.le_refl _, Blk.new w e #[], Nat.le_refl _, Nat.zero_le _, rfl, rfl⟩⟩
theorem own_nil0 {w : World} {base n cap : Nat} {A : Option Addr} {e : TypeId} {xs : List Value} (h : w.ownsRow base e 1 (.slice A n cap) n xs) : A = none → cap = 0 := by
  intro hA
  rcases owned_form h with ⟨e, _⟩ | ⟨q, cp, cur, e, _⟩
  · injection e
  · injection e with e1
    rw [hA] at e1
    cases e1
theorem bytes_nil {w : World} {B : Nat} {A : Option Addr} {n cap : Nat} {l : List UInt8} (h : BytesAt w B (.slice A n cap) l) (hn : A = none → cap = 0) : A = none → n = 0 ∧ cap = 0 := by
  intro hA
  obtain ⟨A', cap', hv, hc, h0⟩ := h
  injection hv with e1 e2 e3
  refine ⟨?_, hn hA⟩
  rcases Nat.eq_zero_or_pos l.length with hl | hl
  · omega
  · obtain ⟨b, off, h1, _⟩ := h0 hl
    rw [← e1, hA] at h1
    cases h1
theorem owned_src0 {w : World} {base cap : Nat} {A : Option Addr} {l : List UInt8} (h : w.ownsRow base 5 1 (.slice A l.length cap) l.length (bv l)) : Src w A l.length cap (bv l) :=
  bv_src (bytesAt_owned h) (own_nil0 h)
theorem made_bv (n : Nat) : madeCells #[.int .u8 0] n = (bv (List.replicate n 0)).toArray := by
  apply Array.ext'
  apply List.ext_getElem?
  intro j
  by_cases hj : j < n
  · simp [madeCells, hj, bv, Nat.mod_one]
  · simp [madeCells, hj, bv]
theorem only_setCell {a w : World} {g : Nat} (h : a.grownBy w (some g)) {p : Addr} (hp : p.block = g ∨ a.heap.size ≤ p.block) (u : Value) : a.grownBy (w.setCell p u) (some g) :=
  ⟨h.os, h.tape, h.output, by simpa [World.setCell] using h.size, fun i hi hne => (Below.heap_setCell w p u i (by
    rintro rfl
    rcases hp with hp | hp
    · exact hne (by rw [hp])
    · omega)).trans (h.block i hi hne)⟩
end Go.Proofs.Ytfppddnfdinipaa
end
section
namespace Go.Proofs.Ytfppddnfdinipaa
open Go.RowKit
theorem size_run {P : Program} (e : Nat) (hs : (P.info? e).map (·.size) = some 1) (w : World) : (sizeOf e).run P w = .ok 1 w := by
  cases hq : P.info? e with
  | none => simp [hq] at hs
  | some j =>
    have h1 : j.size = 1 := by simpa [hq] using hs
    simp [sizeOf, typeInfo, hq, h1]
section
variable {P : Program} (t e n : Nat) (ht : P.underlying t = some (.array n e)) (he : P.underlying e = some (.int .u8)) (hs : (P.info? e).map (·.size) = some 1)
include ht he hs
theorem run_eql_bv (xs ys : List UInt8) (hx : xs.length = n) (hy : ys.length = n) (w : World) :
    (binOp .eql t (.agg (bv xs).toArray) (.agg (bv ys).toArray)).run P w = .ok (.bool (xs == ys)) w :=
  run_eql_bytes w t e n ht he (size_run e hs) xs ys hx hy
theorem run_neq_bv (xs ys : List UInt8) (hx : xs.length = n) (hy : ys.length = n) (w : World) :
    (binOp .neq t (.agg (bv xs).toArray) (.agg (bv ys).toArray)).run P w = .ok (.bool (!(xs == ys))) w := by
  have h := run_equalIn_bytes (P := P) w 9998 t e n ht he (size_run e hs) xs ys hx hy
  have e2 : (Op.equal t (.agg (bv xs).toArray) (.agg (bv ys).toArray)).run P w = .ok (xs == ys) w := h
  simp only [binOp, Sem.run_bind, e2, Result.andThen_ok, Sem.run_pure]
end
end Go.Proofs.Ytfppddnfdinipaa
end
section
namespace Go.Proofs.Ytfppddnfdinipaa
open Go Go.RowKit
section
variable {P : Program} {ρ : Operand → Value} {o : Oper}
theorem exec_slice (t : TypeId) (x : Operand) (lo hi mx : Option Operand) (ho : o.op = .slice t x lo hi mx) (v : Value) (hv : ∀ W, (Instr.sliceAt t (ρ x) (lo.map ρ) (hi.map ρ) (mx.map ρ)).run P W = .ok v W) (W : World) : (execOp ρ o).run P W = .ok (.value v) W := by
  unfold execOp
  simp only [ho, Sem.run_bind, hv W, Result.andThen_ok, Sem.run_pure]
theorem exec_binop_agg (op : BinOp) (t : TypeId) (x y : Operand) (r : TypeId) (ho : o.op = .binOp op t x y r) (xs ys : Array Value) (hx : ρ x = .agg xs) (hy : ρ y = .agg ys) (hm : P.eqGuardType P.depth t = false) (v : Value) (hv : ∀ W, (binOp op t (.agg xs) (.agg ys)).run P W = .ok v W) (W : World) : (execOp ρ o).run P W = .ok (.value v) W := by
  unfold execOp
  simp only [ho, hx, hy, Sem.run_bind, run_eqGuard_agg W op t x y xs ys hm, hv W, Result.andThen_ok, Sem.run_pure]
section
variable (t e : TypeId) (ht : P.underlying t = some (.slice e)) (hs : (P.info? e).map (·.size) = some 1)
include ht hs
theorem run_slice_to (A : Option Addr) (len cap n : Nat) (hn : n ≤ cap) (w : World) :
    (Instr.sliceAt t (.slice A len cap) none (some (.int .i64 (n : Int))) none).run P w = .ok (.slice A n cap) w := by
  have e2 : P.elem t = e := by simp [Program.elem, ht]
  rw [run_sliceAt_slice w t _ _ _ _ (by rw [e2]; exact ht)]
  have h := run_slice_h (P := P) w t A len cap (by rw [e2]; exact ht) .i64 (n : Int) (by omega) (by omega)
  rw [h, e2]
  cases hi : P.info? e with
  | none => simp [hi] at hs
  | some i =>
    have h1 : i.size = 1 := by simpa [hi] using hs
    have e0 : A.map (fun a => a.add 0) = A := by cases A <;> simp [Addr.add]
    simp [sizeOf, typeInfo, hi, h1, sliced, e0]
end
end
/-- a guarded operation that is wanted -/
theorem wpList_wanted {P : Program} {ops : Array Oper} {rest : List Oper} {o : Oper} {a : Act} {w : World} {Q : Exit → Act → World → Prop} (hw : Region.wanted o (yielded ops a.tmps) = true)
    (h : ∀ K : Act → World → Prop, (∀ a w, wpList P ops Q rest a w → K a w) → o.wp P a w K Q) : wpList P ops Q (o :: rest) a w :=
  wpList_step fun K hK => by rw [if_pos hw]; exact h K hK
theorem wpList_load_blk_w {P : Program} {ops : Array Oper} {rest : List Oper} {o : Oper} {a : Act} {w : World} {Q : Exit → Act → World → Prop} (hw : Region.wanted o (yielded ops a.tmps) = true) (ty : TypeId) (x : Operand) (ho : o.op = .load ty x)
    (g : Nat) (t : TypeId) (cs : Array Value) (n : Nat) (e : TypeId) (hg : Blk w g t cs)
    (hu : P.underlying ty = some (.array n e)) (hi : (P.info? ty).map (·.size) = some cs.size) (hx : a.eval x = .pointer (some ⟨g, 0, none⟩))
    (h : wpList P ops Q rest (a.put o.dst (.agg cs)) w) : wpList P ops Q (o :: rest) a w :=
  wpList_wanted hw fun _ hK => wp_load_row ty x ho g hx t cs (0, 0) _ hg hu rfl hi (hK _ _ h)
/-- an operation whose run is known, in a region that goes on in order -/
theorem wpList_value_w {P : Program} {ops : Array Oper} {rest : List Oper} {o : Oper} {a : Act} {w : World} {Q : Exit → Act → World → Prop} (hw : Region.wanted o (yielded ops a.tmps) = true) (v : Value) (w' : World) (hrun : (execOp a.eval o).run P w = .ok (.value v) w') (h : wpList P ops Q rest (a.put o.dst v) w') : wpList P ops Q (o :: rest) a w :=
  wpList_wanted hw fun K hK => by
    unfold Oper.wp
    rw [hrun]
    exact hK _ _ h
/-- bytes cut -/
theorem BytesAt.take {w : World} {B n cap : Nat} {A : Option Addr} {l : List UInt8} (h : BytesAt w B (.slice A n cap) l) (k : Nat) (hk : k ≤ l.length) : BytesAt w B (.slice A k cap) (l.take k) := by
  obtain ⟨A', cap', hv, hc, hA⟩ := h
  injection hv with e1 e2 e3
  subst e1 e2 e3
  have hl : (l.take k).length = k := by rw [List.length_take]; omega
  refine ⟨A, cap, by rw [hl], by omega, fun h0 => ?_⟩
  rw [hl] at h0
  obtain ⟨b, off, h1, h2, h3⟩ := hA (by omega)
  refine ⟨b, off, h1, h2, fun j hj => ?_⟩
  rw [hl] at hj
  rw [h3 j (by omega)]
  simp [List.getD, hj]
theorem BytesAt.drop {w : World} {B n cap : Nat} {A : Option Addr} {l : List UInt8} (h : BytesAt w B (.slice A n cap) l) (k : Nat) (hk : k ≤ l.length) : BytesAt w B (.slice (if cap = k then A else A.map (·.add k)) (n - k) (cap - k)) (l.drop k) := by
  obtain ⟨A', cap', hv, hc, hA⟩ := h
  injection hv with e1 e2 e3
  subst e1 e2 e3
  have hl : (l.drop k).length = l.length - k := by rw [List.length_drop]
  refine ⟨_, cap - k, by rw [hl], by omega, fun h0 => ?_⟩
  rw [hl] at h0
  obtain ⟨b, off, rfl, h2, h3⟩ := hA (by omega)
  rw [if_neg (by omega)]
  refine ⟨b, off + k, by simp [Addr.add_mid], h2, fun j hj => ?_⟩
  rw [hl] at hj
  rw [Nat.add_assoc, h3 (k + j) (by omega)]
  simp [List.getD]
/-- what a row of byte slices holds -/
def RowOf (w : World) (B : Nat) (us : List Value) (ls : List (List UInt8)) : Prop := us.length = ls.length ∧ ∀ j, j < ls.length → BytesAt w B (us.getD j undef) (ls.getD j [])
theorem RowOf.nil (w : World) (B : Nat) : RowOf w B [] [] := ⟨rfl, fun j hj => absurd hj (by simp)⟩
theorem RowOf.cons {w : World} {B : Nat} {u : Value} {l : List UInt8} {us : List Value} {ls : List (List UInt8)} (h : BytesAt w B u l) (k : RowOf w B us ls) : RowOf w B (u :: us) (l :: ls) :=
  ⟨by simp [k.1], fun j hj => by
    cases j with
    | zero => exact h
    | succ j => exact k.2 j (by simpa using hj)⟩
/-- a made row of byte slices is the parts that it holds -/
theorem parts_made {w0 w : World} {B0 : Nat} {ty : TypeId} {us : List Value} {ls : List (List UInt8)} {u : Value} (h : madeSlc B0 ty us.toArray u w) (hx : Ext w0 w) (hr : RowOf w0 w0.heap.size us ls) : PartsAt w w.heap.size u ls := by
  obtain ⟨r, rfl, _, hb⟩ := h
  obtain ⟨hl, hj⟩ := hr
  have hs : us.toArray.size = ls.length := by simpa using hl
  rw [hs]
  refine ⟨_, ls.length, rfl, Nat.le_refl _, fun _ => ⟨r, 0, rfl, hb.lt, fun j hjl => ⟨us.getD j undef, ?_, ?_⟩⟩⟩
  · rw [Nat.zero_add, hb.cell]
    simp [List.getD, show j < us.length by omega]
  · obtain ⟨A, cap, h1, h2, h3⟩ := (hj j hjl).alike (alike_of_below hx)
    exact ⟨A, cap, h1, h2, fun h0 => by obtain ⟨b, off, h4, h5, h6⟩ := h3 h0; exact ⟨b, off, h4, Nat.lt_of_lt_of_le h5 hx.size, h6⟩⟩
end Go.Proofs.Ytfppddnfdinipaa
end
section
namespace Go.Proofs.Ytfppddnfdinipaa
open Go.RowKit
/-- the mark of a place in a list of bytes -/
def mk (k i : Nat) : UInt8 := UInt8.ofNat ((1000003 * (k + 7) + i) * 11400714819323198485 % 18446744073709551616 / 72057594037927936)
theorem wrap_u64 (n : Nat) : IntKind.u64.wrap (n : Int) = ((n % 18446744073709551616 : Nat) : Int) := by simp [IntKind.wrap, IntKind.signed, IntKind.bits]
theorem mark_val (m : Nat) : IntKind.u64.wrap (IntKind.u64.wrap (m : Int) * 11400714819323198485) / 72057594037927936 % 256 = ((UInt8.ofNat (m * 11400714819323198485 % 18446744073709551616 / 72057594037927936)).toNat : Int) := by
  have h1 : ((m % 18446744073709551616 : Nat) : Int) * 11400714819323198485 = ((m % 18446744073709551616 * 11400714819323198485 : Nat) : Int) := by omega
  rw [wrap_u64, h1, wrap_u64]
  have h2 : ((m % 18446744073709551616 * 11400714819323198485 % 18446744073709551616 : Nat) : Int) / 72057594037927936 = ((m % 18446744073709551616 * 11400714819323198485 % 18446744073709551616 / 72057594037927936 : Nat) : Int) := by omega
  rw [h2, UInt8.toNat_ofNat', Nat.mod_mul_mod]
  rfl
set_option maxHeartbeats 400000 in
theorem mark_any (k i : Int) (hk : 0 ≤ k ∧ k ≤ 1000000000) (hi : 0 ≤ i ∧ i ≤ 1000000000) (w : World) : Calls Try.prog 56 #[.int .i64 k, .int .i64 i] w fun e w' => e = .returned (.int .i64 (1000003 * (k + 7) + i)) ∧ w' = w := by
  go_enter Try.func56, Try.ntmps56
  go_wp2
  go_ret
  exact ⟨rfl, rfl⟩
set_option maxRecDepth 100000 in
set_option maxHeartbeats 400000 in
theorem markByte_any (k i : Nat) (hk : k ≤ 1000000000) (hi : i ≤ 1000000000) (w : World) : Calls Try.prog 131 #[.int .i64 (k : Int), .int .i64 (i : Int)] w fun e w' => e = .returned (.int .u8 ((mk k i).toNat : Int)) ∧ w' = w := by
  go_enter Try.func131, Try.ntmps131
  go_wp2_with fail
  refine (mark_any (k : Int) (i : Int) (by omega) (by omega) _).mono ?_
  rintro e w' ⟨rfl, rfl⟩
  obtain ⟨m, hm⟩ : ∃ m : Nat, (m : Int) = 1000003 * ((k : Int) + 7) + i := ⟨1000003 * (k + 7) + i, by omega⟩
  rw [← hm]
  have hm2 : m = 1000003 * (k + 7) + i := by omega
  have HM := hide hm2
  clear hm hm2
  dsimp only
  repeat go_step
  go_ret
  refine ⟨ret_int ?_, rfl⟩
  rw [mark_val m, HM.out, mk]

def marks : List UInt8 := (List.range 12).map (mk 1)
theorem marks_take (i : Nat) (h : i < 12) : marks.take (i + 1) = marks.take i ++ [mk 1 i] := by
  rw [List.take_add_one, marks, List.getElem?_map, List.getElem?_range h]; rfl
theorem info5 : (Try.prog.info? 5).map (fun i => (i.zero, i.size, i.bytes)) = some (some (.int .u8 0), 1, 1) := by kernel_rfl
theorem bv_append (a b : List UInt8) : bv (a ++ b) = bv a ++ bv b := by simp [bv]
theorem bv_length (a : List UInt8) : (bv a).length = a.length := by simp [bv]
theorem bv_oneCell (a : List UInt8) : ∀ u ∈ bv a, u.oneCell' = true := by
  intro u hu
  obtain ⟨_, _, rfl⟩ := List.mem_map.1 hu
  rfl
theorem owned_blk {w : World} {base g n : Nat} {e : TypeId} {xs : List Value} (h : w.ownsRow base e 1 (.slice (some ⟨g, 0, none⟩) n n) n xs) : Blk w g e xs.toArray := by
  obtain ⟨hl, h⟩ := h
  rcases h with ⟨h, _⟩ | ⟨g', cap, cur, h, _, hb, _, _, hs, ht⟩
  · cases h
  · injection h with e1 e2 e3
    injection e1 with e1
    injection e1 with e1
    subst e1 e3
    have : cur = xs.toArray := by
      rw [← ht, List.take_of_length_le (by simp; omega)]
    rw [← this]
    exact hb
/-- the cells of bytes, as a law on append asks them -/
theorem BytesAt.cells {w : World} {B : Nat} {A : Option Addr} {n cap : Nat} {l : List UInt8} (h : BytesAt w B (.slice A n cap) l) : n = l.length ∧ l.length ≤ cap ∧ ((A = none ∨ l = []) ∨ (0 < l.length ∧ ∃ b off, A = some ⟨b, off, none⟩ ∧ b < B)) ∧ ∀ ad, A = some ad → ∀ j u, (bv l)[j]? = some u → w.cell? (ad.add j) = some u := by
  obtain ⟨A', cap', hv, hc, hA⟩ := h
  injection hv with e1 e2 e3
  subst e1 e2 e3
  refine ⟨rfl, hc, ?_, fun ad had j u hu => ?_⟩
  · rcases Nat.eq_zero_or_pos l.length with h0 | h0
    · exact .inl (.inr (List.eq_nil_of_length_eq_zero h0))
    · obtain ⟨b, off, h1, h2, _⟩ := hA h0
      exact .inr ⟨h0, b, off, h1, h2⟩
  · have hj : j < l.length := by
      have := (List.getElem?_eq_some_iff.1 hu).1
      simpa [bv] using this
    obtain ⟨b, off, h1, _, h3⟩ := hA (by omega)
    rw [h1] at had
    obtain rfl := Option.some.inj had
    have e : (⟨b, off, none⟩ : Addr).add j = ⟨b, off + j, none⟩ := by unfold Addr.add; split <;> simp_all
    rw [e, h3 j hj]
    have e2 : (bv l)[j]? = some (.int .u8 ((l.getD j 0).toNat : Int)) := by simp [bv, List.getD, hj]
    rw [e2] at hu
    exact hu

set_option maxRecDepth 100000 in
set_option maxHeartbeats 1000000 in
theorem lentBytes_any (l : List UInt8) (hl : l.length ≤ 1000000) (A : Option Addr) (n cap : Nat) (B : Nat) (w : World) (hB : B ≤ w.heap.size) (hv : BytesAt w B (.slice A n cap) l) (hnil : A = none → n = 0 ∧ cap = 0) :
    Calls Try.prog 79 #[.slice A n cap] w fun e w' => ∃ g, e = .returned (.slice (some ⟨g, 0, none⟩) l.length (l.length + 12)) ∧ w.heap.size ≤ g ∧ Blk w' g 5 (bv (l ++ marks)).toArray ∧ Below w.heap.size w w' := by
  obtain ⟨rfl, hcap, _, hcells⟩ := hv.cells
  obtain ⟨i, hi, hz0, hz1, hz2⟩ := info_parts info5
  have HV := hide hv
  have HC := hide hcells
  clear hv hcells
  go_enter Try.func79, Try.ntmps79
  go_wp2_with (at_make; refine wpList_make_own _ rfl _ _ 66 rfl w.heap.size 5 i (.int .u8 0) 1 Try.underlying66 hi hz0 hz1 _ _ _ (l.length + 12) rfl rfl ?e0 ?e1 ?e2 ?e3 ?_)
  case e0 => omega
  case e1 => rw [hz2]; omega
  case e2 => simp only [maxLen]; omega
  case e3 => exact Nat.le_refl _
  intro w1 own1 gr1
  obtain ⟨g, hg⟩ : ∃ g, g = w.heap.size := ⟨_, rfl⟩
  rw [← hg] at own1 ⊢
  have hcells1 : ∀ ad, A = some ad → ∀ j u, (bv l)[j]? = some u → w1.cell? (ad.add j) = some u := by
    intro ad had
    have hv1 : BytesAt w1 B (.slice A l.length cap) l := HV.out.alike fun k hk => gr1.block k (by omega) (by simp)
    exact hv1.cells.2.2.2 ad had
  have HC1 := hide hcells1
  have HG := hide hg
  clear hcells1 hg
  go_wp2_with (at_builtin; (refine wpList_append_fits_any w1 rfl _ _ 66 rfl g 5 i 1 Try.underlying66 hi hz1 g 0 (l.length + 12) [] rfl own1 A l.length cap (bv l) rfl ?f0 ?f1 ?f2 ?f3 ?f4 ?_))
  case f0 => simp [bv]
  case f1 => exact hnil
  case f2 => exact HC1.out
  case f3 => exact bv_oneCell l
  case f4 => omega
  intro w2 own2 gr2
  have hg := HG.out
  have hb2 : Below w.heap.size w w2 := by
    have b1 : Below w.heap.size w w1 := (Below.refl _ _).grown gr1 (Nat.le_refl _) (by simp)
    exact b1.grown gr2 b1.size (by intro k hk; injection hk with hk; omega)
  have HO := hide (And.intro own2 hb2)
  clear own1 own2 gr1 gr2 hb2 hg
  go_wp2_with fail
  go_loopw [3, 4] (fun v3 v4 wr => ∃ j : Nat, j ≤ 12 ∧ v4 = .int .i64 (j : Int) ∧ v3 = .slice (some ⟨g, 0, none⟩) (l.length + j) (l.length + 12) ∧ wr.ownsRow g 5 1 v3 (l.length + j) (bv (l ++ marks.take j)) ∧ Below w.heap.size w wr) (fun _ v4 _ => (12 - intOf v4).toNat)
  case atStart => exact ⟨0, by omega, rfl, rfl, by simpa using HO.out.1, HO.out.2⟩
  case round =>
    obtain ⟨j, hj, rfl, rfl, own3, hb3⟩ := hrel
    by_cases h12 : j < 12
    · go_wp2_with fail
      refine (markByte_any 1 j (by omega) (by omega) _).mono ?_
      rintro e w3 ⟨rfl, rfl⟩
      dsimp only
      have own4 := own3.alloc (.cells #[.int .u8 ((mk 1 j).toNat : Int)] 5)
      obtain ⟨X, hX⟩ : ∃ X, X = w3.heap.size := ⟨_, rfl⟩
      have hbx := Blk.new w3 5 #[.int .u8 ((mk 1 j).toNat : Int)]
      rw [← hX] at hbx
      have hb4 : Below w.heap.size w (w3.alloc (.cells #[.int .u8 ((mk 1 j).toNat : Int)] 5)) := hb3.alloc hb3.size _
      have HX := hide hX
      have HBX := hide hbx
      clear own3 hb3 hbx
      go_wp2_with (at_builtin; (refine wpList_append_fits _ rfl _ _ 66 rfl g 5 i 1 Try.underlying66 hi hz1 g (l.length + j) (l.length + 12) (bv (l ++ marks.take j)) rfl own4 ⟨w3.heap.size, 0, none⟩ 1 1 [.int .u8 ((mk 1 j).toNat : Int)] rfl ?h0 ?h1 ?h2 ?h3 ?_))
      case h0 => rfl
      case h1 =>
        intro q u hu
        match q, hu with
        | 0, hu =>
          have h := HBX.out.cell 0
          rw [HX.out] at h
          rw [← hu]; exact h
      case h2 =>
        intro u hu
        simp only [List.mem_singleton] at hu
        rw [hu]; rfl
      case h3 => omega
      intro w5 own5 gr5
      have HO5 := hide (And.intro own5 (And.intro gr5 hb4))
      clear own5 gr5 hb4 own4
      go_wp2_with fail
      go_roundw
      case rel =>
        obtain ⟨own5, gr5, hb4⟩ := HO5.out
        have hg := HG.out
        refine ⟨j + 1, by omega, by go_num, rfl, ?_, hb4.grown gr5 hb4.size (by intro k hk; injection hk with hk; omega)⟩
        rw [marks_take j h12, ← List.append_assoc, bv_append]
        exact own5
      case measure => simp [intOf]; omega
    · obtain rfl : j = 12 := by omega
      go_wp2_with fail
      go_ret
      refine ⟨g, rfl, by have := HG.out; omega, ?_, hb3⟩
      have h := owned_blk own3
      rwa [show marks.take 12 = marks from rfl] at h
end Go.Proofs.Ytfppddnfdinipaa
end
section
namespace Go.Proofs.Ytfppddnfdinipaa
open Go Go.RowKit
/-- a device's cells: deeds, a fuse, is it down, what is kept, what is pending -/
def dv (de fu : Int) (dn : Bool) (vk vp : Value) : Array Value := #[.int .i64 de, .int .i64 fu, .bool dn, vk, vp]
theorem dv0 (de fu : Int) (dn : Bool) (vk vp : Value) : (dv de fu dn vk vp)[0]? = some (.int .i64 de) := rfl
theorem dv1 (de fu : Int) (dn : Bool) (vk vp : Value) : (dv de fu dn vk vp)[1]? = some (.int .i64 fu) := rfl
theorem dv2 (de fu : Int) (dn : Bool) (vk vp : Value) : (dv de fu dn vk vp)[2]? = some (.bool dn) := rfl
theorem dv3 (de fu : Int) (dn : Bool) (vk vp : Value) : (dv de fu dn vk vp)[3]? = some vk := rfl
theorem dv4 (de fu : Int) (dn : Bool) (vk vp : Value) : (dv de fu dn vk vp)[4]? = some vp := rfl
theorem dv_set0 (de fu x : Int) (dn : Bool) (vk vp : Value) : (dv de fu dn vk vp).setIfInBounds 0 (.int .i64 x) = dv x fu dn vk vp := rfl
theorem dv_set1 (de fu x : Int) (dn : Bool) (vk vp : Value) : (dv de fu dn vk vp).setIfInBounds 1 (.int .i64 x) = dv de x dn vk vp := rfl
theorem dv_set2 (de fu : Int) (dn x : Bool) (vk vp : Value) : (dv de fu dn vk vp).setIfInBounds 2 (.bool x) = dv de fu x vk vp := rfl
theorem dv_set4 (de fu : Int) (dn : Bool) (vk vp x : Value) : (dv de fu dn vk vp).setIfInBounds 4 x = dv de fu dn vk x := rfl
section
set_option maxRecDepth 100000
variable {de fu : Int} {dn : Bool} {vp : Value} {a : Addr} {n c g : Nat}
theorem dnone_any (w : World) (hb : Blk w g 150 (dv de fu dn (.slice (some a) n c) vp)) : Calls Try.prog 126 #[.pointer (some ⟨g, 0, none⟩)] w fun e w' => e = .returned (.bool false) ∧ w' = w := by
  have c3 := (hb.cell 3).trans (dv3 ..)
  have hlt := hb.lt
  have hq := fun (w : World) (a : Option Addr) (n c : Nat) => Lib.run_eql_slice_nil (P := Try.prog) w 145 213 a n c 0 0 Try.underlying145
  clear hb
  go_enter Try.func126, Try.ntmps126
  go_wp2
  go_ret
  exact ⟨rfl, rfl⟩
theorem able_any (w : World) (hb : Blk w g 150 (dv de fu dn (.slice (some a) n c) vp)) : Calls Try.prog 69 #[.pointer (some ⟨g, 0, none⟩)] w fun e w' => e = .returned (.int .i64 (if dn = true then 10 else 0)) ∧ w' = w := by
  have c2 := (hb.cell 2).trans (dv2 ..)
  have hlt := hb.lt
  have H := hide hb
  clear hb
  cases dn with
  | true =>
    go_enter Try.func69, Try.ntmps69
    go_wp2_with (go_at_call 126; refine (dnone_any _ H.out).mono ?_; rintro e w' ⟨rfl, rfl⟩)
    go_ret
    exact ⟨rfl, rfl⟩
  | false =>
    go_enter Try.func69, Try.ntmps69
    go_wp2_with (go_at_call 126; refine (dnone_any _ H.out).mono ?_; rintro e w' ⟨rfl, rfl⟩)
    go_ret
    exact ⟨rfl, rfl⟩
theorem has_any (w : World) (hn : n ≤ 8192) (x : Int) (hx : -9223372036854775808 ≤ x ∧ x ≤ 9223372036854775807) (hb : Blk w g 150 (dv de fu dn (.slice (some a) n c) vp)) : Calls Try.prog 123 #[.pointer (some ⟨g, 0, none⟩), .int .i64 x] w fun e w' => e = .returned (.bool (decide (0 ≤ x ∧ x < (n : Int)))) ∧ w' = w := by
  have c3 := (hb.cell 3).trans (dv3 ..)
  have hlt := hb.lt
  have hx1 := hx.1
  have hx2 := hx.2
  have hu : x < 0 → ¬ IntKind.u64.wrap x < (n : Int) := fun h => by simp [IntKind.wrap, IntKind.signed, IntKind.bits]; omega
  clear hb hx
  rcases Int.lt_or_le x 0 with hneg | hpos
  · have hu2 := hu hneg
    have hd : decide (0 ≤ x ∧ x < (n : Int)) = false := decide_eq_false (by omega)
    rw [hd]
    clear hu hd
    go_enter Try.func123, Try.ntmps123
    go_wp2
    go_ret
    refine ⟨ret_bool ?_, rfl⟩
    simp
  · have hw : IntKind.u64.wrap x = x := by simp [IntKind.wrap, IntKind.signed, IntKind.bits]; omega
    clear hu
    go_enter Try.func123, Try.ntmps123
    go_wp2
    go_ret
    exact ⟨ret_bool (by simp [hpos]), rfl⟩
/-- a deed begins -/
def tick (de fu : Int) (dn : Bool) : Int × Int × Int × Bool := if fu = 1 then (10, de, 0, true) else if fu = 0 then (0, de + 1, 0, dn) else (0, de + 1, fu - 1, dn)
set_option maxHeartbeats 400000 in
theorem next_any (w : World) (vk : Value) (hde : 0 ≤ de ∧ de ≤ 1000000000) (hfu : 0 ≤ fu ∧ fu ≤ 9223372036854775807) (hb : Blk w g 150 (dv de fu dn vk vp)) : Calls Try.prog 124 #[.pointer (some ⟨g, 0, none⟩)] w fun e w' =>
    e = .returned (.int .i64 (tick de fu dn).1) ∧ Blk w' g 150 (dv (tick de fu dn).2.1 (tick de fu dn).2.2.1 (tick de fu dn).2.2.2 vk vp) ∧ w.grownBy w' (some g) := by
  have c0 := (hb.cell 0).trans (dv0 ..)
  have c1 := (hb.cell 1).trans (dv1 ..)
  have f0 := hb.frozen 0
  have f1 := hb.frozen 1
  have f2 := hb.frozen 2
  have c2 := (hb.cell 2).trans (dv2 ..)
  have hlt := hb.lt
  have H := hide hb
  have h1 := hde.1
  have h2 := hde.2
  have h3 := hfu.1
  have h4 := hfu.2
  clear hb hde hfu
  by_cases q1 : fu = 1
  · subst q1
    have ht : tick de 1 dn = (10, de, 0, true) := by simp [tick]
    rw [ht]
    go_enter Try.func124, Try.ntmps124
    go_wp2
    go_ret
    have h := (H.out.set_ 1 (.int .i64 0)).set_ 2 (.bool true)
    rw [dv_set1, dv_set2] at h
    have g1 : w.grownBy (w.setCell ⟨g, 1, none⟩ (.int .i64 0)) (some g) := only_setCell (World.grownBy.refl w _) (.inl rfl) _
    exact ⟨rfl, h, only_setCell g1 (.inl rfl) _⟩
  · by_cases q0 : fu = 0
    · subst q0
      have ht : tick de 0 dn = (0, de + 1, 0, dn) := by simp [tick]
      rw [ht]
      clear ht
      go_enter Try.func124, Try.ntmps124
      go_wp2
      go_ret
      have h := H.out.set_ 0 (.int .i64 (de + 1))
      rw [dv_set0] at h
      exact ⟨rfl, h, only_setCell (World.grownBy.refl w _) (.inl rfl) _⟩
    · have ht : tick de fu dn = (0, de + 1, fu - 1, dn) := by simp [tick, q0, q1]
      rw [ht]
      have b0 : (fu == 0) = false := by simp [q0]
      have b1 : (fu == 1) = false := by simp [q1]
      clear ht
      go_enter Try.func124, Try.ntmps124
      go_wp2
      go_ret
      have h := (H.out.set_ 1 (.int .i64 (fu - 1))).set_ 0 (.int .i64 (de + 1))
      rw [dv_set1, dv_set0] at h
      have g1 : w.grownBy (w.setCell ⟨g, 1, none⟩ (.int .i64 (fu - 1))) (some g) := only_setCell (World.grownBy.refl w _) (.inl rfl) _
      exact ⟨rfl, h, only_setCell g1 (.inl rfl) _⟩
end
end Go.Proofs.Ytfppddnfdinipaa
end
section
namespace Go.Proofs.Ytfppddnfdinipaa
open Go Go.RowKit
theorem info_sector : (Try.prog.info? 213).map (fun i => (i.zero, i.size, i.bytes)) = some (some (.agg (bv (List.replicate 64 0)).toArray), 64, 64) := by kernel_rfl
section
set_option maxRecDepth 100000
set_option maxHeartbeats 400000 in
theorem new_any (n : Nat) (hn : 1 ≤ n ∧ n ≤ 8192) (w : World) : Calls Try.prog 31 #[.int .i64 (n : Int)] w fun e w' =>
    ∃ g r, e = .returned (.tuple #[.pointer (some ⟨g, 0, none⟩), .int .i64 0]) ∧ w.heap.size ≤ r ∧ r < g ∧ Blk w' g 150 (dv 0 0 false (.slice (some ⟨r, 0, none⟩) n n) (.slice none 0 0)) ∧ w'.ownsRow w.heap.size 213 64 (.slice (some ⟨r, 0, none⟩) n n) n (madeCells (Value.agg (bv (List.replicate 64 0)).toArray).cells (n * 64)).toList ∧ Below w.heap.size w w' := by
  obtain ⟨i, hi, hz0, hz1, hz2⟩ := info_parts info_sector
  have h1 := hn.1
  have h2 := hn.2
  obtain ⟨Z, hz⟩ : ∃ Z, Z = (bv (List.replicate 64 0)).toArray := ⟨_, rfl⟩
  rw [← hz] at hz0 ⊢
  clear hz hn
  go_enter Try.func31, Try.ntmps31
  go_wp2_with (at_make; refine wpList_make_full _ rfl _ _ 145 rfl w.heap.size 213 i (.agg Z) 64 Try.underlying145 hi hz0 hz1 _ _ _ _ n rfl rfl ?e0 ?e1 ?e2 ?e3 ?e4 ?_)
  case e0 => rfl
  case e1 => rfl
  case e2 => rw [hz2]; omega
  case e3 => simp only [maxLen]; omega
  case e4 => exact Nat.le_refl _
  intro w1 own1 gr1
  have H1 := hide (And.intro own1 gr1)
  clear own1 gr1
  go_wp2_with fail
  go_ret2
  obtain ⟨own1, gr1⟩ := H1.out
  have hlt : w.heap.size < w1.heap.size := (own1.lt _ rfl).2
  exact ⟨w1.heap.size, w.heap.size, rfl, Nat.le_refl _, hlt, Blk.new _ _ _, own1.alloc _, ((Below.refl _ _).grown gr1 (Nat.le_refl _) (by intro k hk; cases hk)).alloc (by omega) _⟩
theorem new_bad (n : Int) (hn : n < 1 ∨ 8192 < n) (w : World) : Calls Try.prog 31 #[.int .i64 n] w fun e w' => e = .returned (.tuple #[.pointer none, .int .i64 2]) ∧ w' = w := by
  rcases Int.lt_or_le n 1 with h | h
  · go_enter Try.func31, Try.ntmps31
    go_wp2
    go_ret2
    exact ⟨rfl, rfl⟩
  · have h2 : 8192 < n := by omega
    clear hn
    go_enter Try.func31, Try.ntmps31
    go_wp2
    go_ret2
    exact ⟨rfl, rfl⟩
variable {de fu : Int} {dn : Bool} {vp : Value} {a : Addr} {n c g : Nat}
/-- the fuse is lit, unless it is down -/
theorem fuse_any (x : Int) (w : World) (hb : Blk w g 150 (dv de fu false (.slice (some a) n c) vp)) : Calls Try.prog 80 #[.pointer (some ⟨g, 0, none⟩), .int .i64 x] w fun e w' => e = .returned (.int .i64 0) ∧ Blk w' g 150 (dv de (max x 0) false (.slice (some a) n c) vp) ∧ w.grownBy w' (some g) := by
  have c1 := (hb.cell 1).trans (dv1 ..)
  have f1 := hb.frozen 1
  have hlt := hb.lt
  have H := hide hb
  clear hb
  rcases Int.lt_or_le x 0 with h | h
  · have hm : max x 0 = 0 := by omega
    have h2 : x ≤ 0 := by omega
    rw [hm]
    clear hm
    go_enter Try.func80, Try.ntmps80
    go_wp2_with (go_at_call 69; refine (able_any _ H.out).mono ?_; rintro e w' ⟨rfl, rfl⟩)
    go_ret
    have h := H.out.set_ 1 (.int .i64 0)
    rw [dv_set1] at h
    exact ⟨rfl, h, only_setCell (World.grownBy.refl _ _) (.inl rfl) _⟩
  · have hm : max x 0 = x := by omega
    rw [hm]
    rcases Int.lt_or_le 0 x with h0 | h0
    · clear hm
      go_enter Try.func80, Try.ntmps80
      go_wp2_with (go_at_call 69; refine (able_any _ H.out).mono ?_; rintro e w' ⟨rfl, rfl⟩)
      go_ret
      have h := H.out.set_ 1 (.int .i64 x)
      rw [dv_set1] at h
      exact ⟨rfl, h, only_setCell (World.grownBy.refl _ _) (.inl rfl) _⟩
    · obtain rfl : x = 0 := by omega
      clear hm
      go_enter Try.func80, Try.ntmps80
      go_wp2_with (go_at_call 69; refine (able_any _ H.out).mono ?_; rintro e w' ⟨rfl, rfl⟩)
      go_ret
      have h := H.out.set_ 1 (.int .i64 0)
      rw [dv_set1] at h
      exact ⟨rfl, h, only_setCell (World.grownBy.refl _ _) (.inl rfl) _⟩
/-- it goes down, unless it is down -/
theorem crash_any (w : World) (hb : Blk w g 150 (dv de fu false (.slice (some a) n c) vp)) : Calls Try.prog 37 #[.pointer (some ⟨g, 0, none⟩)] w fun e w' => e = .returned (.int .i64 0) ∧ Blk w' g 150 (dv de fu true (.slice (some a) n c) vp) ∧ w.grownBy w' (some g) := by
  have c2 := (hb.cell 2).trans (dv2 ..)
  have f2 := hb.frozen 2
  have hlt := hb.lt
  have H := hide hb
  clear hb
  go_enter Try.func37, Try.ntmps37
  go_wp2_with (go_at_call 69; refine (able_any _ H.out).mono ?_; rintro e w' ⟨rfl, rfl⟩)
  go_ret
  have h := H.out.set_ 2 (.bool true)
  rw [dv_set2] at h
  exact ⟨rfl, h, only_setCell (World.grownBy.refl _ _) (.inl rfl) _⟩
end
end Go.Proofs.Ytfppddnfdinipaa
end
section
namespace Go.Proofs.Ytfppddnfdinipaa
open Go Go.RowKit
set_option maxRecDepth 100000 in
set_option maxHeartbeats 1000000 in
theorem stat_any {de fu : Int} {dn : Bool} {a : Addr} {n c g m pc : Nat} {pa : Option Addr} (w : World) (hb : Blk w g 150 (dv de fu dn (.slice (some a) n c) (.slice pa m pc))) :
    Calls Try.prog 87 #[.pointer (some ⟨g, 0, none⟩)] w fun e w' => e = .returned (.agg #[.int .i64 (n : Int), .int .i64 (m : Int), .int .i64 de, .bool dn]) ∧ Below w.heap.size w w' := by
  have hlt := hb.lt
  obtain ⟨q, hq⟩ : ∃ q, q = w.heap.size := ⟨_, rfl⟩
  have HQ := hide hq
  have hb0 := hb.alloc (.cells #[.int .i64 0, .int .i64 0, .int .i64 0, .bool false] 181)
  have c0 := (hb.cell 0).trans (dv0 ..)
  have c2 := (hb.cell 2).trans (dv2 ..)
  have c3 := (hb.cell 3).trans (dv3 ..)
  have c4 := (hb.cell 4).trans (dv4 ..)
  have H := hide hb0
  clear hb hb0 hq
  go_enter Try.func87, Try.ntmps87
  go_wp2_with (go_at_call 126; refine (dnone_any _ H.out).mono ?_; rintro e w' ⟨rfl, rfl⟩)
  refine wp_quiet_tail_drewN 21 (by kernel_rfl) (by kernel_rfl) ?_
  simp only [List.take_succ_cons, List.take_zero, List.drop_succ_cons, List.drop_zero]
  repeat (go_big_quiet_step (fail))
  refine wpQuiet_nil ?_
  intro nq
  go_wp2_with fail
  have hblk := (((((Blk.new w 181 #[.int .i64 0, .int .i64 0, .int .i64 0, .bool false]).drewN nq).set_ 0 (.int .i64 (n : Int))).set_ 1 (.int .i64 (m : Int))).set_ 2 (.int .i64 de)).set_ 3 (.bool dn)
  refine bodyPost_ret (results_cell_row rfl _ _ w.heap.size 181 #[.int .i64 (n : Int), .int .i64 (m : Int), .int .i64 de, .bool dn] (0, 0) _ rfl hblk Try.underlying181 rfl (by kernel_rfl)) rfl ⟨rfl, ?_⟩
  have h1 : Below w.heap.size w (w.alloc (.cells #[.int .i64 0, .int .i64 0, .int .i64 0, .bool false] 181)) := (Below.refl _ _).alloc (Nat.le_refl _) _
  exact ((((below_drewN h1 nq).setCell (Nat.le_refl _) _).setCell (Nat.le_refl _) _).setCell (Nat.le_refl _) _).setCell (Nat.le_refl _) _
end Go.Proofs.Ytfppddnfdinipaa
end
section
namespace Go.Proofs.Ytfppddnfdinipaa
open Go Go.RowKit
section
variable {P : Program} {w : World} {ops : Array Oper} {o : Oper} {a : Act} {Q : Exit → Act → World → Prop} {K : Act → World → Prop} {E : Prop}
theorem step_load_blk (hgd : o.guard = none) (ty : TypeId) (x : Operand) (ho : o.op = .load ty x) (g : Nat) (t : TypeId) (cs : Array Value) (hg : Blk w g t cs) (d : TypeDesc) (hu : P.underlying ty = some d)
    (hd : (match d with | .struct _ | .array _ _ => true | _ => false) = true) (hi : (P.info? ty).map (·.size) = some cs.size) (hx : a.eval x = .pointer (some ⟨g, 0, none⟩)) (h : K (a.put o.dst (.agg cs)) w) :
    if Region.wanted o (yielded ops a.tmps) = true then Oper.wp P o a w K Q else E := by
  have hw : Region.wanted o (yielded ops a.tmps) = true := by simp [Region.wanted, hgd]
  rw [if_pos hw]
  exact wp_load_row ty x ho g hx t cs (0, 0) d hg hu hd hi h
theorem step_appN (hgd : o.guard = none) (s x : Operand) (t : TypeId)
    (ho : o.op = .call { callee := .builtin .append, args := #[s, x], argTypes := #[t, t] })
    (base : Nat) (e : TypeId) (i : TypeInfo) (z : Value) (size bytes : Nat) (ht : P.underlying t = some (.slice e)) (hi : P.info? e = some i) (hz : i.zero = some z)
    (hsize : i.size = size) (hby : i.bytes = bytes) (hzs : z.cells.size = size) (hsz : 0 < size) (v : Value) (n : Nat) (xs : List Value) (hown : w.ownsRow base e size v n xs)
    (ad : Addr) (m c : Nat) (news : List Value) (hl : news.length = m * size) (hnews : ∀ j u, news[j]? = some u → w.cell? (ad.add j) = some u) (h1 : ∀ u ∈ news, u.oneCell' = true)
    (h63 : n + m ≤ maxLen) (hbytes : (n + m) * bytes ≤ 140737488355328) (hbase : base ≤ w.heap.size)
    (hs : a.eval s = v) (hx : a.eval x = .slice (some ad) m c)
    (h : ∀ v' w', w'.ownsRow base e size v' (n + m) (xs ++ news) → w.grownBy w' v.ownBlock → (v'.ownBlock = v.ownBlock ∨ v'.ownBlock = some w.heap.size) → K (a.put o.dst v') w') :
    if Region.wanted o (yielded ops a.tmps) = true then Oper.wp P o a w K Q else E := by
  have hw : Region.wanted o (yielded ops a.tmps) = true := by simp [Region.wanted, hgd]
  rw [if_pos hw]
  obtain ⟨v', w', hr, h2, h3, _, h5⟩ := run_append_own_at (P := P) w base t o.type e i z size bytes ht hi hz hsize hby hzs hsz v n xs hown ad m c news hl hnews h1 h63 hbytes hbase
  unfold Oper.wp execOp
  simp only [ho, resolve, invoke, builtin, Sem.run_bind, Sem.run_pure, Result.andThen_ok, List.map_toArray, List.map_cons, List.map_nil, hs, hx, hr]
  exact h v' w' h2 h3 h5
end
end Go.Proofs.Ytfppddnfdinipaa
end
section
namespace Go.Proofs.Ytfppddnfdinipaa
open Go Go.RowKit
section
variable {P : Program} {w : World} {ops : Array Oper} {rest : List Oper} {o : Oper} {a : Act} {Q : Exit → Act → World → Prop}
/-- the new row lies in the old one's place, or is another one -/
def Grew (w w' : World) (v v' : Value) (n m : Nat) : Prop :=
  (∃ g cap, v = .slice (some ⟨g, 0, none⟩) n cap ∧ v' = .slice (some ⟨g, 0, none⟩) (n + m) cap) ∨ (v'.ownBlock = some w.heap.size ∧ Below w.heap.size w w')
theorem run_app2 (base : Nat) (t ty e : TypeId) (i : TypeInfo) (z : Value) (bytes : Nat) (ht : P.underlying t = some (.slice e)) (hi : P.info? e = some i) (hz : i.zero = some z)
    (hsize : i.size = 1) (hby : i.bytes = bytes) (hzs : z.cells.size = 1) (v : Value) (n : Nat) (xs : List Value) (hown : w.ownsRow base e 1 v n xs)
    (A : Option Addr) (m c : Nat) (news : List Value) (hs : Src w A m c news) (hm : 0 < m) (h63 : n + m ≤ maxLen) (hbytes : (n + m) * bytes ≤ 140737488355328) (hbase : base ≤ w.heap.size) :
    ∃ v' w', (Builtin.append_ #[t, t] ty #[v, .slice A m c]).run P w = .ok v' w' ∧ w'.ownsRow base e 1 v' (n + m) (xs ++ news) ∧ w.grownBy w' v.ownBlock ∧ Grew w w' v v' n m := by
  obtain ⟨v', w', hr, h2, h3, _, _⟩ := run_app base t ty e i z bytes ht hi hz hsize hby hzs v n xs hown A m c news hs h63 hbytes hbase
  refine ⟨v', w', hr, h2, h3, ?_⟩
  rcases A with _ | ad
  · have := (hs.none_ rfl).1; omega
  have hsmall : n + m ≤ 9223372036854775807 := by simp only [maxLen] at h63; omega
  have hl : news.length = m * i.size := by rw [hs.len, hsize]; omega
  have hxl : xs.length = n * i.size := by rw [hsize]; exact hown.1
  rcases owned_form hown with ⟨rfl, rfl, rfl⟩ | ⟨g, cap, cur, rfl, hbg, hnc, hcm, hg, hcs, htake, _⟩
  · have h := run_append_nil (P := P) w t ty e i z ht hi hz ad m c news hl (hs.cells ad rfl) hm (by omega) (by rw [hby]; have hb := hbytes; simp only [Nat.zero_add] at hb; omega)
    rw [hr] at h
    injection h with h4 h5
    subst h4 h5
    exact .inr ⟨rfl, ((Below.refl _ _).drew).alloc (Nat.le_refl _) _⟩
  · by_cases hroom : n + m ≤ cap
    · have h := run_append_room (P := P) w t ty e i ht hi g n cap cur hg ad m c news hl (hs.cells ad rfl) hs.one hroom (by rw [hs.len, hsize, hcs]; omega)
      rw [hr] at h
      injection h with h4 h5
      subst h4
      exact .inl ⟨g, cap, rfl, rfl⟩
    · have holds : ∀ j u, xs[j]? = some u → w.cell? ((⟨g, 0, none⟩ : Addr).add j) = some u := hown.cells (g := g) rfl
      have h := run_append_grow (P := P) w t ty e i z ht hi hz ⟨g, 0, none⟩ n cap xs hxl holds ad m c news hl (hs.cells ad rfl) (by omega) (by omega) (growslice_fits (by omega) (by rw [hby]; exact hbytes))
      rw [hr] at h
      injection h with h4 h5
      subst h4 h5
      exact .inr ⟨rfl, ((Below.refl _ _).drew).alloc (Nat.le_refl _) _⟩
theorem wpList_app2 (hgd : o.guard = none) (s x : Operand) (t : TypeId)
    (ho : o.op = .call { callee := .builtin .append, args := #[s, x], argTypes := #[t, t] })
    (base : Nat) (e : TypeId) (i : TypeInfo) (z : Value) (bytes : Nat) (ht : P.underlying t = some (.slice e)) (hi : P.info? e = some i) (hz : i.zero = some z)
    (hsize : i.size = 1) (hby : i.bytes = bytes) (hzs : z.cells.size = 1) (v : Value) (n : Nat) (xs : List Value) (hown : w.ownsRow base e 1 v n xs)
    (A : Option Addr) (m c : Nat) (news : List Value) (hsrc : Src w A m c news) (hm : 0 < m) (h63 : n + m ≤ maxLen) (hbytes : (n + m) * bytes ≤ 140737488355328) (hbase : base ≤ w.heap.size)
    (hs : a.eval s = v) (hx : a.eval x = .slice A m c)
    (h : ∀ v' w', w'.ownsRow base e 1 v' (n + m) (xs ++ news) → w.grownBy w' v.ownBlock → Grew w w' v v' n m → wpList P ops Q rest (a.put o.dst v') w') :
    wpList P ops Q (o :: rest) a w := by
  refine wpList_plain hgd fun K hK => ?_
  obtain ⟨v', w', hr, h2, h3, h4⟩ := run_app2 (P := P) (w := w) base t o.type e i z bytes ht hi hz hsize hby hzs v n xs hown A m c news hsrc hm h63 hbytes hbase
  unfold Oper.wp execOp
  simp only [ho, resolve, invoke, builtin, Sem.run_bind, Sem.run_pure, Result.andThen_ok, List.map_toArray, List.map_cons, List.map_nil, hs, hx, hr]
  exact hK _ _ (h v' w' h2 h3 h4)
end
/-- a shorter row in the same place -/
theorem own_cut {w : World} {base e g n cap k : Nat} {xs : List Value} (h : w.ownsRow base e 1 (.slice (some ⟨g, 0, none⟩) n cap) n xs) (hk : k ≤ n) : w.ownsRow base e 1 (.slice (some ⟨g, 0, none⟩) k cap) k (xs.take k) := by
  obtain ⟨hl, h⟩ := h
  rcases h with ⟨h, _⟩ | ⟨g', cap', cur, h, hb, hh, hn, hc, hs, ht⟩
  · cases h
  · injection h with e1 e2 e3
    injection e1 with e1
    injection e1 with e1
    subst e1 e3
    refine ⟨by rw [List.length_take]; omega, .inr ⟨g, cap, cur, rfl, hb, hh, by omega, hc, hs, ?_⟩⟩
    rw [← ht, List.take_take]
    congr 1
    omega
/-- a cell of the row is written -/
theorem own_set {w : World} {base e g n cap i : Nat} {xs : List Value} {u : Value} (h : w.ownsRow base e 1 (.slice (some ⟨g, 0, none⟩) n cap) n xs) : (w.setCell ⟨g, i, none⟩ u).ownsRow base e 1 (.slice (some ⟨g, 0, none⟩) n cap) n (xs.set i u) := by
  obtain ⟨hl, h⟩ := h
  rcases h with ⟨h, _⟩ | ⟨g', cap', cur, h, hb, hh, hn, hc, hs, ht⟩
  · cases h
  · injection h with e1 e2 e3
    injection e1 with e1
    injection e1 with e1
    subst e1 e3
    refine ⟨by rw [List.length_set]; exact hl, .inr ⟨g, cap, cur.setIfInBounds i u, rfl, hb, Blk.set_ hh i u, hn, hc, by rw [Array.size_setIfInBounds]; exact hs, ?_⟩⟩
    rw [Array.toList_setIfInBounds, List.take_set, ht]
/-- the place of a row that isn't empty -/
theorem own_place {w : World} {base n : Nat} {e : TypeId} {v : Value} {xs : List Value} (h : w.ownsRow base e 1 v n xs) (hn : 0 < n) : ∃ g cap, v = .slice (some ⟨g, 0, none⟩) n cap ∧ v.ownBlock = some g := by
  rcases owned_form h with ⟨_, h0, _⟩ | ⟨g, cap, cur, rfl, _⟩
  · omega
  · exact ⟨g, cap, rfl, rfl⟩
theorem own_cell {w : World} {base g n cap : Nat} {e : TypeId} {xs : List Value} (h : w.ownsRow base e 1 (.slice (some ⟨g, 0, none⟩) n cap) n xs) (j : Nat) (hj : j < n) : w.cell? ⟨g, j, none⟩ = xs[j]? ∧ w.frozen? ⟨g, j, none⟩ = false := by
  rcases owned_form h with ⟨h0, _⟩ | ⟨g', cap', cur, h0, _, _, _, hb, _, ht, _⟩
  · cases h0
  · injection h0 with e1 e2 e3
    injection e1 with e1
    injection e1 with e1
    subst e1 e3
    refine ⟨?_, hb.frozen j⟩
    rw [hb.cell, ← Array.getElem?_toList, ← ht, List.getElem?_take_of_lt hj]
end Go.Proofs.Ytfppddnfdinipaa
end
