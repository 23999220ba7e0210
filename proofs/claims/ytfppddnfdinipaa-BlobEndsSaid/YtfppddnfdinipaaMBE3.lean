/- A region that leaves its order open, whose head reads, calls what only makes new memory, and makes blocks of its own: whatever order is taken, each made thing is as its own predicate says. ONE walk in the text's order serves; what stands behind the head is one forced tail.
   The slots of made things (F) hold 'undef' on the walk; where an operation looks at such a slot it is shown for whatever value meets the slot's predicate. The region law of FreshTail for made things of any sorts: slot by slot a list of predicates. Arrays of bytes against one another. Single operations, run: for the region laws. spencekit: lists that are lent, with marks behind them. package dev: a device's block; the small walks. package dev: a device is made; its fuse, its crash, what there is to say of it. package dev: what there is to say of a device. package dev: a write. package dev: a device, plain; a write, whatever comes of it. rows of arrays; cells in the middle of a block. -/
import Derived.Test.YtfppddnfdinipaaMBE1
import Derived.Below
import Derived.Stop.BytesEq
import Derived.OwnWalk
import Derived.Laws.AppendOwnNone
import Derived.BigQuiet
import Derived.Test.YtfppddnfdinipaaMBE2
import Derived.ChangeSlices
section
namespace Go.Proofs.Ytfppddnfdinipaa
open Go Go.RowKit

/-- all that was there is as it was -/
def Ext (w w' : World) : Prop := Below w.heap.size w w'
theorem Ext.refl (w : World) : Ext w w := Below.refl _ _
theorem Ext.trans {a b c : World} (h : Ext a b) (k : Ext b c) : Ext a c := Below.trans h (Below.mono k h.size)
theorem Ext.drew (w : World) : Ext w w.drew := (Below.refl _ _).drew
theorem Ext.alloc (w : World) (o : Obj) : Ext w (w.alloc o) := (Below.refl _ _).alloc (Nat.le_refl _) o

/-- what is made, slot by slot -/
abbrev Made := Tmp → Option (Value → World → Prop)

section
variable {P : Program} {ops : Array Oper} {md : Region.Mode} {F : Made} {w0 : World}

/-- what a made thing is stays so -/
def stays (F : Made) : Prop := ∀ t V, F t = some V → ∀ u w w', V u w → Ext w w' → V u w'

/-- an operation hands on one value -/
def quietTo (P : Program) (v : Value) (w : World) : Result Next → Prop
  | .ok (.value u) w' => w' = w ∧ u = v
  | .ok .skip w' => w' = w ∧ v = undef
  | .ok (.enter f args) w' => w' = w ∧ Calls P f args w (fun e w'' => e = .returned v ∧ Ext w w'')
  | _ => False
/-- a value is none of the made ones -/
def newTo (F : Made) (w : World) (u : Value) : Prop := ∀ t V u', F t = some V → V u' w → u' ≠ u
/-- an operation makes something -/
def freshTo (P : Program) (F : Made) (V : Value → World → Prop) (w : World) : Result Next → Prop
  | .ok (.value u) w' => Ext w w' ∧ V u w' ∧ newTo F w u
  | .ok (.enter f args) w' => w' = w ∧ Calls P f args w (fun e w'' => ∃ u, e = .returned u ∧ Ext w w'' ∧ V u w'' ∧ newTo F w u)
  | _ => False
/-- the one or the other -/
def makesTo (P : Program) (F : Made) (V? : Option (Value → World → Prop)) (v : Value) (w : World) (r : Result Next) : Prop :=
  match V? with
  | some V => v = undef ∧ freshTo P F V w r
  | none => quietTo P v w r

/-- frames that are one but for made slots -/
def Same (F : Made) (a b : Act) : Prop := a.defers = b.defers ∧ a.tmps.size = b.tmps.size ∧ ∀ t, F t = none → a.tmps[t]? = b.tmps[t]?

/-- the made slots that are looked at hold what they should -/
def Holds (F : Made) (l : List Tmp) (b : Act) (w : World) : Prop := ∀ t ∈ l, ∀ V, F t = some V → ∃ u, b.tmps[t]? = some u ∧ V u w

/-- what an operation does in whatever frame that is as 'a' but for made slots, and whose made slots that it looks at hold what they should -/
def Does (P : Program) (ops : Array Oper) (F : Made) (w0 : World) (o : Oper) (v : Value) (a : Act) : Prop :=
  ∀ b w, Ext w0 w → Same F b a → Holds F (o.looksAt ops) b w →
    (Region.wanted o (yielded ops b.tmps) = true → makesTo P F (o.dst.bind F) v w ((execOp b.eval o).run P w)) ∧
    (Region.wanted o (yielded ops b.tmps) = false → v = undef ∧ o.dst.bind F = none)

theorem tmps_put (a : Act) (d : Tmp) (x : Value) (t : Tmp) (h : t ≠ d) : (a.put (some d) x).tmps[t]? = a.tmps[t]? := by
  simp only [Act.put]
  rw [Array.getElem?_setIfInBounds_ne (Ne.symm h)]
theorem size_put (a : Act) (dst : Option Tmp) (x : Value) : (a.put dst x).tmps.size = a.tmps.size := by cases dst <;> simp [Act.put]
theorem defers_put (a : Act) (dst : Option Tmp) (x : Value) : (a.put dst x).defers = a.defers := by cases dst <;> rfl
theorem tmps_put_at (a : Act) (d : Tmp) (x : Value) : (a.put (some d) x).tmps[d]? = if d < a.tmps.size then some x else none := by
  simp only [Act.put, Array.getElem?_setIfInBounds, if_true]
theorem Same.put {a b : Act} (h : Same F a b) (dst : Option Tmp) (x : Value) : Same F (a.put dst x) (b.put dst x) := by
  refine ⟨by rw [defers_put, defers_put, h.1], by rw [size_put, size_put, h.2.1], fun t ht => ?_⟩
  cases dst with
  | none => exact h.2.2 t ht
  | some d =>
    by_cases e : t = d
    · subst e
      rw [tmps_put_at, tmps_put_at, h.2.1]
    · rw [tmps_put _ _ _ _ e, tmps_put _ _ _ _ e]
      exact h.2.2 t ht

theorem Holds.put {l : List Tmp} {b : Act} {w : World} (dst : Option Tmp) (x : Value) (hl : ∀ d, dst = some d → d ∉ l) : Holds F l (b.put dst x) w ↔ Holds F l b w := by
  unfold Holds
  constructor
  · intro h t ht V hV
    obtain ⟨u, hu, hv⟩ := h t ht V hV
    refine ⟨u, ?_, hv⟩
    cases dst with
    | none => exact hu
    | some d => rwa [tmps_put _ _ _ _ (fun e => hl d rfl (by rw [← e]; exact ht))] at hu
  · intro h t ht V hV
    obtain ⟨u, hu, hv⟩ := h t ht V hV
    refine ⟨u, ?_, hv⟩
    cases dst with
    | none => exact hu
    | some d => rw [tmps_put _ _ _ _ (fun e => hl d rfl (by rw [← e]; exact ht))]; exact hu

/-- another slot makes no difference -/
theorem Does.of_put {o : Oper} (hs : ∀ cs b, o.op ≠ .select cs b) {v : Value} {a : Act} {dst : Option Tmp} {x : Value} (hd : ∀ d, dst = some d → d ∉ o.looksAt ops) (h : Does P ops F w0 o v (a.put dst x)) : Does P ops F w0 o v a := by
  intro b w hw hb hh
  have h2 := h (b.put dst x) w hw (hb.put dst x) ((Holds.put dst x hd).2 hh)
  rwa [wanted_put o b dst x hd, execOp_put o hs b dst x hd] at h2
theorem Does.put {o : Oper} (hs : ∀ cs b, o.op ≠ .select cs b) {v : Value} {a : Act} {dst : Option Tmp} {x : Value} (hd : ∀ d, dst = some d → d ∉ o.looksAt ops) (h : Does P ops F w0 o v a) : Does P ops F w0 o v (a.put dst x) := by
  cases dst with
  | none => exact h
  | some d =>
    intro b w hw hb hh
    have hsame : Same F (b.put (some d) (a.tmps.getD d undef)) a := by
      refine ⟨by rw [defers_put, hb.1, defers_put], by rw [size_put, hb.2.1, size_put], fun t ht => ?_⟩
      by_cases e : t = d
      · subst e
        rw [tmps_put_at, hb.2.1, size_put]
        split
        · rename_i hlt; simp [hlt]
        · rename_i hlt; rw [Array.getElem?_eq_none (Nat.le_of_not_lt hlt)]
      · rw [tmps_put _ _ _ _ e, hb.2.2 t ht, tmps_put _ _ _ _ e]
    have h2 := h (b.put (some d) (a.tmps.getD d undef)) w hw hsame ((Holds.put (some d) _ hd).2 hh)
    rwa [wanted_put o b (some d) _ hd, execOp_put o hs b (some d) _ hd] at h2

def absOp (P : Program) (ops : Array Oper) (F : Made) (w0 : World) (i : Nat) (K : Act → Prop) (a : Act) : Prop :=
  match ops[i]? with
  | none => K a
  | some o => ∃ v, Does P ops F w0 o v a ∧ K (a.put o.dst v)
theorem absOp_mono {i : Nat} {a : Act} {K K' : Act → Prop} (h : ∀ a, K a → K' a) (hh : absOp P ops F w0 i K a) : absOp P ops F w0 i K' a := by
  unfold absOp at *
  cases ho : ops[i]? with
  | none => simp only [ho] at hh; exact h _ hh
  | some o =>
    simp only [ho] at hh
    obtain ⟨v, h1, h2⟩ := hh
    exact ⟨v, h1, h _ h2⟩

theorem absOp_put {j : Nat} {oi oj : Oper} {v : Value} (hj : ops[j]? = some oj) (hap : oi.apart ops oj = true)
    (hsi : ∀ cs b, oi.op ≠ .select cs b) (hsj : ∀ cs b, oj.op ≠ .select cs b) {K : Act → Prop} {a : Act}
    (hy : Does P ops F w0 oi v a) (h : absOp P ops F w0 j K (a.put oi.dst v)) :
    absOp P ops F w0 j (fun a' => Does P ops F w0 oi v a' ∧ K (a'.put oi.dst v)) a := by
  obtain ⟨h1, h2, h3⟩ := Oper.apart_spec hap
  unfold absOp at *
  simp only [hj] at *
  obtain ⟨u, hu, hk⟩ := h
  exact ⟨u, hu.of_put hsj h1, hy.put hsi h3, by rw [← Act.put_comm a v u h2]; exact hk⟩

/-- whatever order the head is taken in, L holds when it is done -/
def headF (P : Program) (md : Region.Mode) (ops : Array Oper) (F : Made) (w0 : World) (n : Nat) (L : Array Bool → Act → Prop) : Nat → Array Bool → Act → Prop
  | 0, d, a => L d a
  | f + 1, d, a => Region.ready md ops d ≠ [] ∧ ∀ i ∈ Region.ready md ops d, i < n ∧ absOp P ops F w0 i (headF P md ops F w0 n L f (d.setIfInBounds i true)) a

theorem headF_first {n i : Nat} {oi : Oper} {v : Value} {L : Array Bool → Act → Prop} (hi : ops[i]? = some oi) (hsel : ∀ (j : Nat) (o : Oper) cs b, ops[j]? = some o → o.op ≠ .select cs b)
    (hs : Region.sinkB md ops n = true) (hc : Region.chainB md ops n = true) (hn : n < ops.size) (hin : i < n) (hdone : ∀ d a, L d a → ∀ j ∈ Region.ready md ops d, n ≤ j) (f : Nat) :
    ∀ (d : Array Bool) (a : Act), HeadInv md ops n d →
      (∀ j oj, ops[j]? = some oj → j ≠ i → d.getD j true = false → (∀ e ∈ oj.after, Region.binds md e = true → e.on ≠ i) → oi.apart ops oj = true) →
      i ∈ Region.ready md ops d → Does P ops F w0 oi v a →
      headF P md ops F w0 n L f (d.setIfInBounds i true) (a.put oi.dst v) → headF P md ops F w0 n L (f + 1) d a := by
  have own : ∀ (K : Act → Prop) (a : Act), Does P ops F w0 oi v a → K (a.put oi.dst v) → absOp P ops F w0 i K a := by
    intro K a hy hk
    unfold absOp
    simp only [hi]
    exact ⟨v, hy, hk⟩
  induction f with
  | zero =>
    intro d a inv _ hr hy H
    refine ⟨List.ne_nil_of_mem hr, fun j hj => ?_⟩
    have hjn := headQ_lt hs hc hn inv hin (mem_ready.1 hr).1 hj
    refine ⟨hjn, ?_⟩
    rcases Nat.decEq j i with hji | hji
    · exact absurd (hdone _ _ H j (ready_mono hj hji)) (by omega)
    · subst hji
      exact own _ _ hy H
  | succ f ih =>
    intro d a inv hfree hr hy H
    refine ⟨List.ne_nil_of_mem hr, fun j hj => ?_⟩
    have hjn := headQ_lt hs hc hn inv hin (mem_ready.1 hr).1 hj
    refine ⟨hjn, ?_⟩
    rcases Nat.decEq j i with hji | hji
    · obtain ⟨hjun, oj, hoj, hall⟩ := mem_ready.1 hj
      have hnot : ∀ e ∈ oj.after, Region.binds md e = true → e.on ≠ i := by
        intro e he hb heq
        have h1 := hall e he hb
        rw [heq, getD_both (mem_ready.1 hr).1] at h1
        cases h1
      have hstep := absOp_put hoj (hfree j oj hoj hji hjun hnot) (fun cs b => hsel i oi cs b hi) (fun cs b => hsel j oj cs b hoj) hy (H.2 j (ready_mono hj hji)).2
      refine absOp_mono (fun a' h3 => ih (d.setIfInBounds j true) a' (inv.set hj hjn) ?_ (ready_mono hr (Ne.symm hji)) h3.1 ?_) hstep
      · intro k ok hk hki hunk hno
        refine hfree k ok hk hki ?_ hno
        rcases Nat.decEq j k with hjk | hjk
        · rwa [getD_set_ne true hjk] at hunk
        · subst hjk
          exact hjun
      · rw [Array.setIfInBounds_comm _ _ hji]
        exact h3.2
    · subst hji
      exact own _ _ hy H

/-- the walk in the text's order -/
def wpMade (P : Program) (ops : Array Oper) (F : Made) (w0 : World) (Q : Act → Prop) : List Oper → Act → Prop
  | [], a => Q a
  | o :: rest, a => ∃ v, Does P ops F w0 o v a ∧ wpMade P ops F w0 Q rest (a.put o.dst v)

theorem headF_lex {n g : Nat} {Lq : Act → Prop} (hsel : Region.noSelect ops = true) (hs : Region.sinkB md ops n = true) (hc : Region.chainB md ops n = true) (hn : n < ops.size) :
    ∀ (l : List Oper) (k : Nat) (d : Array Bool) (a : Act), (∀ j, j < l.length → l[j]? = ops[k + j]?) → k + l.length = n → HeadInv md ops n d → (∀ i, i < k → d.getD i false = true) →
    Region.lexHead md ops g l.length k d = true → wpMade P ops F w0 Lq l a →
    headF P md ops F w0 n (fun d' a' => (Region.seqB md ops g n d' = true ∧ ∀ i, i < n → d'.getD i false = true) ∧ Lq a') l.length d a
  | [], k, d, a, _, hk, _, hd, hB, h => by
    obtain rfl : k = n := by simpa using hk
    exact ⟨⟨by simpa [Region.lexHead] using hB, hd⟩, h⟩
  | o :: l, k, d, a, hl, hk, inv, hd, hB, h => by
    have h0 : ops[k]? = some o := by simpa using (hl 0 (by simp)).symm
    simp only [List.length_cons, Region.lexHead, Bool.and_eq_true] at hB
    obtain ⟨⟨hr, hf⟩, hB'⟩ := hB
    have hkn : k < n := by simp only [List.length_cons] at hk; omega
    have hr' : k ∈ Region.ready md ops d := by simpa using hr
    obtain ⟨v, hy, hK⟩ := h
    refine headF_first h0 (Region.noSelect_spec hsel) hs hc hn hkn (fun d' a' hL => seqB_ready hL.1.1) l.length d a inv (Region.free_spec h0 hf) hr' hy ?_
    refine headF_lex hsel hs hc hn l (k + 1) _ _ (fun j hj => ?_) (by simp only [List.length_cons] at hk; omega) (inv.set hr' hkn) (fun i hi => ?_) hB' hK
    · have := hl (j + 1) (by simp; omega)
      simpa [Nat.add_assoc, Nat.add_comm 1 j] using this
    · by_cases e : k = i
      · subst e
        have : k < d.size := by rw [inv.size]; omega
        simp [this]
      · rw [getD_set_ne false e]
        exact hd i (by omega)

/-- made slots that are looked at have been made -/
def madeB (md : Region.Mode) (ops : Array Oper) (keys : List Tmp) (n : Nat) : Bool :=
  (List.range n).all fun j => match ops[j]? with
    | none => true
    | some o => (o.looksAt ops).all fun t => !keys.contains t || (List.range n).any fun i => (ops[i]?).bind (·.dst) == some t && Region.waitsFor md ops j i
/-- all made slots are made by the head -/
def allMadeB (ops : Array Oper) (keys : List Tmp) (n : Nat) : Bool := keys.all fun t => (List.range n).any fun i => (ops[i]?).bind (·.dst) == some t

def Sim (ops : Array Oper) (F : Made) (w0 : World) (d : Array Bool) (a b : Act) (w : World) : Prop :=
  Ext w0 w ∧ Same F b a ∧ ∀ i o t V, ops[i]? = some o → d.getD i false = true → o.dst = some t → F t = some V → (∃ u, b.tmps[t]? = some u ∧ V u w) ∧
    ∀ i' o' t' V', ops[i']? = some o' → d.getD i' false = true → o'.dst = some t' → F t' = some V' → t ≠ t' → b.tmps[t]? ≠ b.tmps[t']?

theorem any_of_headF {n g : Nat} {keys : List Tmp} (hF : stays F) (hkeys : ∀ t V, F t = some V → t ∈ keys) (hmade : madeB md ops keys n = true) (hsz : ∀ t ∈ keys, ∀ a : Act, ∀ b : Act, Same F b a → True)
    {L : Array Bool → Act → Prop} {Q' : Exit → Act → World → Prop} {size : Nat} (hrange : ∀ t V, F t = some V → t < size)
    (hL : ∀ d a b w, b.tmps.size = size → Sim ops F w0 d a b w → L d a → wpAny P md ops Q' g d b w) :
    ∀ (f : Nat) (d : Array Bool) (a b : Act) (w : World), b.tmps.size = size → HeadInv md ops n d → Sim ops F w0 d a b w → headF P md ops F w0 n L f d a → wpAny P md ops Q' (f + g) d b w
  | 0, d, a, b, w, hb, _, hs, h => by
    rw [Nat.zero_add]
    exact hL _ _ _ _ hb hs h
  | f + 1, d, a, b, w, hb, inv, hs, h => by
    rw [Nat.add_right_comm]
    refine ⟨fun he => absurd he h.1, fun i hi => ?_⟩
    obtain ⟨hin, hop⟩ := h.2 i hi
    obtain ⟨hun, oi, hoi, hall⟩ := mem_ready.1 hi
    obtain ⟨hw, hsame, hV⟩ := hs
    unfold absOp at hop
    simp only [hoi] at hop
    obtain ⟨v, hdo, hk⟩ := hop
    -- the made slots that it looks at
    have hhold : Holds F (oi.looksAt ops) b w := by
      intro t ht V hFt
      have h1 := List.all_eq_true.1 hmade i (List.mem_range.2 hin)
      simp only [hoi] at h1
      have h2 := List.all_eq_true.1 h1 t ht
      have hk2 : keys.contains t = true := by simpa using hkeys t V hFt
      simp only [hk2, Bool.not_true, Bool.false_or] at h2
      obtain ⟨j, _, hj2⟩ := List.any_eq_true.1 h2
      simp only [Bool.and_eq_true, beq_iff_eq] at hj2
      obtain ⟨hj3, hj4⟩ := hj2
      obtain ⟨oi', hoi', e, he, hbd, hon⟩ := Region.waitsFor_spec hj4
      obtain rfl : oi' = oi := Option.some.inj (hoi'.symm.trans hoi)
      cases hoj : ops[j]? with
      | none => simp [hoj] at hj3
      | some oj =>
        have hdst : oj.dst = some t := by simpa [hoj] using hj3
        exact (hV j oj t V hoj (by have := hall e he hbd; rwa [hon] at this) hdst hFt).1
    obtain ⟨hyes, hno⟩ := hdo b w hw hsame hhold
    -- the next state
    have next : ∀ (x : Value) (w' : World), Ext w w' → (∀ t V, oi.dst = some t → F t = some V → V x w' ∧ newTo F w x) → (oi.dst.bind F = none → x = v) →
        wpAny P md ops Q' (f + g) (d.setIfInBounds i true) (b.put oi.dst x) w' := by
      intro x w' hx hVx hxv
      refine any_of_headF hF hkeys hmade hsz hrange hL f _ (a.put oi.dst v) _ w' (by rw [size_put]; exact hb) (inv.set hi hin) ⟨hw.trans hx, ?_, ?_⟩ hk
      · refine ⟨by rw [defers_put, defers_put, hsame.1], by rw [size_put, size_put, hsame.2.1], fun t ht => ?_⟩
        cases hd : oi.dst with
        | none => exact hsame.2.2 t ht
        | some dd =>
          by_cases e : t = dd
          · subst e
            rw [hxv (by simp [hd, ht]), tmps_put_at, tmps_put_at, hsame.2.1]
          · rw [tmps_put _ _ _ _ e, tmps_put _ _ _ _ e]
            exact hsame.2.2 t ht
      · -- what stands in a slot of the next frame
        have at_new : ∀ t V, oi.dst = some t → F t = some V → (b.put oi.dst x).tmps[t]? = some x := by
          intro t V e hFt
          rw [e, tmps_put_at, if_pos (by rw [hb]; exact hrange t V hFt)]
        have at_old : ∀ t, oi.dst ≠ some t → (b.put oi.dst x).tmps[t]? = b.tmps[t]? := by
          intro t e
          cases hd : oi.dst with
          | none => rfl
          | some dd => exact tmps_put _ _ _ _ (fun e3 => e (by rw [hd, e3]))
        have was : ∀ j oj t V, ops[j]? = some oj → (d.setIfInBounds i true).getD j false = true → oj.dst = some t → F t = some V → oi.dst ≠ some t → d.getD j false = true := by
          intro j oj t V hoj hlj hdj hFt e
          have hji : j ≠ i := by
            intro e2
            subst e2
            obtain rfl : oj = oi := Option.some.inj (hoj.symm.trans hoi)
            exact e hdj
          rwa [getD_set_ne false (Ne.symm hji)] at hlj
        intro j oj t V hoj hlj hdj hFt
        constructor
        · by_cases e : oi.dst = some t
          · exact ⟨x, at_new t V e hFt, (hVx t V e hFt).1⟩
          · obtain ⟨u, hu, hVu⟩ := (hV j oj t V hoj (was j oj t V hoj hlj hdj hFt e) hdj hFt).1
            exact ⟨u, by rw [at_old t e]; exact hu, hF t V hFt u w w' hVu hx⟩
        · intro j' oj' t' V' hoj' hlj' hdj' hFt' hne
          by_cases e : oi.dst = some t
          · have e' : oi.dst ≠ some t' := by rw [e]; intro h; exact hne (Option.some.inj h)
            obtain ⟨u, hu, hVu⟩ := (hV j' oj' t' V' hoj' (was j' oj' t' V' hoj' hlj' hdj' hFt' e') hdj' hFt').1
            rw [at_new t V e hFt, at_old t' e', hu]
            intro h
            exact (hVx t V e hFt).2 t' V' u hFt' hVu (Option.some.inj h).symm
          · by_cases e' : oi.dst = some t'
            · obtain ⟨u, hu, hVu⟩ := (hV j oj t V hoj (was j oj t V hoj hlj hdj hFt e) hdj hFt).1
              rw [at_new t' V' e' hFt', at_old t e, hu]
              intro h
              exact (hVx t' V' e' hFt').2 t V u hFt hVu (Option.some.inj h)
            · rw [at_old t e, at_old t' e']
              exact (hV j oj t V hoj (was j oj t V hoj hlj hdj hFt e) hdj hFt).2 j' oj' t' V' hoj' (was j' oj' t' V' hoj' hlj' hdj' hFt' e') hdj' hFt' hne
    unfold wpOp
    simp only [hoi]
    by_cases hwt : Region.wanted oi (yielded ops b.tmps) = true
    · rw [if_pos hwt]
      refine .inl ?_
      have hm := hyes hwt
      unfold Oper.wp
      generalize (execOp b.eval oi).run P w = r at hm
      cases hbind : oi.dst.bind F with
      | none =>
        simp only [makesTo, hbind] at hm
        have hVx : ∀ (x : Value) (w' : World) t V, oi.dst = some t → F t = some V → V x w' ∧ newTo F w x := by
          intro x w' t V h1 h2
          simp [h1, h2] at hbind
        cases r with
        | halt x w' => exact hm.elim
        | ok nx w' =>
          cases nx <;> simp only [quietTo] at hm
          case value u =>
            obtain ⟨rfl, rfl⟩ := hm
            exact next _ _ (Ext.refl _) (hVx _ _) (fun _ => rfl)
          case skip =>
            obtain ⟨rfl, rfl⟩ := hm
            exact next _ _ (Ext.refl _) (hVx _ _) (fun _ => rfl)
          case enter fn args =>
            obtain ⟨rfl, hcall⟩ := hm
            refine hcall.mono ?_
            rintro e w'' ⟨rfl, hx⟩
            exact next _ _ hx (hVx _ _) (fun _ => rfl)
      | some V =>
        simp only [makesTo, hbind] at hm
        obtain ⟨_, hm⟩ := hm
        have hnone : oi.dst.bind F = none → ∀ x : Value, x = v := fun h => by rw [hbind] at h; cases h
        have hVx : ∀ (x : Value) (w' : World), V x w' ∧ newTo F w x → ∀ t V', oi.dst = some t → F t = some V' → V' x w' ∧ newTo F w x := by
          intro x w' hx t V' h1 h2
          simp only [h1, Option.bind_some, h2, Option.some.injEq] at hbind
          rw [hbind]; exact hx
        cases r with
        | halt x w' => exact hm.elim
        | ok nx w' =>
          cases nx <;> simp only [freshTo] at hm
          case value u => exact next _ _ hm.1 (hVx _ _ hm.2) (fun h => hnone h _)
          case enter fn args =>
            obtain ⟨rfl, hcall⟩ := hm
            refine hcall.mono ?_
            rintro e w'' ⟨u, rfl, hx, hVu⟩
            exact next _ _ hx (hVx _ _ hVu) (fun h => hnone h _)
    · rw [if_neg hwt]
      have h3 := hno (by simpa using hwt)
      refine next _ _ (Ext.refl _) ?_ (fun _ => h3.1.symm)
      intro t V h1 h2
      have h4 := h3.2
      simp [h1, h2] at h4

/-- THE LAW. -/
theorem wp_made_tail {id : Nat} {Q : Exit → Act → World → Prop} {a : Act} {w : World} {l : List Oper} (n : Nat) (keys : List Tmp) (F : Made) (hm : P.follows .mixedOrders = true)
    (hB : (Region.lexTailB .any l.toArray n && madeB .any l.toArray keys n && allMadeB l.toArray keys n) = true) (hkeys : ∀ t V, F t = some V → t ∈ keys) (hF : stays F) (hrange : ∀ t ∈ keys, t < a.tmps.size)
    (h : wpMade P l.toArray F w (fun a' => ∀ b w', Ext w w' → Same F b a' → (∀ t V, F t = some V → (∃ u, b.tmps[t]? = some u ∧ V u w') ∧ ∀ t' V', F t' = some V' → t ≠ t' → b.tmps[t]? ≠ b.tmps[t']?) → wpList P l.toArray Q (l.drop n) b w') (l.take n) a) :
    (Code.region id l.toArray true).wp P Q a w := by
  simp only [Bool.and_eq_true] at hB
  obtain ⟨⟨hB, hmade⟩, hallm⟩ := hB
  simp only [Region.lexTailB, Bool.and_eq_true, decide_eq_true_eq] at hB
  obtain ⟨⟨⟨⟨hsel, hn⟩, hs⟩, hc⟩, hlex⟩ := hB
  have hn' : n < l.length := by simpa using hn
  have htl : (l.take n).length = n := by simp; omega
  have hdl : (l.drop n).length = l.toArray.size - n := by simp
  have inv0 : HeadInv .any l.toArray n (Array.replicate l.toArray.size false) :=
    ⟨by simp, fun j oj _ hl => (by rw [getD_replicate_false] at hl; cases hl), fun t _ ht => getD_in (by simpa using ht) (getD_replicate_false _ _)⟩
  have H := headF_lex (md := .any) (g := l.toArray.size - n) hsel hs hc hn (l.take n) 0 _ a (fun j hj => by
    have hj' : j < n := by rw [htl] at hj; exact hj
    simp [hj']) (by simpa using htl) inv0 (fun i hi => absurd hi (Nat.not_lt_zero _)) (by rw [htl]; exact hlex) h
  refine wp_region_any hm ?_
  have hfin := any_of_headF (Q' := Q) (g := l.toArray.size - n) (size := a.tmps.size) hF hkeys hmade (fun _ _ _ _ _ => trivial) (fun t V h => hrange t (hkeys t V h)) (fun d a' b w' _ hsim hL => by
    have mk : ∀ t V, F t = some V → ∃ i oi, l.toArray[i]? = some oi ∧ d.getD i false = true ∧ oi.dst = some t := by
      intro t V hFt
      have h5 := List.all_eq_true.1 hallm t (hkeys t V hFt)
      obtain ⟨i, hi, hi2⟩ := List.any_eq_true.1 h5
      simp only [beq_iff_eq] at hi2
      cases hoi : l.toArray[i]? with
      | none => simp [hoi] at hi2
      | some oi => exact ⟨i, oi, hoi, hL.1.2 i (List.mem_range.1 hi), by simpa [hoi] using hi2⟩
    have h2 := hL.2 b w' hsim.1 hsim.2.1 (fun t V hFt => by
      obtain ⟨i, oi, hoi, hdn, hdst⟩ := mk t V hFt
      have h6 := hsim.2.2 i oi t V hoi hdn hdst hFt
      refine ⟨h6.1, fun t' V' hFt' hne => ?_⟩
      obtain ⟨i', oi', hoi', hdn', hdst'⟩ := mk t' V' hFt'
      exact h6.2 i' oi' t' V' hoi' hdn' hdst' hFt' hne)
    have h4 := wpAny_of_seq (md := .any) (Q' := Q) (l.drop n) n d b w' (fun j => by simp [List.getElem?_drop]) (by rw [hdl]; exact hL.1.1) h2
    rwa [hdl] at h4) _ _ a a w.drew rfl inv0 ⟨Ext.drew w, ⟨rfl, rfl, fun _ _ => rfl⟩, fun i o t V _ hd => by rw [getD_replicate_false] at hd; cases hd⟩ H
  rw [htl, show n + (l.toArray.size - n) = l.toArray.size by omega] at hfin
  exact hfin

/- FOR THE WALK -/
theorem Same.fix {a b : Act} {t : Tmp} {u : Value} (h : Same F b a) (hu : b.tmps[t]? = some u) : Same (fun s => if s = t then none else F s) b (a.put (some t) u) := by
  have ht : t < b.tmps.size := by
    rcases Nat.lt_or_ge t b.tmps.size with h | h
    · exact h
    · rw [Array.getElem?_eq_none h] at hu; cases hu
  refine ⟨by rw [defers_put]; exact h.1, by rw [size_put]; exact h.2.1, fun s hs => ?_⟩
  by_cases e : s = t
  · subst e
    rw [tmps_put_at, if_pos (by rw [← h.2.1]; exact ht), hu]
  · rw [tmps_put _ _ _ _ e]
    exact h.2.2 s (by simpa [e] using hs)
theorem Same.eq {a b : Act} (h : Same F b a) (hF : ∀ s, F s = none) : b = a := by
  obtain ⟨bt, bd⟩ := b
  obtain ⟨at', ad⟩ := a
  obtain ⟨h1, _, h3⟩ := h
  have h4 : bt = at' := Array.ext_getElem? fun i => h3 i (hF i)
  cases h1; cases h4; rfl
theorem Same.eval {a b : Act} (h : Same F b a) {x : Operand} (hx : ∀ t, x = .tmp t → F t = none) : b.eval x = a.eval x := by
  cases x with
  | tmp t =>
    have h1 := h.2.2 t (hx t rfl)
    show b.tmps.getD t undef = a.tmps.getD t undef
    rw [Array.getD_eq_getD_getElem?, Array.getD_eq_getD_getElem?, h1]
  | _ => rfl
theorem does_of {o : Oper} {v : Value} {a : Act} (hs : ∀ cs b, o.op ≠ .select cs b) (hg : o.guard = none) (hl : ∀ x ∈ o.op.operands, ∀ t, x = .tmp t → F t = none)
    (h : ∀ w, Ext w0 w → makesTo P F (o.dst.bind F) v w ((execOp a.eval o).run P w)) : Does P ops F w0 o v a := by
  intro b w hw hb _
  have e : execOp b.eval o = execOp a.eval o := execOp_congr o hs fun x hx => hb.eval (hl x hx)
  have hwt : Region.wanted o (yielded ops b.tmps) = true := by unfold Region.wanted; rw [hg]
  rw [e]
  exact ⟨fun _ => h w hw, fun h2 => by rw [hwt] at h2; cases h2⟩
end
end Go.Proofs.Ytfppddnfdinipaa
end
section
namespace Go.Proofs.Ytfppddnfdinipaa
open Go Go.RowKit
/-- the block that a value begins in -/
def blkOf : Value → Option Nat
  | .pointer (some a) => some a.block
  | .slice (some a) _ _ => some a.block
  | _ => none
/-- slot by slot, what a made thing is -/
abbrev MadeL := List (Tmp × (Value → World → Prop))
def madeBy (L : MadeL) : Made := fun t => (L.find? (fun p => p.1 == t)).map (·.2)
/-- what is made stays so, and lies somewhere -/
structure MadeOk (V : Value → World → Prop) : Prop where
  stays : ∀ u w w', V u w → Ext w w' → V u w'
  there : ∀ u w, V u w → ∃ r, blkOf u = some r ∧ r < w.heap.size
theorem madeBy_mem {L : MadeL} {t : Tmp} {V : Value → World → Prop} (h : madeBy L t = some V) : (t, V) ∈ L := by
  unfold madeBy at h
  cases hf : L.find? (fun p => p.1 == t) with
  | none => rw [hf] at h; cases h
  | some p =>
    rw [hf] at h
    obtain rfl := Option.some.inj h
    have h1 := List.mem_of_find?_eq_some hf
    have h2 := List.find?_some hf
    simp only [beq_iff_eq] at h2
    obtain ⟨a, b⟩ := p
    subst h2
    exact h1
theorem madeBy_cons (t : Tmp) (V : Value → World → Prop) (L : MadeL) (s : Tmp) : madeBy ((t, V) :: L) s = if t = s then some V else madeBy L s := by
  unfold madeBy
  by_cases h : t = s
  · simp [h]
  · simp [h]
theorem madeBy_look : ∀ {L : MadeL} {t : Tmp} {V : Value → World → Prop}, (L.map (·.1)).Nodup → (t, V) ∈ L → madeBy L t = some V
  | [], _, _, _, hm => by cases hm
  | (t', V') :: L, t, V, hn, hm => by
    simp only [List.map_cons, List.nodup_cons] at hn
    rw [madeBy_cons]
    rcases List.mem_cons.1 hm with hm | hm
    · injection hm with e1 e2
      subst e1 e2
      rw [if_pos rfl]
    · rw [if_neg (fun e => hn.1 (List.mem_map.2 ⟨_, hm, e.symm⟩))]
      exact madeBy_look hn.2 hm
theorem madeBy_none {L : MadeL} {t : Tmp} (h : (L.map (·.1)).contains t = false) : madeBy L t = none := by
  cases hm : madeBy L t with
  | none => rfl
  | some V =>
    have h1 := madeBy_mem hm
    have h2 : (L.map (·.1)).contains t = true := by
      rw [List.contains_iff_mem]
      exact List.mem_map.2 ⟨_, h1, rfl⟩
    rw [h2] at h; cases h
section
variable {P : Program} {ops : Array Oper} {L : MadeL} {w0 : World} {rest : List Oper} {o : Oper} {a : Act} {Q : Act → Prop}
theorem stays_by (hL : ∀ p ∈ L, MadeOk p.2) : stays (madeBy L) := fun _ _ hV u w w' hu hw => (hL _ (madeBy_mem hV)).stays u w w' hu hw
theorem newTo_by (hL : ∀ p ∈ L, MadeOk p.2) {w : World} {u : Value} {r : Nat} (hu : blkOf u = some r) (hr : w.heap.size ≤ r) : newTo (madeBy L) w u := by
  intro t V u' hV hu' e
  obtain ⟨r', h1, h2⟩ := (hL _ (madeBy_mem hV)).there u' w hu'
  rw [e, hu] at h1
  have := Option.some.inj h1
  omega
/-- an operation that looks at no made slot but t, and is no select -/
def looksB (keys : List Tmp) (ops : Array Oper) (o : Oper) : Bool := (match o.op with | .select _ _ => false | _ => true) && (o.looksAt ops).all fun s => !keys.contains s
theorem looksB_sel {keys : List Tmp} (h : looksB keys ops o = true) : ∀ cs b, o.op ≠ .select cs b := by
  intro cs b e
  unfold looksB at h
  rw [e] at h
  cases h
theorem looksB_opd {keys : List Tmp} (h : looksB keys ops o = true) {x : Operand} (hx : x ∈ o.op.operands) {t : Tmp} (e : x = .tmp t) : keys.contains t = false := by
  simp only [looksB, Bool.and_eq_true] at h
  have h2 := List.all_eq_true.1 h.2 t (by
    unfold Oper.looksAt
    exact List.mem_append_left _ (List.mem_filterMap.2 ⟨x, by simpa using hx, by rw [e]⟩))
  simpa using h2
theorem looksB_guard {keys : List Tmp} (h : looksB keys ops o = true) {g : Nat} {y : Bool} (hg : o.guard = some (g, y)) {t : Tmp} (ht : (ops[g]?).bind (·.dst) = some t) : keys.contains t = false := by
  simp only [looksB, Bool.and_eq_true] at h
  have h2 := List.all_eq_true.1 h.2 t (by
    unfold Oper.looksAt
    refine List.mem_append_right _ ?_
    rw [hg]
    simp [ht])
  simpa using h2
theorem wanted_same {F : Made} {b : Act} (hb : Same F b a) (hg : ∀ g x, o.guard = some (g, x) → ∀ t, (ops[g]?).bind (·.dst) = some t → F t = none) : Region.wanted o (yielded ops b.tmps) = Region.wanted o (yielded ops a.tmps) := by
  unfold Region.wanted
  cases hgd : o.guard with
  | none => rfl
  | some p =>
    obtain ⟨g, x⟩ := p
    simp only
    unfold yielded
    cases ht : (ops[g]?).bind (·.dst) with
    | none => rfl
    | some t => simp only [Option.bind_some, hb.2.2 t (hg g x hgd t ht)]
theorem looksB_wanted {b : Act} (hB : looksB (L.map (·.1)) ops o = true) (hb : Same (madeBy L) b a) : Region.wanted o (yielded ops b.tmps) = Region.wanted o (yielded ops a.tmps) :=
  wanted_same hb fun _ _ hg _ ht => madeBy_none (looksB_guard hB hg ht)
theorem looksB_exec {b : Act} (hB : looksB (L.map (·.1)) ops o = true) (hb : Same (madeBy L) b a) : execOp b.eval o = execOp a.eval o :=
  execOp_congr o (looksB_sel hB) fun _ hx => hb.eval fun _ e => madeBy_none (looksB_opd hB hx e)

/-- an operation that hands on a value -/
theorem made_val (v : Value) (hB : looksB (L.map (·.1)) ops o = true) (hw : Region.wanted o (yielded ops a.tmps) = true) (hd : o.dst.bind (madeBy L) = none)
    (hrun : ∀ w, Ext w0 w → (execOp a.eval o).run P w = .ok (.value v) w) (h : wpMade P ops (madeBy L) w0 Q rest (a.put o.dst v)) : wpMade P ops (madeBy L) w0 Q (o :: rest) a := by
  refine ⟨v, fun b w hx hb _ => ⟨fun _ => ?_, fun h2 => ?_⟩, h⟩
  · rw [hd, looksB_exec hB hb, hrun w hx]
    exact ⟨rfl, rfl⟩
  · rw [looksB_wanted hB hb, hw] at h2; cases h2
/-- an operation that is not wanted -/
theorem made_skip (hB : looksB (L.map (·.1)) ops o = true) (hw : Region.wanted o (yielded ops a.tmps) = false) (hd : o.dst.bind (madeBy L) = none)
    (h : wpMade P ops (madeBy L) w0 Q rest (a.put o.dst undef)) : wpMade P ops (madeBy L) w0 Q (o :: rest) a := by
  refine ⟨undef, fun b w hx hb _ => ⟨fun h2 => ?_, fun _ => ⟨rfl, hd⟩⟩, h⟩
  rw [looksB_wanted hB hb, hw] at h2; cases h2
/-- a call that makes at most memory, and hands on a value -/
theorem made_call (v : Value) (f : Nat) (args : Array Value) (hB : looksB (L.map (·.1)) ops o = true) (hw : Region.wanted o (yielded ops a.tmps) = true) (hd : o.dst.bind (madeBy L) = none)
    (hrun : ∀ w, (execOp a.eval o).run P w = .ok (.enter f args) w) (hc : ∀ w, Ext w0 w → Calls P f args w fun e w' => e = .returned v ∧ Ext w w')
    (h : wpMade P ops (madeBy L) w0 Q rest (a.put o.dst v)) : wpMade P ops (madeBy L) w0 Q (o :: rest) a := by
  refine ⟨v, fun b w hx hb _ => ⟨fun _ => ?_, fun h2 => ?_⟩, h⟩
  · rw [hd, looksB_exec hB hb, hrun w]
    exact ⟨rfl, hc w hx⟩
  · rw [looksB_wanted hB hb, hw] at h2; cases h2
/-- an operation that makes something -/
theorem made_new (t : Tmp) (V : Value → World → Prop) (hL : ∀ p ∈ L, MadeOk p.2) (hB : looksB (L.map (·.1)) ops o = true) (hw : Region.wanted o (yielded ops a.tmps) = true) (hd : o.dst = some t) (hV : madeBy L t = some V)
    (hrun : ∀ w, Ext w0 w → ∃ u w' r, (execOp a.eval o).run P w = .ok (.value u) w' ∧ Ext w w' ∧ V u w' ∧ blkOf u = some r ∧ w.heap.size ≤ r)
    (h : wpMade P ops (madeBy L) w0 Q rest (a.put o.dst undef)) : wpMade P ops (madeBy L) w0 Q (o :: rest) a := by
  refine ⟨undef, fun b w hx hb _ => ⟨fun _ => ?_, fun h2 => ?_⟩, h⟩
  · obtain ⟨u, w', r, h1, h2, h3, h4, h5⟩ := hrun w hx
    rw [hd, Option.bind_some, hV, looksB_exec hB hb, h1]
    exact ⟨rfl, h2, h3, newTo_by hL h4 h5⟩
  · rw [looksB_wanted hB hb, hw] at h2; cases h2
/-- a call that makes something -/
theorem made_newcall (t : Tmp) (V : Value → World → Prop) (f : Nat) (args : Array Value) (hL : ∀ p ∈ L, MadeOk p.2) (hB : looksB (L.map (·.1)) ops o = true) (hw : Region.wanted o (yielded ops a.tmps) = true) (hd : o.dst = some t) (hV : madeBy L t = some V)
    (hrun : ∀ w, (execOp a.eval o).run P w = .ok (.enter f args) w) (hc : ∀ w, Ext w0 w → Calls P f args w fun e w' => ∃ u r, e = .returned u ∧ Ext w w' ∧ V u w' ∧ blkOf u = some r ∧ w.heap.size ≤ r)
    (h : wpMade P ops (madeBy L) w0 Q rest (a.put o.dst undef)) : wpMade P ops (madeBy L) w0 Q (o :: rest) a := by
  refine ⟨undef, fun b w hx hb _ => ⟨fun _ => ?_, fun h2 => ?_⟩, h⟩
  · rw [hd, Option.bind_some, hV, looksB_exec hB hb, hrun w]
    refine ⟨rfl, rfl, (hc w hx).mono ?_⟩
    rintro e w' ⟨u, r, h1, h2, h3, h4, h5⟩
    exact ⟨u, h1, h2, h3, newTo_by hL h4 h5⟩
  · rw [looksB_wanted hB hb, hw] at h2; cases h2

/-- the same, of an operation that looks at one made slot -/
def looksB1 (s : Tmp) (keys : List Tmp) (ops : Array Oper) (o : Oper) : Bool := (match o.op with | .select _ _ => false | _ => true) && (o.op.operands.toList.all fun x => match x with | .tmp t => t == s || !keys.contains t | _ => true) &&
  (match o.guard with | some (g, _) => ((ops[g]?).bind (·.dst)).toList.all fun t => !keys.contains t | none => true) && (o.looksAt ops).contains s
theorem looksB1_wanted {s : Tmp} {b : Act} (hB : looksB1 s (L.map (·.1)) ops o = true) (hb : Same (madeBy L) b a) : Region.wanted o (yielded ops b.tmps) = Region.wanted o (yielded ops a.tmps) := by
  refine wanted_same hb fun g _ hg t ht => madeBy_none ?_
  simp only [looksB1, Bool.and_eq_true] at hB
  have h := hB.1.2
  rw [hg] at h
  simpa [ht] using h
theorem looksB1_exec {s : Tmp} {u : Value} {b : Act} (hB : looksB1 s (L.map (·.1)) ops o = true) (hb : Same (madeBy L) b a) (hu : b.tmps[s]? = some u) : execOp b.eval o = execOp (a.put (some s) u).eval o := by
  simp only [looksB1, Bool.and_eq_true] at hB
  refine execOp_congr o ?_ fun x hx => ?_
  · intro cs d e
    have h := hB.1.1.1
    rw [e] at h
    cases h
  · refine (hb.fix hu).eval fun t e => ?_
    have h := List.all_eq_true.1 hB.1.1.2 x (by simpa using hx)
    rw [e] at h
    simp only [Bool.or_eq_true, beq_iff_eq, Bool.not_eq_true'] at h
    rcases h with h | h
    · rw [if_pos h]
    · split
      · rfl
      · exact madeBy_none h
theorem looksB1_holds {s : Tmp} {V : Value → World → Prop} {b : Act} {w : World} (hB : looksB1 s (L.map (·.1)) ops o = true) (hV : madeBy L s = some V) (hh : Holds (madeBy L) (o.looksAt ops) b w) : ∃ u, b.tmps[s]? = some u ∧ V u w := by
  simp only [looksB1, Bool.and_eq_true] at hB
  exact hh s (by simpa using hB.2) V hV
theorem made_val1 (s : Tmp) (V : Value → World → Prop) (v : Value) (hB : looksB1 s (L.map (·.1)) ops o = true) (hV : madeBy L s = some V) (hw : Region.wanted o (yielded ops a.tmps) = true) (hd : o.dst.bind (madeBy L) = none)
    (hrun : ∀ u w, Ext w0 w → V u w → (execOp (a.put (some s) u).eval o).run P w = .ok (.value v) w) (h : wpMade P ops (madeBy L) w0 Q rest (a.put o.dst v)) : wpMade P ops (madeBy L) w0 Q (o :: rest) a := by
  refine ⟨v, fun b w hx hb hh => ⟨fun _ => ?_, fun h2 => ?_⟩, h⟩
  · obtain ⟨u, hu, hVu⟩ := looksB1_holds hB hV hh
    rw [hd, looksB1_exec hB hb hu, hrun u w hx hVu]
    exact ⟨rfl, rfl⟩
  · rw [looksB1_wanted hB hb, hw] at h2; cases h2
theorem made_call1 (s : Tmp) (V : Value → World → Prop) (v : Value) (f : Nat) (args : Value → Array Value) (hB : looksB1 s (L.map (·.1)) ops o = true) (hV : madeBy L s = some V) (hw : Region.wanted o (yielded ops a.tmps) = true) (hd : o.dst.bind (madeBy L) = none)
    (hrun : ∀ u w, (execOp (a.put (some s) u).eval o).run P w = .ok (.enter f (args u)) w) (hc : ∀ u w, Ext w0 w → V u w → Calls P f (args u) w fun e w' => e = .returned v ∧ Ext w w')
    (h : wpMade P ops (madeBy L) w0 Q rest (a.put o.dst v)) : wpMade P ops (madeBy L) w0 Q (o :: rest) a := by
  refine ⟨v, fun b w hx hb hh => ⟨fun _ => ?_, fun h2 => ?_⟩, h⟩
  · obtain ⟨u, hu, hVu⟩ := looksB1_holds hB hV hh
    rw [hd, looksB1_exec hB hb hu, hrun u w]
    exact ⟨rfl, hc u w hx hVu⟩
  · rw [looksB1_wanted hB hb, hw] at h2; cases h2
/-- what is made out of one made thing -/
theorem made_new1 (s : Tmp) (V : Value → World → Prop) (t : Tmp) (V' : Value → World → Prop) (hL : ∀ p ∈ L, MadeOk p.2) (hB : looksB1 s (L.map (·.1)) ops o = true) (hV : madeBy L s = some V) (hw : Region.wanted o (yielded ops a.tmps) = true) (hd : o.dst = some t) (hV' : madeBy L t = some V')
    (hrun : ∀ u w, Ext w0 w → V u w → ∃ u' w' r, (execOp (a.put (some s) u).eval o).run P w = .ok (.value u') w' ∧ Ext w w' ∧ V' u' w' ∧ blkOf u' = some r ∧ w.heap.size ≤ r)
    (h : wpMade P ops (madeBy L) w0 Q rest (a.put o.dst undef)) : wpMade P ops (madeBy L) w0 Q (o :: rest) a := by
  refine ⟨undef, fun b w hx hb hh => ⟨fun _ => ?_, fun h2 => ?_⟩, h⟩
  · obtain ⟨u, hu, hVu⟩ := looksB1_holds hB hV hh
    obtain ⟨u', w', r, h1, h2, h3, h4, h5⟩ := hrun u w hx hVu
    rw [hd, Option.bind_some, hV', looksB1_exec hB hb hu, h1]
    exact ⟨rfl, h2, h3, newTo_by hL h4 h5⟩
  · rw [looksB1_wanted hB hb, hw] at h2; cases h2

/-- the end: the made things, one by one, in their slots; each another one than those ahead -/
def ended : MadeL → List Value → World → Act → (Act → Prop) → Prop
  | [], _, _, a, K => K a
  | (t, V) :: L, us, w, a, K => ∀ u, V u w → (∀ x ∈ us, x ≠ u) → ended L (us ++ [u]) w (a.put (some t) u) K
theorem ended_elim (K : Act → Prop) (w : World) : ∀ (L : MadeL) (us : List Value) (a b : Act), Same (madeBy L) b a → (L.map (·.1)).Nodup → (∀ t V, (t, V) ∈ L → ∃ u, b.tmps[t]? = some u ∧ V u w) →
    (∀ t V, (t, V) ∈ L → ∀ x ∈ us, b.tmps[t]? ≠ some x) → (∀ t V t' V', (t, V) ∈ L → (t', V') ∈ L → t ≠ t' → b.tmps[t]? ≠ b.tmps[t']?) → ended L us w a K → K b
  | [], us, a, b, hs, _, _, _, _, h => by
    obtain rfl := hs.eq (fun _ => rfl)
    exact h
  | (t, V) :: L, us, a, b, hs, hn, hh, hx, hd, h => by
    obtain ⟨u, hu, hVu⟩ := hh t V (by simp)
    have h2 := h u hVu (fun x hxu e => hx t V (by simp) x hxu (by rw [hu, e]))
    simp only [List.map_cons, List.nodup_cons] at hn
    refine ended_elim K w L (us ++ [u]) _ b ?_ hn.2 (fun s V' hm => hh s V' (by simp [hm])) ?_ (fun s V' s' V'' hm hm' => hd s V' s' V'' (by simp [hm]) (by simp [hm'])) h2
    · have h3 := hs.fix hu
      refine ⟨h3.1, h3.2.1, fun s hs' => h3.2.2 s ?_⟩
      show (if s = t then none else madeBy ((t, V) :: L) s) = none
      split
      · rfl
      · rename_i hne
        rw [madeBy_cons, if_neg (Ne.symm hne)]
        exact hs'
    · intro s V' hm x hxu
      rcases List.mem_append.1 hxu with hxu | hxu
      · exact hx s V' (by simp [hm]) x hxu
      · rw [List.mem_singleton.1 hxu, ← hu]
        exact fun e => hd s V' t V (by simp [hm]) (by simp) (fun e2 => hn.1 (List.mem_map.2 ⟨_, hm, e2⟩)) e
/-- THE LAW -/
theorem wp_made {id : Nat} {Q : Exit → Act → World → Prop} {a : Act} {w : World} {l : List Oper} (n : Nat) (L : MadeL) (hm : P.follows .mixedOrders = true)
    (hB : (Region.lexTailB .any l.toArray n && madeB .any l.toArray (L.map (·.1)) n && allMadeB l.toArray (L.map (·.1)) n) = true) (hL : ∀ p ∈ L, MadeOk p.2) (hn : (L.map (·.1)).Nodup) (hrange : ∀ t ∈ L.map (·.1), t < a.tmps.size)
    (h : wpMade P l.toArray (madeBy L) w (fun a' => ∀ w', Ext w w' → ended L [] w' a' fun b => wpList P l.toArray Q (l.drop n) b w') (l.take n) a) :
    (Code.region id l.toArray true).wp P Q a w := by
  refine wp_made_tail n (L.map (·.1)) (madeBy L) hm hB (fun t V hV => List.mem_map.2 ⟨_, madeBy_mem hV, rfl⟩) (stays_by hL) hrange ?_
  have e : ∀ (rest : List Oper) (a : Act), wpMade P l.toArray (madeBy L) w (fun a' => ∀ w', Ext w w' → ended L [] w' a' fun b => wpList P l.toArray Q (l.drop n) b w') rest a →
      wpMade P l.toArray (madeBy L) w (fun a' => ∀ b w', Ext w w' → Same (madeBy L) b a' → (∀ t V, madeBy L t = some V → (∃ u, b.tmps[t]? = some u ∧ V u w') ∧ ∀ t' V', madeBy L t' = some V' → t ≠ t' → b.tmps[t]? ≠ b.tmps[t']?) → wpList P l.toArray Q (l.drop n) b w') rest a := by
    intro rest
    induction rest with
    | nil =>
      intro a h b w' hx hs hh
      exact ended_elim _ w' L [] a b hs hn (fun t V hm => (hh t V (madeBy_look hn hm)).1) (fun _ _ _ x hx => absurd hx (by simp)) (fun t V t' V' hm hm' hne => (hh t V (madeBy_look hn hm)).2 t' V' (madeBy_look hn hm') hne) (h w' hx)
    | cons o rest ih =>
      intro a h
      obtain ⟨v, h1, h2⟩ := h
      exact ⟨v, h1, ih _ h2⟩
  exact e _ _ h

/- SORTS OF MADE THINGS -/
def madePtr (B : Nat) (ty : TypeId) (cs : Array Value) (u : Value) (w : World) : Prop := ∃ r, u = .pointer (some ⟨r, 0, none⟩) ∧ B ≤ r ∧ Blk w r ty cs
def madeSlc (B : Nat) (ty : TypeId) (cs : Array Value) (u : Value) (w : World) : Prop := ∃ r, u = .slice (some ⟨r, 0, none⟩) cs.size cs.size ∧ B ≤ r ∧ Blk w r ty cs
theorem madePtr_ok (B : Nat) (ty : TypeId) (cs : Array Value) : MadeOk (madePtr B ty cs) :=
  ⟨fun u w w' h hx => by obtain ⟨r, e, hr, hb⟩ := h; exact ⟨r, e, hr, hb.below hx hb.lt⟩, fun u w h => by obtain ⟨r, rfl, _, hb⟩ := h; exact ⟨r, rfl, hb.lt⟩⟩
theorem madeSlc_ok (B : Nat) (ty : TypeId) (cs : Array Value) : MadeOk (madeSlc B ty cs) :=
  ⟨fun u w w' h hx => by obtain ⟨r, e, hr, hb⟩ := h; exact ⟨r, e, hr, hb.below hx hb.lt⟩, fun u w h => by obtain ⟨r, rfl, _, hb⟩ := h; exact ⟨r, rfl, hb.lt⟩⟩
theorem new_ptr {B : Nat} {ty : TypeId} {cs : Array Value} {w0 : World} {R : World → Result Next} (hB : B ≤ w0.heap.size) (hrun : ∀ w, R w = .ok (.value (.pointer (some ⟨w.heap.size, 0, none⟩))) (w.alloc (.cells cs ty))) :
    ∀ w, Ext w0 w → ∃ u w' r, R w = .ok (.value u) w' ∧ Ext w w' ∧ madePtr B ty cs u w' ∧ blkOf u = some r ∧ w.heap.size ≤ r :=
  fun w hx => ⟨_, _, w.heap.size, hrun w, Ext.alloc w _, ⟨_, rfl, Nat.le_trans hB hx.size, Blk.new _ _ _⟩, rfl, Nat.le_refl _⟩
theorem new_slc {B n : Nat} {ty : TypeId} {cs : Array Value} {w0 : World} {R : World → Result Next} (hB : B ≤ w0.heap.size) (hn : cs.size = n) (hrun : ∀ w, R w = .ok (.value (.slice (some ⟨w.heap.size, 0, none⟩) n n)) (w.alloc (.cells cs ty))) :
    ∀ w, Ext w0 w → ∃ u w' r, R w = .ok (.value u) w' ∧ Ext w w' ∧ madeSlc B ty cs u w' ∧ blkOf u = some r ∧ w.heap.size ≤ r :=
  fun w hx => ⟨_, _, w.heap.size, hrun w, Ext.alloc w _, ⟨_, by rw [hn], Nat.le_trans hB hx.size, Blk.new _ _ _⟩, rfl, Nat.le_refl _⟩
end
end Go.Proofs.Ytfppddnfdinipaa
end
section
namespace Go.Proofs.Ytfppddnfdinipaa
open Go.RowKit
theorem size_run {P : Program} (e : Nat) (hs : (P.info? e).map (·.size) = some 1) (w : World) : (sizeOf e).run P w = .ok 1 w := by
  cases hq : P.info? e with
  | none => simp [hq] at hs
  | some j =>
    have h1 : j.size = 1 := by simpa [hq] using hs
    simp [sizeOf, typeInfo, hq, h1]
section
variable {P : Program} (t e n : Nat) (ht : P.underlying t = some (.array n e)) (he : P.underlying e = some (.int .u8)) (hs : (P.info? e).map (·.size) = some 1)
include ht he hs
theorem run_eql_bv (xs ys : List UInt8) (hx : xs.length = n) (hy : ys.length = n) (w : World) :
    (binOp .eql t (.agg (bv xs).toArray) (.agg (bv ys).toArray)).run P w = .ok (.bool (xs == ys)) w :=
  run_eql_bytes w t e n ht he (size_run e hs) xs ys hx hy
theorem run_neq_bv (xs ys : List UInt8) (hx : xs.length = n) (hy : ys.length = n) (w : World) :
    (binOp .neq t (.agg (bv xs).toArray) (.agg (bv ys).toArray)).run P w = .ok (.bool (!(xs == ys))) w := by
  have h := run_equalIn_bytes (P := P) w 9998 t e n ht he (size_run e hs) xs ys hx hy
  have e2 : (Op.equal t (.agg (bv xs).toArray) (.agg (bv ys).toArray)).run P w = .ok (xs == ys) w := h
  simp only [binOp, Sem.run_bind, e2, Result.andThen_ok, Sem.run_pure]
end
end Go.Proofs.Ytfppddnfdinipaa
end
section
namespace Go.Proofs.Ytfppddnfdinipaa
open Go Go.RowKit
section
variable {P : Program} {ρ : Operand → Value} {o : Oper}
theorem exec_slice (t : TypeId) (x : Operand) (lo hi mx : Option Operand) (ho : o.op = .slice t x lo hi mx) (v : Value) (hv : ∀ W, (Instr.sliceAt t (ρ x) (lo.map ρ) (hi.map ρ) (mx.map ρ)).run P W = .ok v W) (W : World) : (execOp ρ o).run P W = .ok (.value v) W := by
  unfold execOp
  simp only [ho, Sem.run_bind, hv W, Result.andThen_ok, Sem.run_pure]
theorem exec_binop_agg (op : BinOp) (t : TypeId) (x y : Operand) (r : TypeId) (ho : o.op = .binOp op t x y r) (xs ys : Array Value) (hx : ρ x = .agg xs) (hy : ρ y = .agg ys) (hm : P.eqGuardType P.depth t = false) (v : Value) (hv : ∀ W, (binOp op t (.agg xs) (.agg ys)).run P W = .ok v W) (W : World) : (execOp ρ o).run P W = .ok (.value v) W := by
  unfold execOp
  simp only [ho, hx, hy, Sem.run_bind, run_eqGuard_agg W op t x y xs ys hm, hv W, Result.andThen_ok, Sem.run_pure]
section
variable (t e : TypeId) (ht : P.underlying t = some (.slice e)) (hs : (P.info? e).map (·.size) = some 1)
include ht hs
theorem run_slice_to (A : Option Addr) (len cap n : Nat) (hn : n ≤ cap) (w : World) :
    (Instr.sliceAt t (.slice A len cap) none (some (.int .i64 (n : Int))) none).run P w = .ok (.slice A n cap) w := by
  have e2 : P.elem t = e := by simp [Program.elem, ht]
  rw [run_sliceAt_slice w t _ _ _ _ (by rw [e2]; exact ht)]
  have h := run_slice_h (P := P) w t A len cap (by rw [e2]; exact ht) .i64 (n : Int) (by omega) (by omega)
  rw [h, e2]
  cases hi : P.info? e with
  | none => simp [hi] at hs
  | some i =>
    have h1 : i.size = 1 := by simpa [hi] using hs
    have e0 : A.map (fun a => a.add 0) = A := by cases A <;> simp [Addr.add]
    simp [sizeOf, typeInfo, hi, h1, sliced, e0]
end
end
/-- a guarded operation that is wanted -/
theorem wpList_wanted {P : Program} {ops : Array Oper} {rest : List Oper} {o : Oper} {a : Act} {w : World} {Q : Exit → Act → World → Prop} (hw : Region.wanted o (yielded ops a.tmps) = true)
    (h : ∀ K : Act → World → Prop, (∀ a w, wpList P ops Q rest a w → K a w) → o.wp P a w K Q) : wpList P ops Q (o :: rest) a w :=
  wpList_step fun K hK => by rw [if_pos hw]; exact h K hK
theorem wpList_load_blk_w {P : Program} {ops : Array Oper} {rest : List Oper} {o : Oper} {a : Act} {w : World} {Q : Exit → Act → World → Prop} (hw : Region.wanted o (yielded ops a.tmps) = true) (ty : TypeId) (x : Operand) (ho : o.op = .load ty x)
    (g : Nat) (t : TypeId) (cs : Array Value) (n : Nat) (e : TypeId) (hg : Blk w g t cs)
    (hu : P.underlying ty = some (.array n e)) (hi : (P.info? ty).map (·.size) = some cs.size) (hx : a.eval x = .pointer (some ⟨g, 0, none⟩))
    (h : wpList P ops Q rest (a.put o.dst (.agg cs)) w) : wpList P ops Q (o :: rest) a w :=
  wpList_wanted hw fun _ hK => wp_load_row ty x ho g hx t cs (0, 0) _ hg hu rfl hi (hK _ _ h)
/-- an operation whose run is known, in a region that goes on in order -/
theorem wpList_value_w {P : Program} {ops : Array Oper} {rest : List Oper} {o : Oper} {a : Act} {w : World} {Q : Exit → Act → World → Prop} (hw : Region.wanted o (yielded ops a.tmps) = true) (v : Value) (w' : World) (hrun : (execOp a.eval o).run P w = .ok (.value v) w') (h : wpList P ops Q rest (a.put o.dst v) w') : wpList P ops Q (o :: rest) a w :=
  wpList_wanted hw fun K hK => by
    unfold Oper.wp
    rw [hrun]
    exact hK _ _ h
/-- bytes cut -/
theorem BytesAt.take {w : World} {B n cap : Nat} {A : Option Addr} {l : List UInt8} (h : BytesAt w B (.slice A n cap) l) (k : Nat) (hk : k ≤ l.length) : BytesAt w B (.slice A k cap) (l.take k) := by
  obtain ⟨A', cap', hv, hc, hA⟩ := h
  injection hv with e1 e2 e3
  subst e1 e2 e3
  have hl : (l.take k).length = k := by rw [List.length_take]; omega
  refine ⟨A, cap, by rw [hl], by omega, fun h0 => ?_⟩
  rw [hl] at h0
  obtain ⟨b, off, h1, h2, h3⟩ := hA (by omega)
  refine ⟨b, off, h1, h2, fun j hj => ?_⟩
  rw [hl] at hj
  rw [h3 j (by omega)]
  simp [List.getD, hj]
theorem BytesAt.drop {w : World} {B n cap : Nat} {A : Option Addr} {l : List UInt8} (h : BytesAt w B (.slice A n cap) l) (k : Nat) (hk : k ≤ l.length) : BytesAt w B (.slice (if cap = k then A else A.map (·.add k)) (n - k) (cap - k)) (l.drop k) := by
  obtain ⟨A', cap', hv, hc, hA⟩ := h
  injection hv with e1 e2 e3
  subst e1 e2 e3
  have hl : (l.drop k).length = l.length - k := by rw [List.length_drop]
  refine ⟨_, cap - k, by rw [hl], by omega, fun h0 => ?_⟩
  rw [hl] at h0
  obtain ⟨b, off, rfl, h2, h3⟩ := hA (by omega)
  rw [if_neg (by omega)]
  refine ⟨b, off + k, by simp [Addr.add_mid], h2, fun j hj => ?_⟩
  rw [hl] at hj
  rw [Nat.add_assoc, h3 (k + j) (by omega)]
  simp [List.getD]
/-- what a row of byte slices holds -/
def RowOf (w : World) (B : Nat) (us : List Value) (ls : List (List UInt8)) : Prop := us.length = ls.length ∧ ∀ j, j < ls.length → BytesAt w B (us.getD j undef) (ls.getD j [])
theorem RowOf.nil (w : World) (B : Nat) : RowOf w B [] [] := ⟨rfl, fun j hj => absurd hj (by simp)⟩
theorem RowOf.cons {w : World} {B : Nat} {u : Value} {l : List UInt8} {us : List Value} {ls : List (List UInt8)} (h : BytesAt w B u l) (k : RowOf w B us ls) : RowOf w B (u :: us) (l :: ls) :=
  ⟨by simp [k.1], fun j hj => by
    cases j with
    | zero => exact h
    | succ j => exact k.2 j (by simpa using hj)⟩
/-- a made row of byte slices is the parts that it holds -/
theorem parts_made {w0 w : World} {B0 : Nat} {ty : TypeId} {us : List Value} {ls : List (List UInt8)} {u : Value} (h : madeSlc B0 ty us.toArray u w) (hx : Ext w0 w) (hr : RowOf w0 w0.heap.size us ls) : PartsAt w w.heap.size u ls := by
  obtain ⟨r, rfl, _, hb⟩ := h
  obtain ⟨hl, hj⟩ := hr
  have hs : us.toArray.size = ls.length := by simpa using hl
  rw [hs]
  refine ⟨_, ls.length, rfl, Nat.le_refl _, fun _ => ⟨r, 0, rfl, hb.lt, fun j hjl => ⟨us.getD j undef, ?_, ?_⟩⟩⟩
  · rw [Nat.zero_add, hb.cell]
    simp [List.getD, show j < us.length by omega]
  · obtain ⟨A, cap, h1, h2, h3⟩ := (hj j hjl).alike (alike_of_below hx)
    exact ⟨A, cap, h1, h2, fun h0 => by obtain ⟨b, off, h4, h5, h6⟩ := h3 h0; exact ⟨b, off, h4, Nat.lt_of_lt_of_le h5 hx.size, h6⟩⟩
end Go.Proofs.Ytfppddnfdinipaa
end
section
namespace Go.Proofs.Ytfppddnfdinipaa
open Go.RowKit
/-- the mark of a place in a list of bytes -/
def mk (k i : Nat) : UInt8 := UInt8.ofNat ((1000003 * (k + 7) + i) * 11400714819323198485 % 18446744073709551616 / 72057594037927936)
theorem wrap_u64 (n : Nat) : IntKind.u64.wrap (n : Int) = ((n % 18446744073709551616 : Nat) : Int) := by simp [IntKind.wrap, IntKind.signed, IntKind.bits]
theorem mark_val (m : Nat) : IntKind.u64.wrap (IntKind.u64.wrap (m : Int) * 11400714819323198485) / 72057594037927936 % 256 = ((UInt8.ofNat (m * 11400714819323198485 % 18446744073709551616 / 72057594037927936)).toNat : Int) := by
  have h1 : ((m % 18446744073709551616 : Nat) : Int) * 11400714819323198485 = ((m % 18446744073709551616 * 11400714819323198485 : Nat) : Int) := by omega
  rw [wrap_u64, h1, wrap_u64]
  have h2 : ((m % 18446744073709551616 * 11400714819323198485 % 18446744073709551616 : Nat) : Int) / 72057594037927936 = ((m % 18446744073709551616 * 11400714819323198485 % 18446744073709551616 / 72057594037927936 : Nat) : Int) := by omega
  rw [h2, UInt8.toNat_ofNat', Nat.mod_mul_mod]
  rfl
set_option maxHeartbeats 400000 in
theorem mark_any (k i : Int) (hk : 0 ≤ k ∧ k ≤ 1000000000) (hi : 0 ≤ i ∧ i ≤ 1000000000) (w : World) : Calls Try.prog 56 #[.int .i64 k, .int .i64 i] w fun e w' => e = .returned (.int .i64 (1000003 * (k + 7) + i)) ∧ w' = w := by
  go_enter Try.func56, Try.ntmps56
  go_wp2
  go_ret
  exact ⟨rfl, rfl⟩
set_option maxRecDepth 100000 in
set_option maxHeartbeats 400000 in
theorem markByte_any (k i : Nat) (hk : k ≤ 1000000000) (hi : i ≤ 1000000000) (w : World) : Calls Try.prog 131 #[.int .i64 (k : Int), .int .i64 (i : Int)] w fun e w' => e = .returned (.int .u8 ((mk k i).toNat : Int)) ∧ w' = w := by
  go_enter Try.func131, Try.ntmps131
  go_wp2_with fail
  refine (mark_any (k : Int) (i : Int) (by omega) (by omega) _).mono ?_
  rintro e w' ⟨rfl, rfl⟩
  obtain ⟨m, hm⟩ : ∃ m : Nat, (m : Int) = 1000003 * ((k : Int) + 7) + i := ⟨1000003 * (k + 7) + i, by omega⟩
  rw [← hm]
  have hm2 : m = 1000003 * (k + 7) + i := by omega
  have HM := hide hm2
  clear hm hm2
  dsimp only
  repeat go_step
  go_ret
  refine ⟨ret_int ?_, rfl⟩
  rw [mark_val m, HM.out, mk]

def marks : List UInt8 := (List.range 12).map (mk 1)
theorem marks_take (i : Nat) (h : i < 12) : marks.take (i + 1) = marks.take i ++ [mk 1 i] := by
  rw [List.take_add_one, marks, List.getElem?_map, List.getElem?_range h]; rfl
theorem info5 : (Try.prog.info? 5).map (fun i => (i.zero, i.size, i.bytes)) = some (some (.int .u8 0), 1, 1) := by kernel_rfl
theorem bv_append (a b : List UInt8) : bv (a ++ b) = bv a ++ bv b := by simp [bv]
theorem bv_length (a : List UInt8) : (bv a).length = a.length := by simp [bv]
theorem bv_oneCell (a : List UInt8) : ∀ u ∈ bv a, u.oneCell' = true := by
  intro u hu
  obtain ⟨_, _, rfl⟩ := List.mem_map.1 hu
  rfl
theorem owned_blk {w : World} {base g n : Nat} {e : TypeId} {xs : List Value} (h : w.ownsRow base e 1 (.slice (some ⟨g, 0, none⟩) n n) n xs) : Blk w g e xs.toArray := by
  obtain ⟨hl, h⟩ := h
  rcases h with ⟨h, _⟩ | ⟨g', cap, cur, h, _, hb, _, _, hs, ht⟩
  · cases h
  · injection h with e1 e2 e3
    injection e1 with e1
    injection e1 with e1
    subst e1 e3
    have : cur = xs.toArray := by
      rw [← ht, List.take_of_length_le (by simp; omega)]
    rw [← this]
    exact hb
/-- the cells of bytes, as a law on append asks them -/
theorem BytesAt.cells {w : World} {B : Nat} {A : Option Addr} {n cap : Nat} {l : List UInt8} (h : BytesAt w B (.slice A n cap) l) : n = l.length ∧ l.length ≤ cap ∧ ((A = none ∨ l = []) ∨ (0 < l.length ∧ ∃ b off, A = some ⟨b, off, none⟩ ∧ b < B)) ∧ ∀ ad, A = some ad → ∀ j u, (bv l)[j]? = some u → w.cell? (ad.add j) = some u := by
  obtain ⟨A', cap', hv, hc, hA⟩ := h
  injection hv with e1 e2 e3
  subst e1 e2 e3
  refine ⟨rfl, hc, ?_, fun ad had j u hu => ?_⟩
  · rcases Nat.eq_zero_or_pos l.length with h0 | h0
    · exact .inl (.inr (List.eq_nil_of_length_eq_zero h0))
    · obtain ⟨b, off, h1, h2, _⟩ := hA h0
      exact .inr ⟨h0, b, off, h1, h2⟩
  · have hj : j < l.length := by
      have := (List.getElem?_eq_some_iff.1 hu).1
      simpa [bv] using this
    obtain ⟨b, off, h1, _, h3⟩ := hA (by omega)
    rw [h1] at had
    obtain rfl := Option.some.inj had
    have e : (⟨b, off, none⟩ : Addr).add j = ⟨b, off + j, none⟩ := by unfold Addr.add; split <;> simp_all
    rw [e, h3 j hj]
    have e2 : (bv l)[j]? = some (.int .u8 ((l.getD j 0).toNat : Int)) := by simp [bv, List.getD, hj]
    rw [e2] at hu
    exact hu

set_option maxRecDepth 100000 in
set_option maxHeartbeats 1000000 in
theorem lentBytes_any (l : List UInt8) (hl : l.length ≤ 1000000) (A : Option Addr) (n cap : Nat) (B : Nat) (w : World) (hB : B ≤ w.heap.size) (hv : BytesAt w B (.slice A n cap) l) (hnil : A = none → n = 0 ∧ cap = 0) :
    Calls Try.prog 79 #[.slice A n cap] w fun e w' => ∃ g, e = .returned (.slice (some ⟨g, 0, none⟩) l.length (l.length + 12)) ∧ w.heap.size ≤ g ∧ Blk w' g 5 (bv (l ++ marks)).toArray ∧ Below w.heap.size w w' := by
  obtain ⟨rfl, hcap, _, hcells⟩ := hv.cells
  obtain ⟨i, hi, hz0, hz1, hz2⟩ := info_parts info5
  have HV := hide hv
  have HC := hide hcells
  clear hv hcells
  go_enter Try.func79, Try.ntmps79
  go_wp2_with (at_make; refine wpList_make_own _ rfl _ _ 66 rfl w.heap.size 5 i (.int .u8 0) 1 Try.underlying66 hi hz0 hz1 _ _ _ (l.length + 12) rfl rfl ?e0 ?e1 ?e2 ?e3 ?_)
  case e0 => omega
  case e1 => rw [hz2]; omega
  case e2 => simp only [maxLen]; omega
  case e3 => exact Nat.le_refl _
  intro w1 own1 gr1
  obtain ⟨g, hg⟩ : ∃ g, g = w.heap.size := ⟨_, rfl⟩
  rw [← hg] at own1 ⊢
  have hcells1 : ∀ ad, A = some ad → ∀ j u, (bv l)[j]? = some u → w1.cell? (ad.add j) = some u := by
    intro ad had
    have hv1 : BytesAt w1 B (.slice A l.length cap) l := HV.out.alike fun k hk => gr1.block k (by omega) (by simp)
    exact hv1.cells.2.2.2 ad had
  have HC1 := hide hcells1
  have HG := hide hg
  clear hcells1 hg
  go_wp2_with (at_builtin; (refine wpList_append_fits_any w1 rfl _ _ 66 rfl g 5 i 1 Try.underlying66 hi hz1 g 0 (l.length + 12) [] rfl own1 A l.length cap (bv l) rfl ?f0 ?f1 ?f2 ?f3 ?f4 ?_))
  case f0 => simp [bv]
  case f1 => exact hnil
  case f2 => exact HC1.out
  case f3 => exact bv_oneCell l
  case f4 => omega
  intro w2 own2 gr2
  have hg := HG.out
  have hb2 : Below w.heap.size w w2 := by
    have b1 : Below w.heap.size w w1 := (Below.refl _ _).grown gr1 (Nat.le_refl _) (by simp)
    exact b1.grown gr2 b1.size (by intro k hk; injection hk with hk; omega)
  have HO := hide (And.intro own2 hb2)
  clear own1 own2 gr1 gr2 hb2 hg
  go_wp2_with fail
  go_loopw [3, 4] (fun v3 v4 wr => ∃ j : Nat, j ≤ 12 ∧ v4 = .int .i64 (j : Int) ∧ v3 = .slice (some ⟨g, 0, none⟩) (l.length + j) (l.length + 12) ∧ wr.ownsRow g 5 1 v3 (l.length + j) (bv (l ++ marks.take j)) ∧ Below w.heap.size w wr) (fun _ v4 _ => (12 - intOf v4).toNat)
  case atStart => exact ⟨0, by omega, rfl, rfl, by simpa using HO.out.1, HO.out.2⟩
  case round =>
    obtain ⟨j, hj, rfl, rfl, own3, hb3⟩ := hrel
    by_cases h12 : j < 12
    · go_wp2_with fail
      refine (markByte_any 1 j (by omega) (by omega) _).mono ?_
      rintro e w3 ⟨rfl, rfl⟩
      dsimp only
      have own4 := own3.alloc (.cells #[.int .u8 ((mk 1 j).toNat : Int)] 5)
      obtain ⟨X, hX⟩ : ∃ X, X = w3.heap.size := ⟨_, rfl⟩
      have hbx := Blk.new w3 5 #[.int .u8 ((mk 1 j).toNat : Int)]
      rw [← hX] at hbx
      have hb4 : Below w.heap.size w (w3.alloc (.cells #[.int .u8 ((mk 1 j).toNat : Int)] 5)) := hb3.alloc hb3.size _
      have HX := hide hX
      have HBX := hide hbx
      clear own3 hb3 hbx
      go_wp2_with (at_builtin; (refine wpList_append_fits _ rfl _ _ 66 rfl g 5 i 1 Try.underlying66 hi hz1 g (l.length + j) (l.length + 12) (bv (l ++ marks.take j)) rfl own4 ⟨w3.heap.size, 0, none⟩ 1 1 [.int .u8 ((mk 1 j).toNat : Int)] rfl ?h0 ?h1 ?h2 ?h3 ?_))
      case h0 => rfl
      case h1 =>
        intro q u hu
        match q, hu with
        | 0, hu =>
          have h := HBX.out.cell 0
          rw [HX.out] at h
          rw [← hu]; exact h
      case h2 =>
        intro u hu
        simp only [List.mem_singleton] at hu
        rw [hu]; rfl
      case h3 => omega
      intro w5 own5 gr5
      have HO5 := hide (And.intro own5 (And.intro gr5 hb4))
      clear own5 gr5 hb4 own4
      go_wp2_with fail
      go_roundw
      case rel =>
        obtain ⟨own5, gr5, hb4⟩ := HO5.out
        have hg := HG.out
        refine ⟨j + 1, by omega, by go_num, rfl, ?_, hb4.grown gr5 hb4.size (by intro k hk; injection hk with hk; omega)⟩
        rw [marks_take j h12, ← List.append_assoc, bv_append]
        exact own5
      case measure => simp [intOf]; omega
    · obtain rfl : j = 12 := by omega
      go_wp2_with fail
      go_ret
      refine ⟨g, rfl, by have := HG.out; omega, ?_, hb3⟩
      have h := owned_blk own3
      rwa [show marks.take 12 = marks from rfl] at h
end Go.Proofs.Ytfppddnfdinipaa
end
section
namespace Go.Proofs.Ytfppddnfdinipaa
open Go Go.RowKit
/-- a device's cells: deeds, a fuse, is it down, what is kept, what is pending -/
def dv (de fu : Int) (dn : Bool) (vk vp : Value) : Array Value := #[.int .i64 de, .int .i64 fu, .bool dn, vk, vp]
theorem dv0 (de fu : Int) (dn : Bool) (vk vp : Value) : (dv de fu dn vk vp)[0]? = some (.int .i64 de) := rfl
theorem dv1 (de fu : Int) (dn : Bool) (vk vp : Value) : (dv de fu dn vk vp)[1]? = some (.int .i64 fu) := rfl
theorem dv2 (de fu : Int) (dn : Bool) (vk vp : Value) : (dv de fu dn vk vp)[2]? = some (.bool dn) := rfl
theorem dv3 (de fu : Int) (dn : Bool) (vk vp : Value) : (dv de fu dn vk vp)[3]? = some vk := rfl
theorem dv4 (de fu : Int) (dn : Bool) (vk vp : Value) : (dv de fu dn vk vp)[4]? = some vp := rfl
theorem dv_set0 (de fu x : Int) (dn : Bool) (vk vp : Value) : (dv de fu dn vk vp).setIfInBounds 0 (.int .i64 x) = dv x fu dn vk vp := rfl
theorem dv_set1 (de fu x : Int) (dn : Bool) (vk vp : Value) : (dv de fu dn vk vp).setIfInBounds 1 (.int .i64 x) = dv de x dn vk vp := rfl
theorem dv_set2 (de fu : Int) (dn x : Bool) (vk vp : Value) : (dv de fu dn vk vp).setIfInBounds 2 (.bool x) = dv de fu x vk vp := rfl
theorem dv_set4 (de fu : Int) (dn : Bool) (vk vp x : Value) : (dv de fu dn vk vp).setIfInBounds 4 x = dv de fu dn vk x := rfl
section
set_option maxRecDepth 100000
variable {de fu : Int} {dn : Bool} {vp : Value} {a : Addr} {n c g : Nat}
theorem dnone_any (w : World) (hb : Blk w g 150 (dv de fu dn (.slice (some a) n c) vp)) : Calls Try.prog 126 #[.pointer (some ⟨g, 0, none⟩)] w fun e w' => e = .returned (.bool false) ∧ w' = w := by
  have c3 := (hb.cell 3).trans (dv3 ..)
  have hlt := hb.lt
  have hq := fun (w : World) (a : Option Addr) (n c : Nat) => Lib.run_eql_slice_nil (P := Try.prog) w 145 213 a n c 0 0 Try.underlying145
  clear hb
  go_enter Try.func126, Try.ntmps126
  go_wp2
  go_ret
  exact ⟨rfl, rfl⟩
theorem able_any (w : World) (hb : Blk w g 150 (dv de fu dn (.slice (some a) n c) vp)) : Calls Try.prog 69 #[.pointer (some ⟨g, 0, none⟩)] w fun e w' => e = .returned (.int .i64 (if dn = true then 10 else 0)) ∧ w' = w := by
  have c2 := (hb.cell 2).trans (dv2 ..)
  have hlt := hb.lt
  have H := hide hb
  clear hb
  cases dn with
  | true =>
    go_enter Try.func69, Try.ntmps69
    go_wp2_with (go_at_call 126; refine (dnone_any _ H.out).mono ?_; rintro e w' ⟨rfl, rfl⟩)
    go_ret
    exact ⟨rfl, rfl⟩
  | false =>
    go_enter Try.func69, Try.ntmps69
    go_wp2_with (go_at_call 126; refine (dnone_any _ H.out).mono ?_; rintro e w' ⟨rfl, rfl⟩)
    go_ret
    exact ⟨rfl, rfl⟩
theorem has_any (w : World) (hn : n ≤ 8192) (x : Int) (hx : -9223372036854775808 ≤ x ∧ x ≤ 9223372036854775807) (hb : Blk w g 150 (dv de fu dn (.slice (some a) n c) vp)) : Calls Try.prog 123 #[.pointer (some ⟨g, 0, none⟩), .int .i64 x] w fun e w' => e = .returned (.bool (decide (0 ≤ x ∧ x < (n : Int)))) ∧ w' = w := by
  have c3 := (hb.cell 3).trans (dv3 ..)
  have hlt := hb.lt
  have hx1 := hx.1
  have hx2 := hx.2
  have hu : x < 0 → ¬ IntKind.u64.wrap x < (n : Int) := fun h => by simp [IntKind.wrap, IntKind.signed, IntKind.bits]; omega
  clear hb hx
  rcases Int.lt_or_le x 0 with hneg | hpos
  · have hu2 := hu hneg
    have hd : decide (0 ≤ x ∧ x < (n : Int)) = false := decide_eq_false (by omega)
    rw [hd]
    clear hu hd
    go_enter Try.func123, Try.ntmps123
    go_wp2
    go_ret
    refine ⟨ret_bool ?_, rfl⟩
    simp
  · have hw : IntKind.u64.wrap x = x := by simp [IntKind.wrap, IntKind.signed, IntKind.bits]; omega
    clear hu
    go_enter Try.func123, Try.ntmps123
    go_wp2
    go_ret
    exact ⟨ret_bool (by simp [hpos]), rfl⟩
/-- a deed begins -/
def tick (de fu : Int) (dn : Bool) : Int × Int × Int × Bool := if fu = 1 then (10, de, 0, true) else if fu = 0 then (0, de + 1, 0, dn) else (0, de + 1, fu - 1, dn)
set_option maxHeartbeats 400000 in
theorem next_any (w : World) (vk : Value) (hde : 0 ≤ de ∧ de ≤ 1000000000) (hfu : 0 ≤ fu ∧ fu ≤ 9223372036854775807) (hb : Blk w g 150 (dv de fu dn vk vp)) : Calls Try.prog 124 #[.pointer (some ⟨g, 0, none⟩)] w fun e w' =>
    e = .returned (.int .i64 (tick de fu dn).1) ∧ Blk w' g 150 (dv (tick de fu dn).2.1 (tick de fu dn).2.2.1 (tick de fu dn).2.2.2 vk vp) ∧ w.grownBy w' (some g) := by
  have c0 := (hb.cell 0).trans (dv0 ..)
  have c1 := (hb.cell 1).trans (dv1 ..)
  have f0 := hb.frozen 0
  have f1 := hb.frozen 1
  have f2 := hb.frozen 2
  have c2 := (hb.cell 2).trans (dv2 ..)
  have hlt := hb.lt
  have H := hide hb
  have h1 := hde.1
  have h2 := hde.2
  have h3 := hfu.1
  have h4 := hfu.2
  clear hb hde hfu
  by_cases q1 : fu = 1
  · subst q1
    have ht : tick de 1 dn = (10, de, 0, true) := by simp [tick]
    rw [ht]
    go_enter Try.func124, Try.ntmps124
    go_wp2
    go_ret
    have h := (H.out.set_ 1 (.int .i64 0)).set_ 2 (.bool true)
    rw [dv_set1, dv_set2] at h
    have g1 : w.grownBy (w.setCell ⟨g, 1, none⟩ (.int .i64 0)) (some g) := only_setCell (World.grownBy.refl w _) (.inl rfl) _
    exact ⟨rfl, h, only_setCell g1 (.inl rfl) _⟩
  · by_cases q0 : fu = 0
    · subst q0
      have ht : tick de 0 dn = (0, de + 1, 0, dn) := by simp [tick]
      rw [ht]
      clear ht
      go_enter Try.func124, Try.ntmps124
      go_wp2
      go_ret
      have h := H.out.set_ 0 (.int .i64 (de + 1))
      rw [dv_set0] at h
      exact ⟨rfl, h, only_setCell (World.grownBy.refl w _) (.inl rfl) _⟩
    · have ht : tick de fu dn = (0, de + 1, fu - 1, dn) := by simp [tick, q0, q1]
      rw [ht]
      have b0 : (fu == 0) = false := by simp [q0]
      have b1 : (fu == 1) = false := by simp [q1]
      clear ht
      go_enter Try.func124, Try.ntmps124
      go_wp2
      go_ret
      have h := (H.out.set_ 1 (.int .i64 (fu - 1))).set_ 0 (.int .i64 (de + 1))
      rw [dv_set1, dv_set0] at h
      have g1 : w.grownBy (w.setCell ⟨g, 1, none⟩ (.int .i64 (fu - 1))) (some g) := only_setCell (World.grownBy.refl w _) (.inl rfl) _
      exact ⟨rfl, h, only_setCell g1 (.inl rfl) _⟩
end
end Go.Proofs.Ytfppddnfdinipaa
end
section
namespace Go.Proofs.Ytfppddnfdinipaa
open Go Go.RowKit
theorem info_sector : (Try.prog.info? 213).map (fun i => (i.zero, i.size, i.bytes)) = some (some (.agg (bv (List.replicate 64 0)).toArray), 64, 64) := by kernel_rfl
section
set_option maxRecDepth 100000
set_option maxHeartbeats 400000 in
theorem new_any (n : Nat) (hn : 1 ≤ n ∧ n ≤ 8192) (w : World) : Calls Try.prog 31 #[.int .i64 (n : Int)] w fun e w' =>
    ∃ g r, e = .returned (.tuple #[.pointer (some ⟨g, 0, none⟩), .int .i64 0]) ∧ w.heap.size ≤ r ∧ r < g ∧ Blk w' g 150 (dv 0 0 false (.slice (some ⟨r, 0, none⟩) n n) (.slice none 0 0)) ∧ w'.ownsRow w.heap.size 213 64 (.slice (some ⟨r, 0, none⟩) n n) n (madeCells (Value.agg (bv (List.replicate 64 0)).toArray).cells (n * 64)).toList ∧ Below w.heap.size w w' := by
  obtain ⟨i, hi, hz0, hz1, hz2⟩ := info_parts info_sector
  have h1 := hn.1
  have h2 := hn.2
  obtain ⟨Z, hz⟩ : ∃ Z, Z = (bv (List.replicate 64 0)).toArray := ⟨_, rfl⟩
  rw [← hz] at hz0 ⊢
  clear hz hn
  go_enter Try.func31, Try.ntmps31
  go_wp2_with (at_make; refine wpList_make_full _ rfl _ _ 145 rfl w.heap.size 213 i (.agg Z) 64 Try.underlying145 hi hz0 hz1 _ _ _ _ n rfl rfl ?e0 ?e1 ?e2 ?e3 ?e4 ?_)
  case e0 => rfl
  case e1 => rfl
  case e2 => rw [hz2]; omega
  case e3 => simp only [maxLen]; omega
  case e4 => exact Nat.le_refl _
  intro w1 own1 gr1
  have H1 := hide (And.intro own1 gr1)
  clear own1 gr1
  go_wp2_with fail
  go_ret2
  obtain ⟨own1, gr1⟩ := H1.out
  have hlt : w.heap.size < w1.heap.size := (own1.lt _ rfl).2
  exact ⟨w1.heap.size, w.heap.size, rfl, Nat.le_refl _, hlt, Blk.new _ _ _, own1.alloc _, ((Below.refl _ _).grown gr1 (Nat.le_refl _) (by intro k hk; cases hk)).alloc (by omega) _⟩
theorem new_bad (n : Int) (hn : n < 1 ∨ 8192 < n) (w : World) : Calls Try.prog 31 #[.int .i64 n] w fun e w' => e = .returned (.tuple #[.pointer none, .int .i64 2]) ∧ w' = w := by
  rcases Int.lt_or_le n 1 with h | h
  · go_enter Try.func31, Try.ntmps31
    go_wp2
    go_ret2
    exact ⟨rfl, rfl⟩
  · have h2 : 8192 < n := by omega
    clear hn
    go_enter Try.func31, Try.ntmps31
    go_wp2
    go_ret2
    exact ⟨rfl, rfl⟩
variable {de fu : Int} {dn : Bool} {vp : Value} {a : Addr} {n c g : Nat}
/-- the fuse is lit, unless it is down -/
theorem fuse_any (x : Int) (w : World) (hb : Blk w g 150 (dv de fu false (.slice (some a) n c) vp)) : Calls Try.prog 80 #[.pointer (some ⟨g, 0, none⟩), .int .i64 x] w fun e w' => e = .returned (.int .i64 0) ∧ Blk w' g 150 (dv de (max x 0) false (.slice (some a) n c) vp) ∧ w.grownBy w' (some g) := by
  have c1 := (hb.cell 1).trans (dv1 ..)
  have f1 := hb.frozen 1
  have hlt := hb.lt
  have H := hide hb
  clear hb
  rcases Int.lt_or_le x 0 with h | h
  · have hm : max x 0 = 0 := by omega
    have h2 : x ≤ 0 := by omega
    rw [hm]
    clear hm
    go_enter Try.func80, Try.ntmps80
    go_wp2_with (go_at_call 69; refine (able_any _ H.out).mono ?_; rintro e w' ⟨rfl, rfl⟩)
    go_ret
    have h := H.out.set_ 1 (.int .i64 0)
    rw [dv_set1] at h
    exact ⟨rfl, h, only_setCell (World.grownBy.refl _ _) (.inl rfl) _⟩
  · have hm : max x 0 = x := by omega
    rw [hm]
    rcases Int.lt_or_le 0 x with h0 | h0
    · clear hm
      go_enter Try.func80, Try.ntmps80
      go_wp2_with (go_at_call 69; refine (able_any _ H.out).mono ?_; rintro e w' ⟨rfl, rfl⟩)
      go_ret
      have h := H.out.set_ 1 (.int .i64 x)
      rw [dv_set1] at h
      exact ⟨rfl, h, only_setCell (World.grownBy.refl _ _) (.inl rfl) _⟩
    · obtain rfl : x = 0 := by omega
      clear hm
      go_enter Try.func80, Try.ntmps80
      go_wp2_with (go_at_call 69; refine (able_any _ H.out).mono ?_; rintro e w' ⟨rfl, rfl⟩)
      go_ret
      have h := H.out.set_ 1 (.int .i64 0)
      rw [dv_set1] at h
      exact ⟨rfl, h, only_setCell (World.grownBy.refl _ _) (.inl rfl) _⟩
/-- it goes down, unless it is down -/
theorem crash_any (w : World) (hb : Blk w g 150 (dv de fu false (.slice (some a) n c) vp)) : Calls Try.prog 37 #[.pointer (some ⟨g, 0, none⟩)] w fun e w' => e = .returned (.int .i64 0) ∧ Blk w' g 150 (dv de fu true (.slice (some a) n c) vp) ∧ w.grownBy w' (some g) := by
  have c2 := (hb.cell 2).trans (dv2 ..)
  have f2 := hb.frozen 2
  have hlt := hb.lt
  have H := hide hb
  clear hb
  go_enter Try.func37, Try.ntmps37
  go_wp2_with (go_at_call 69; refine (able_any _ H.out).mono ?_; rintro e w' ⟨rfl, rfl⟩)
  go_ret
  have h := H.out.set_ 2 (.bool true)
  rw [dv_set2] at h
  exact ⟨rfl, h, only_setCell (World.grownBy.refl _ _) (.inl rfl) _⟩
end
end Go.Proofs.Ytfppddnfdinipaa
end
section
namespace Go.Proofs.Ytfppddnfdinipaa
open Go Go.RowKit
set_option maxRecDepth 100000 in
set_option maxHeartbeats 1000000 in
theorem stat_any {de fu : Int} {dn : Bool} {a : Addr} {n c g m pc : Nat} {pa : Option Addr} (w : World) (hb : Blk w g 150 (dv de fu dn (.slice (some a) n c) (.slice pa m pc))) :
    Calls Try.prog 87 #[.pointer (some ⟨g, 0, none⟩)] w fun e w' => e = .returned (.agg #[.int .i64 (n : Int), .int .i64 (m : Int), .int .i64 de, .bool dn]) ∧ Below w.heap.size w w' := by
  have hlt := hb.lt
  obtain ⟨q, hq⟩ : ∃ q, q = w.heap.size := ⟨_, rfl⟩
  have HQ := hide hq
  have hb0 := hb.alloc (.cells #[.int .i64 0, .int .i64 0, .int .i64 0, .bool false] 181)
  have c0 := (hb.cell 0).trans (dv0 ..)
  have c2 := (hb.cell 2).trans (dv2 ..)
  have c3 := (hb.cell 3).trans (dv3 ..)
  have c4 := (hb.cell 4).trans (dv4 ..)
  have H := hide hb0
  clear hb hb0 hq
  go_enter Try.func87, Try.ntmps87
  go_wp2_with (go_at_call 126; refine (dnone_any _ H.out).mono ?_; rintro e w' ⟨rfl, rfl⟩)
  refine wp_quiet_tail_drewN 21 (by kernel_rfl) (by kernel_rfl) ?_
  simp only [List.take_succ_cons, List.take_zero, List.drop_succ_cons, List.drop_zero]
  repeat (go_big_quiet_step (fail))
  refine wpQuiet_nil ?_
  intro nq
  go_wp2_with fail
  have hblk := (((((Blk.new w 181 #[.int .i64 0, .int .i64 0, .int .i64 0, .bool false]).drewN nq).set_ 0 (.int .i64 (n : Int))).set_ 1 (.int .i64 (m : Int))).set_ 2 (.int .i64 de)).set_ 3 (.bool dn)
  refine bodyPost_ret (results_cell_row rfl _ _ w.heap.size 181 #[.int .i64 (n : Int), .int .i64 (m : Int), .int .i64 de, .bool dn] (0, 0) _ rfl hblk Try.underlying181 rfl (by kernel_rfl)) rfl ⟨rfl, ?_⟩
  have h1 : Below w.heap.size w (w.alloc (.cells #[.int .i64 0, .int .i64 0, .int .i64 0, .bool false] 181)) := (Below.refl _ _).alloc (Nat.le_refl _) _
  exact ((((below_drewN h1 nq).setCell (Nat.le_refl _) _).setCell (Nat.le_refl _) _).setCell (Nat.le_refl _) _).setCell (Nat.le_refl _) _
end Go.Proofs.Ytfppddnfdinipaa
end
section
namespace Go.Proofs.Ytfppddnfdinipaa
open Go Go.RowKit
/-- a pending write's cells -/
def sh (x : Int) (l : List UInt8) : List Value := .int .i64 x :: bv (l ++ List.replicate (64 - l.length) 0)
theorem Src.turned2 {w w' : World} {S : Nat → Prop} {A : Option Addr} {m c : Nat} {news : List Value} (h : Src w A m c news) (ht : Turned S w w') (hb : ∀ ad, A = some ad → 0 < m → ¬ S ad.block) : Src w' A m c news :=
  ⟨h.len, h.none_, h.one, fun ad had j u hu => by
    have h1 := h.cells ad had j u hu
    have h2 := World.block_lt_of_cell? w _ h1
    have h3 : 0 < m := by have := (List.getElem?_eq_some_iff.1 hu).1; have := h.len; omega
    have h4 : (ad.add j).block = ad.block := Go.ChangeShapes.block_add ad j
    rw [h4] at h2
    exact (World.cell?_of_block (by rw [h4]; exact ht.block _ h2 (hb ad had h3))).trans h1⟩
theorem sh_copy (x : Int) (l : List UInt8) : ((sh x []).toArray.toList.take 1 ++ (bv l ++ (sh x []).toArray.toList.drop (1 + (bv l).length))).toArray = (sh x l).toArray := by
  have h1 : (bv l).length = l.length := bvL l
  rw [h1]
  simp only [sh, List.nil_append, List.length_nil, Nat.sub_zero, List.take_succ_cons, List.take_zero, Nat.add_comm 1, List.drop_succ_cons]
  congr 1
  rw [bvA]
  congr 2
  unfold bv
  rw [← List.map_drop, List.drop_replicate]
  rfl
theorem turned_two {w w1 w2 : World} {g : Nat} {o : Obj} (h1 : w.grownBy w1 (some g)) (h2 : (w1.alloc o).grownBy w2 (some w1.heap.size)) : Turned (· = g) w w2 :=
  ((Turned.of_grown (S := (· = g)) h1 (fun k h _ => by injection h with h; exact h.symm)).alloc o).then_ (Turned.of_grown (S := (· = w1.heap.size)) h2 (fun k h _ => by injection h with h; exact h.symm)) (fun k hk h => by
    have h : k = w1.heap.size := h
    have := h1.size
    omega)
theorem sh_one (x : Int) (l : List UInt8) : ∀ u ∈ sh x l, u.oneCell' = true := by
  intro u hu
  rcases List.mem_cons.1 hu with rfl | hu
  · rfl
  · exact bv1 _ u hu
theorem info_shot : (Try.prog.info? 215).map (fun i => (i.zero, i.size, i.bytes)) = some (some (.agg Try.zeroCells215), 65, 72) := by kernel_rfl
theorem sh_len (x : Int) (l : List UInt8) (hl : l.length ≤ 64) : (sh x l).length = 65 := by simp [sh, bv]; omega
set_option maxRecDepth 100000 in
set_option maxHeartbeats 1000000 in
theorem write_ok {de fu de' fu' : Int} {a : Addr} {n c g m : Nat} (R : Nat) (xs : List Value) (vp : Value) (x : Int) (l : List UInt8) (A : Option Addr) (cap : Nat) (w : World) (hR : R ≤ w.heap.size) (hn : n ≤ 8192) (hm : m ≤ 100000)
    (hde : 0 ≤ de ∧ de ≤ 1000000000) (hfu : 0 ≤ fu ∧ fu ≤ 9223372036854775807) (ht : tick de fu false = (0, de', fu', false)) (hx : 0 ≤ x ∧ x < (n : Int)) (hl : l.length ≤ 64)
    (hb : Blk w g 150 (dv de fu false (.slice (some a) n c) vp)) (hp : w.ownsRow R 215 65 vp m xs) (hs : Src w A l.length cap (bv l)) (hsb : ∀ ad, A = some ad → 0 < l.length → ¬ ad.block = g) :
    Calls Try.prog 67 #[.pointer (some ⟨g, 0, none⟩), .int .i64 x, .slice A l.length cap] w fun e w' => e = .returned (.int .i64 0) ∧ ∃ v', Blk w' g 150 (dv de' fu' false (.slice (some a) n c) v') ∧ w'.ownsRow R 215 65 v' (m + 1) (xs ++ sh x l) ∧ Turned (fun k => k = g ∨ vp.ownBlock = some k) w w' ∧ (∀ k, v'.ownBlock = some k → vp.ownBlock = some k ∨ w.heap.size ≤ k) := by
  have hd : decide (0 ≤ x ∧ x < (n : Int)) = true := decide_eq_true hx
  have hx1 := hx.1
  have hx2 := hx.2
  have h64 : ¬ (64 : Int) < (l.length : Int) := by omega
  have HT := hide ht
  have H := hide (And.intro hb (And.intro hp hs))
  have HDE := hide (And.intro hde hfu)
  clear hb hp hs ht hde hfu hx
  go_enter Try.func67, Try.ntmps67
  go_wp2_with fail
  refine (able_any _ H.out.1).mono ?_
  rintro e w' ⟨rfl, rfl⟩
  rw [if_neg (by simp)]
  dsimp only
  go_wp2_with fail
  refine (has_any _ hn x (by omega) H.out.1).mono ?_
  rintro e w' ⟨rfl, rfl⟩
  rw [hd]
  dsimp only
  go_wp2_with fail
  refine (next_any _ _ HDE.out.1 HDE.out.2 H.out.1).mono ?_
  rintro e w1 ⟨rfl, hb1, hg1⟩
  rw [HT.out] at hb1 ⊢
  have H1 := hide (And.intro hb1 hg1)
  clear hb1 hg1
  dsimp only
  have hz0 : Try.zeroCells215.setIfInBounds 0 (.int .i64 x) = (sh x []).toArray := by
    rw [show Try.zeroCells215 = (sh 0 []).toArray by kernel_rfl, List.setIfInBounds_toArray]
    rfl
  have hsz : (Try.prog.info? 215).map (·.size) = some (sh x []).toArray.size := by
    rw [show (sh x []).toArray.size = 65 by simp [sh, bv]]
    kernel_rfl
  have hzs : Try.zeroCells215.size = (sh x []).toArray.size := by
    rw [show (sh x []).toArray.size = 65 by simp [sh, bv]]
    kernel_rfl
  have hone : (sh x []).toArray.all (·.oneCell') = true := by kernel_rfl
  obtain ⟨S0, hS0⟩ : ∃ S0, S0 = (sh x []).toArray := ⟨_, rfl⟩
  rw [← hS0] at hz0 hsz hzs hone
  have HBN := hide (Blk.new w1 215 Try.zeroCells215)
  have HSB := hide hsb
  have HL : Hid ((bv l).length = Nat.min l.length 64) := hide (by rw [bvL]; exact (Nat.min_eq_left hl).symm)
  have HF : Hid (1 + (bv l).length ≤ S0.size) := hide (by rw [hS0, bvL]; simp [sh, bv]; omega)
  have HSRC : Hid (∀ w2, (w1.alloc (.cells Try.zeroCells215 215)).grownBy w2 (some w1.heap.size) → Src w2 A l.length cap (bv l)) := hide (fun w2 hg2 => H.out.2.2.turned2 (turned_two H1.out.2 hg2) HSB.out)
  have HS0 := hide hS0
  clear hS0
  go_wp2_with (first
    | ((with_reducible refine wpList_store_blkA (o := ⟨none, _, _, _, _, _⟩) rfl 215 (.tmp 8) (.tmp 33) rfl w1.heap.size Try.zeroCells215 S0 215 HBN.out hsz hzs hone ?_ ?_ ?_); rfl; rfl; intro w2 h2 hg2; have H2 := hide (And.intro h2 hg2); have H3 := hide (HSRC.out w2 hg2); clear h2 hg2; dsimp only [Act.put])
    | ((with_reducible refine wpList_copyS (o := ⟨some 37, _, _, _, _, _⟩) rfl (.tmp 35) (.tmp 36) 66 66 rfl 5 Try.underlying66 size5 w1.heap.size 1 64 64 A l.length cap S0 215 H2.out.1 (bv l) HL.out H3.out HF.out ?_ ?_ ?_); rfl; rfl; intro w3 h3 hg3; have H4 := hide (And.intro h3 hg3); clear h3 hg3; dsimp only [Act.put, List.setIfInBounds_toArray, List.set_cons_zero, List.set_cons_succ]))
  have hb13 : Below w1.heap.size w1 w3 := ((((Below.refl _ _).alloc (Nat.le_refl _) (.cells Try.zeroCells215 215)).grown H2.out.2 (by rw [size_alloc]; omega) (fun k hk => by injection hk with hk; omega))).grown H4.out.2 (by have := H2.out.2.size; rw [size_alloc] at this; omega) (fun k hk => by injection hk with hk; omega)
  have hdv := H1.out.1.below hb13 H1.out.1.lt
  have c4 := (hdv.cell 4).trans (dv4 ..)
  have f4 := hdv.frozen 4
  have hlt := hdv.lt
  obtain ⟨S1, hS1⟩ : ∃ S1, S1 = (sh x l).toArray := ⟨_, rfl⟩
  have hh3 : w3.heap[w1.heap.size]? = some (.cells S1 215 (0, 0)) := by
    have h := H4.out.1
    rw [HS0.out, sh_copy, ← hS1] at h
    exact h
  have hS1s : (Try.prog.info? 215).map (·.size) = some S1.size := by
    rw [hS1, show (sh x l).toArray.size = 65 by rw [List.size_toArray, sh_len x l hl]]
    kernel_rfl
  have H5 := hide (And.intro hb13 hdv)
  clear hb13 hdv
  have hpn : vp.ownBlock ≠ some g := owned_neN H.out.2.1 H.out.1 (by decide)
  have hp3 : w3.ownsRow R 215 65 vp m xs := owned_keepN H.out.2.1 fun k hk hlt => (H5.out.1.block k (by have := H1.out.2.size; omega)).trans (H1.out.2.block k hlt (fun e => hpn (hk.trans e)))
  have hRN : R ≤ w3.heap.size := by have := H1.out.2.size; have := H5.out.1.size; omega
  have hvN : ∀ k, vp.ownBlock = some k → k < w3.heap.size := fun k hk => (owned_ltN hp3 hk).2
  obtain ⟨i, hi, hz0, hz1, hz2⟩ := info_parts info_shot
  have hS1l : S1.size = 65 := by rw [hS1, List.size_toArray, sh_len x l hl]
  let X : World → World → Prop := Gro R 215 65 m 1 vp (xs ++ sh x l)
  let V44 := MadeRow w3.heap.size 215 S1
  let V45 := Grown R 215 65 m 1 vp (xs ++ sh x l) w3.heap.size
  have hL : ∀ p ∈ ([(44, V44), (45, V45)] : Gen.MadeL), Gen.MadeOk X p.2 := by
    intro p hp
    simp only [List.mem_cons, List.not_mem_nil, or_false] at hp
    rcases hp with rfl | rfl
    · refine ⟨fun u w w' => ?_, fun u w => ?_⟩
      · rintro ⟨r, rfl, hr, hb⟩ hx
        exact ⟨r, rfl, hr, (hx.1.block r hb.lt (fun hk => by have := hvN r hk; omega)).trans hb⟩
      · rintro ⟨r, rfl, hr, hb⟩
        exact ⟨r, rfl, hb.lt⟩
    · refine ⟨fun u w w' h hx => h.stays hx, fun u w h => ?_⟩
      obtain ⟨g, cap, h2⟩ := owned_placeN h.1 (by omega)
      exact ⟨g, by rw [h2]; rfl, (owned_ltN h.1 (by rw [h2]; rfl)).2⟩
  refine Gen.wp_made (X := X) 8 [(44, V44), (45, V45)] (by kernel_rfl) (by kernel_rfl) hL (by simp) (by simp) ?_
  simp only [List.take_succ_cons, List.take_zero, List.drop_succ_cons, List.drop_zero]
  have HG : ∀ W, Gen.Ext X w3 W → Blk W g 150 (dv de' fu' false (.slice (some a) n c) vp) := fun W hW => (hW.1.block g hlt (fun hk => hpn hk)).trans H5.out.2
  refine Gen.made_val (.pointer (some ⟨g, 0, none⟩)) (by kernel_rfl) (by kernel_rfl) (by kernel_rfl) (fun _ _ => by kernel_rfl) ?_
  simp only [Act.put, List.setIfInBounds_toArray, List.set_cons_zero, List.set_cons_succ]
  refine Gen.made_val (.pointer (some ⟨g, 0, none⟩)) (by kernel_rfl) (by kernel_rfl) (by kernel_rfl) (fun _ _ => by kernel_rfl) ?_
  simp only [Act.put, List.setIfInBounds_toArray, List.set_cons_zero, List.set_cons_succ]
  refine Gen.made_val (.pointer (some ⟨g, 0, none⟩)) (by kernel_rfl) (by kernel_rfl) (by kernel_rfl) (fun _ _ => by kernel_rfl) ?_
  simp only [Act.put, List.setIfInBounds_toArray, List.set_cons_zero, List.set_cons_succ]
  refine Gen.made_val (.pointer (some ⟨g, 4, none⟩)) (by kernel_rfl) (by kernel_rfl) (by kernel_rfl) (fun _ _ => by kernel_rfl) ?_
  simp only [Act.put, List.setIfInBounds_toArray, List.set_cons_zero, List.set_cons_succ]
  refine Gen.made_val vp (by kernel_rfl) (by kernel_rfl) (by kernel_rfl) (fun W hW => ?hld) ?_
  case hld =>
    exact exec_load_slice (o := ⟨some 42, _, _, _, _, _⟩) 148 215 (.tmp 41) rfl ⟨g, 4, none⟩ rfl vp W Try.underlying148 ((HG W hW).cell 4)
  simp only [Act.put, List.setIfInBounds_toArray, List.set_cons_zero, List.set_cons_succ]
  refine Gen.made_val (.agg S1) (by kernel_rfl) (by kernel_rfl) (by kernel_rfl) (fun W hW => exec_load_blk (o := ⟨some 43, _, _, _, _, _⟩) 215 (.tmp 8) rfl w1.heap.size rfl 215 S1 _ W ?hb8 Try.underlying215 rfl hS1s) ?_
  case hb8 =>
    exact (hW.1.block _ (Blk.lt hh3) (fun hk => by have := (owned_ltN H.out.2.1 hk).2; have := H1.out.2.size; omega)).trans hh3
  simp only [Act.put, List.setIfInBounds_toArray, List.set_cons_zero, List.set_cons_succ]
  refine Gen.made_new 44 V44 hL (by kernel_rfl) (by kernel_rfl) rfl rfl (fun W hW => ⟨_, _, W.heap.size, exec_build1 (o := ⟨some 44, _, _, _, _, _⟩) 148 215 (.tmp 43) rfl i _ S1 rfl Try.underlying148 hi hz0 (hz1.trans hS1l.symm) (by omega) (by omega) W, ?hx44, ⟨_, rfl, hW.1.size, Blk.new _ _ _⟩, rfl, Nat.le_refl _⟩) ?_
  case hx44 =>
    exact ⟨(Turned.refl _ _).alloc _, fun k hk _ => .inl (Below.heap_alloc _ _ _ (by have := hvN k hk; have := hW.1.size; omega))⟩
  simp only [Act.put, List.setIfInBounds_toArray, List.set_cons_zero, List.set_cons_succ]
  refine Gen.made_newg 44 V44 45 V45 (by kernel_rfl) rfl (by kernel_rfl) rfl rfl ?happ ?_
  case happ =>
    rintro u W hW ⟨r, rfl, hr, hb⟩
    have ho : W.ownsRow R 215 65 vp m xs := Gro.own hW hp3
    obtain ⟨v', W', h1, h2, h3, h4⟩ := run_appG (P := Try.prog) (w := W) R 148 148 215 i _ 65 72 Try.underlying148 hi hz0 hz1 hz2 (by kernel_rfl) (by omega) vp m xs ho ⟨r, 0, none⟩ 1 1 (sh x l) (by rw [sh_len x l hl]) (MadeRow.cells (by rw [hS1] at hb; exact hb)) (sh_one x l) (by omega) (by simp only [maxLen]; omega) (by omega) (by have := hW.1.size; omega)
    refine ⟨v', W', exec_append (o := ⟨some 45, _, _, _, _, _⟩) (.tmp 42) (.tmp 44) 148 rfl vp _ v' W W' rfl rfl h1, Gro.grow ho h2 h3 h4, Grown.of hp3 hW.1.size h2 h4, ?_⟩
    intro t V u' hne hV hu' e
    have hm := Gen.madeBy_mem hV
    simp only [List.mem_cons, List.not_mem_nil, or_false, Prod.mk.injEq] at hm
    rcases hm with ⟨rfl, rfl⟩ | ⟨rfl, rfl⟩
    · obtain ⟨r', rfl, hr', hb'⟩ := hu'
      rcases h4 with ⟨g', cap', e1, e2⟩ | ⟨e1, _⟩
      · rw [e2] at e
        injection e with e
        injection e with e
        injection e with e
        have := hvN g' (by rw [e1]; rfl)
        omega
      · rw [← e] at e1
        injection e1 with e1
        have e1 : r' = W.heap.size := e1
        have := hb'.lt
        omega
    · exact hne rfl
  simp only [Act.put, List.setIfInBounds_toArray, List.set_cons_zero, List.set_cons_succ]
  show ∀ w', _ → _
  intro w4 hx4
  simp only [Gen.ended, List.nil_append]
  intro u44 _ _ u45 h45 _
  simp only [Act.put, List.setIfInBounds_toArray, List.set_cons_zero, List.set_cons_succ]
  have b4 := HG w4 hx4
  have c4 := (b4.cell 4).trans (dv4 ..)
  have f4 := b4.frozen 4
  have hlt := b4.lt
  have H6 := hide (And.intro b4 (And.intro hx4 h45))
  obtain ⟨k45, cap45, hu45⟩ := owned_placeN h45.1 (by omega)
  clear b4 hx4 h45
  subst hu45
  go_wp2_with fail
  go_ret
  obtain ⟨b4, hx4, h45⟩ := H6.out
  have b5 := b4.set_ 4 (.slice (some ⟨k45, 0, none⟩) (m + 1) cap45)
  rw [dv_set4] at b5
  have hkg : k45 ≠ g := fun e => owned_neN h45.1 b4 (by decide) (by rw [← e]; rfl)
  have hT : Turned (fun k => k = g ∨ vp.ownBlock = some k) w' w4 := by
    have t1 : Turned (fun k => k = g ∨ vp.ownBlock = some k) w' w1 := Turned.of_grown H1.out.2 (fun k h _ => .inl (by injection h with h; exact h.symm))
    exact (t1.trans (Turned.of_below H5.out.1 _)).then_ hx4.1 (fun k _ h => .inr h)
  refine ⟨rfl, _, b5, owned_keepN h45.1 fun k hk _ => ?_, hT.setCell (fun _ => .inl rfl) _, fun k hk => ?_⟩
  · have hk : some k45 = some k := hk
    injection hk with hk
    exact Below.heap_setCell w4 ⟨g, 4, none⟩ _ k (fun e => hkg (by rw [hk]; exact e))
  · have hk : some k45 = some k := hk
    injection hk with hk
    subst hk
    rcases h45.2 with ⟨k', cap', e1, e2, _⟩ | ⟨r, hr, hN, _⟩
    · injection e2 with e2
      injection e2 with e2
      injection e2 with e2
      rw [e1, e2]
      exact .inl rfl
    · have hr : some k45 = some r := hr
      injection hr with hr
      have := H1.out.2.size
      have := H5.out.1.size
      exact .inr (by omega)
end Go.Proofs.Ytfppddnfdinipaa
end
section
namespace Go.Proofs.Ytfppddnfdinipaa
open Go Go.RowKit
/-- a device, plain: deeds, a fuse, is it down, what is kept, what is pending -/
structure Dv where
  de : Int
  fu : Int
  dn : Bool
  kept : List (List UInt8)
  pend : List (Int × List UInt8)
def pad (l : List UInt8) : List UInt8 := l ++ List.replicate (64 - l.length) 0
theorem pad_len (l : List UInt8) (h : l.length ≤ 64) : (pad l).length = 64 := by simp [pad]; omega
theorem sh_pad (x : Int) (l : List UInt8) (h : l.length ≤ 64) : sh x (pad l) = sh x l := by
  simp only [sh, pad_len l h, Nat.sub_self, List.replicate_zero, List.append_nil]
  rfl
def keptCells (l : List (List UInt8)) : List Value := (l.map bv).flatten
def pendCells (l : List (Int × List UInt8)) : List Value := (l.map fun p => sh p.1 p.2).flatten
theorem pend_add (l : List (Int × List UInt8)) (x : Int) (b : List UInt8) (h : b.length ≤ 64) : pendCells (l ++ [(x, pad b)]) = pendCells l ++ sh x b := by
  simp [pendCells, sh_pad x b h]
theorem owned_ne2 {w : World} {base base' n n' s s' g g' : Nat} {e e' : TypeId} {v v' : Value} {xs xs' : List Value} (h : w.ownsRow base e s v n xs) (h' : w.ownsRow base' e' s' v' n' xs') (hne : e ≠ e') (hg : v.ownBlock = some g) : v'.ownBlock = some g' → g ≠ g' := by
  intro hg' he
  subst he
  rcases owned_formN h' with ⟨rfl, _⟩ | ⟨g', cap, cur, rfl, _, _, _, hh, _⟩
  · cases hg'
  · have hg' : some g' = some g := hg'
    injection hg' with hg'
    subst hg'
    exact owned_neN h hh hne hg
structure Dv.Ok (D : Dv) : Prop where
  n1 : 1 ≤ D.kept.length
  n2 : D.kept.length ≤ 8192
  k64 : ∀ b ∈ D.kept, b.length = 64
  p64 : ∀ p ∈ D.pend, p.2.length = 64 ∧ 0 ≤ p.1 ∧ p.1 < (D.kept.length : Int)
  de : 0 ≤ D.de
  fu : 0 ≤ D.fu ∧ D.fu ≤ 9223372036854775807
def Foot (g rk : Nat) (vp : Value) (k : Nat) : Prop := k = g ∨ k = rk ∨ vp.ownBlock = some k
/-- a device in memory, and what it is made of -/
def DevAt (w : World) (F : Nat → Prop) (g : Nat) (D : Dv) : Prop := ∃ rk c vp, F = Foot g rk vp ∧ Blk w g 150 (dv D.de D.fu D.dn (.slice (some ⟨rk, 0, none⟩) D.kept.length c) vp) ∧
  w.ownsRow 0 213 64 (.slice (some ⟨rk, 0, none⟩) D.kept.length c) D.kept.length (keptCells D.kept) ∧ w.ownsRow 0 215 65 vp D.pend.length (pendCells D.pend) ∧ D.Ok
theorem DevAt.keep {w w' : World} {F : Nat → Prop} {g : Nat} {D : Dv} (h : DevAt w F g D) (hk : ∀ k, k < w.heap.size → F k → w'.heap[k]? = w.heap[k]?) : DevAt w' F g D := by
  obtain ⟨rk, c, vp, rfl, h1, h2, h3, h4⟩ := h
  refine ⟨rk, c, vp, rfl, (hk g h1.lt (.inl rfl)).trans h1, owned_keepN h2 fun k hg hl => hk k hl (.inr (.inl (by injection hg with hg; exact hg.symm))), owned_keepN h3 fun k hg hl => hk k hl (.inr (.inr hg)), h4⟩
theorem DevAt.lt {w : World} {F : Nat → Prop} {g : Nat} {D : Dv} (h : DevAt w F g D) : ∀ k, F k → k < w.heap.size := by
  obtain ⟨rk, c, vp, rfl, h1, h2, h3, h4⟩ := h
  rintro k (rfl | rfl | hk)
  · exact h1.lt
  · exact (owned_ltN h2 rfl).2
  · exact (owned_ltN h3 hk).2
/-- what a deed leaves: the device, all else as it was -/
def Left (w : World) (F : Nat → Prop) (g : Nat) (D : Dv) (w' : World) : Prop := ∃ F', DevAt w' F' g D ∧ Turned F w w' ∧ ∀ k, F' k → F k ∨ w.heap.size ≤ k
theorem Left.same {w : World} {F : Nat → Prop} {g : Nat} {D : Dv} (h : DevAt w F g D) : Left w F g D w := ⟨F, h, Turned.refl _ _, fun _ h => .inl h⟩
theorem Left.trans {w w' w'' : World} {F F' : Nat → Prop} {g : Nat} {D : Dv} (ht : Turned F w w') (hF : ∀ k, F' k → F k ∨ w.heap.size ≤ k) (h : Left w' F' g D w'') : Left w F g D w'' := by
  obtain ⟨F'', h1, h2, h3⟩ := h
  refine ⟨F'', h1, ht.then_ h2 (fun k hk hf => (hF k hf).resolve_right (by omega)), fun k hk => ?_⟩
  have := ht.size
  rcases h3 k hk with h | h
  · exact hF k h
  · exact .inr (by omega)
/-- a write, plain -/
def Dv.write (D : Dv) (x : Int) (l : List UInt8) : Int × Dv :=
  if D.dn then (10, D) else if (decide (0 ≤ x ∧ x < (D.kept.length : Int)) && decide (l.length ≤ 64)) = false then (2, D) else
  let t := tick D.de D.fu D.dn
  (t.1, { D with de := t.2.1, fu := t.2.2.1, dn := t.2.2.2, pend := if t.1 = 0 then D.pend ++ [(x, pad l)] else D.pend })
theorem tick_cases (de fu : Int) : (fu = 1 ∧ tick de fu false = (10, de, 0, true)) ∨ (∃ fu', tick de fu false = (0, de + 1, fu', false) ∧ (0 ≤ fu → 0 ≤ fu') ∧ fu' ≤ fu) := by
  unfold tick
  by_cases h1 : fu = 1
  · exact .inl ⟨h1, by simp [h1]⟩
  · by_cases h0 : fu = 0
    · exact .inr ⟨0, by simp [h0], fun _ => by omega, by omega⟩
    · exact .inr ⟨fu - 1, by simp [h0, h1], fun h => by omega, by omega⟩
/-- only the device's own block has turned -/
theorem left_own {w w' : World} {g rk c : Nat} {vp : Value} {D D' : Dv} {cs : Array Value} (h0 : Blk w g 150 cs) (hk : w.ownsRow 0 213 64 (.slice (some ⟨rk, 0, none⟩) D.kept.length c) D.kept.length (keptCells D.kept)) (hp : w.ownsRow 0 215 65 vp D.pend.length (pendCells D.pend))
    (hb : Blk w' g 150 (dv D'.de D'.fu D'.dn (.slice (some ⟨rk, 0, none⟩) D.kept.length c) vp)) (hg : w.grownBy w' (some g)) (ek : D'.kept = D.kept) (ep : D'.pend = D.pend) (hok : D'.Ok) : Left w (Foot g rk vp) g D' w' := by
  have hne : ∀ {n s : Nat} {e : TypeId} {v : Value} {xs : List Value}, w.ownsRow 0 e s v n xs → e ≠ 150 → w'.ownsRow 0 e s v n xs := fun h he => owned_keepN h fun k hv hl => hg.block k hl (fun e' => owned_neN h h0 he (by rw [hv, e']))
  refine ⟨_, ⟨rk, c, vp, rfl, by rw [ek]; exact hb, by rw [ek]; exact hne hk (by decide), by rw [ep]; exact hne hp (by decide), hok⟩, Turned.of_grown hg (fun k h _ => .inl (by injection h with h; exact h.symm)), fun _ h => .inl h⟩
section
variable {D : Dv}
theorem Dv.Ok.ticked (h : D.Ok) {t : Int × Int × Int × Bool} (ht : tick D.de D.fu false = t) (p : List (Int × List UInt8)) (hp : ∀ q ∈ p, q.2.length = 64 ∧ 0 ≤ q.1 ∧ q.1 < (D.kept.length : Int)) (dn : Bool) : Dv.Ok { D with de := t.2.1, fu := t.2.2.1, dn := dn, pend := p } := by
  refine ⟨h.n1, h.n2, h.k64, hp, ?_, ?_⟩
  · rcases tick_cases D.de D.fu with ⟨_, h2⟩ | ⟨f, h2, _⟩ <;> rw [← ht, h2]
    · exact h.de
    · have := h.de
      show 0 ≤ D.de + 1
      omega
  · rcases tick_cases D.de D.fu with ⟨_, h2⟩ | ⟨f, h2, h3, h4⟩ <;> rw [← ht, h2]
    · show (0 : Int) ≤ 0 ∧ (0 : Int) ≤ _
      omega
    · have := h.fu
      exact ⟨h3 this.1, by show f ≤ _; omega⟩
end
set_option maxRecDepth 100000 in
set_option maxHeartbeats 1000000 in
theorem write_any {D : Dv} {F : Nat → Prop} {g : Nat} (x : Int) (l : List UInt8) (A : Option Addr) (cap : Nat) (w : World) (h : DevAt w F g D) (hde : D.de ≤ 1000000000) (hm : D.pend.length ≤ 100000) (hx : -9223372036854775808 ≤ x ∧ x ≤ 9223372036854775807) (hl : l.length ≤ 1000000000)
    (hs : Src w A l.length cap (bv l)) (hsb : ∀ ad, A = some ad → 0 < l.length → ¬ F ad.block) :
    Calls Try.prog 67 #[.pointer (some ⟨g, 0, none⟩), .int .i64 x, .slice A l.length cap] w fun e w' => e = .returned (.int .i64 (D.write x l).1) ∧ Left w F g (D.write x l).2 w' := by
  have h0 := h
  obtain ⟨rk, c, vp, rfl, hb, hk, hp, hok⟩ := h
  have HO := hide hok
  have H := hide (And.intro hb (And.intro hk (And.intro hp h0)))
  clear hb hk hp h0
  cases hdn : D.dn with
  | true =>
    rw [show D.write x l = (10, D) by simp [Dv.write, hdn]]
    clear hs hsb
    go_enter Try.func67, Try.ntmps67
    go_wp2_with fail
    refine (able_any _ H.out.1).mono ?_
    rintro e w' ⟨rfl, rfl⟩
    rw [hdn, if_pos rfl]
    dsimp only
    go_wp2_with fail
    go_ret
    exact ⟨rfl, .same H.out.2.2.2⟩
  | false =>
    have Hb := H.out.1
    rw [hdn] at Hb
    by_cases hin : 0 ≤ x ∧ x < (D.kept.length : Int)
    · by_cases h64 : l.length ≤ 64
      · have hwr : D.write x l = ((tick D.de D.fu false).1, { D with de := (tick D.de D.fu false).2.1, fu := (tick D.de D.fu false).2.2.1, dn := (tick D.de D.fu false).2.2.2, pend := if (tick D.de D.fu false).1 = 0 then D.pend ++ [(x, pad l)] else D.pend }) := by
          simp [Dv.write, hdn, hin, h64]
        rcases tick_cases D.de D.fu with ⟨hf, ht⟩ | ⟨fu', ht, hf⟩
        · rw [hwr, ht]
          have ok' := hok.ticked ht D.pend hok.p64 true
          have hd : decide (0 ≤ x ∧ x < (D.kept.length : Int)) = true := decide_eq_true hin
          have h65 : ¬ (64 : Int) < (l.length : Int) := by omega
          have HT := hide (And.intro ht (And.intro hok.de hok.fu))
          have HX := hide ok'
          clear hs hsb ok' hok hwr ht
          go_enter Try.func67, Try.ntmps67
          go_wp2_with fail
          refine (able_any _ Hb).mono ?_
          rintro e w' ⟨rfl, rfl⟩
          rw [if_neg (by simp)]
          dsimp only
          go_wp2_with fail
          refine (has_any _ HO.out.n2 x hx Hb).mono ?_
          rintro e w' ⟨rfl, rfl⟩
          rw [hd]
          dsimp only
          go_wp2_with fail
          refine (next_any _ _ ⟨HT.out.2.1, hde⟩ HT.out.2.2 Hb).mono ?_
          rintro e w1 ⟨rfl, hb1, hg1⟩
          rw [HT.out.1] at hb1 ⊢
          dsimp only
          have H1 := hide (And.intro hb1 hg1)
          clear hb1 hg1
          go_wp2_with fail
          go_ret
          exact ⟨rfl, left_own Hb H.out.2.1 H.out.2.2.1 H1.out.1 H1.out.2 rfl (by simp) HX.out⟩
        · rw [hwr, ht]
          refine (write_ok 0 (pendCells D.pend) vp x l A cap w (Nat.zero_le _) hok.n2 hm ⟨hok.de, hde⟩ hok.fu ht hin h64 Hb H.out.2.2.1 hs (fun ad ha h0 e => hsb ad ha h0 (.inl e))).mono ?_
          rintro e w' ⟨rfl, v', b', o', ht', hv'⟩
          have hpk : vp.ownBlock ≠ some rk := fun e => owned_ne2 H.out.2.2.1 H.out.2.1 (by decide) e rfl rfl
          have hgk : rk ≠ g := fun e => owned_neN H.out.2.1 Hb (by decide) (by rw [← e]; rfl)
          have ok' := hok.ticked ht (D.pend ++ [(x, pad l)]) (fun q hq => by
            rcases List.mem_append.1 hq with hq | hq
            · exact hok.p64 q hq
            · rw [List.mem_singleton.1 hq]
              exact ⟨pad_len l h64, hin⟩) false
          refine ⟨rfl, Foot g rk v', ⟨rk, c, v', rfl, b', owned_keepN H.out.2.1 fun k hv hlt => ht'.block k hlt ?_, ?_, ok'⟩, ht'.mono fun k _ h => ?_, ?_⟩
          · have hv : some rk = some k := hv
            injection hv with hv
            subst hv
            rintro (e | e)
            · exact hgk e
            · exact hpk e
          · show w'.ownsRow 0 215 65 v' (D.pend ++ [(x, pad l)]).length (pendCells (D.pend ++ [(x, pad l)]))
            rw [pend_add _ _ _ h64, List.length_append]
            exact o'
          · rcases h with h | h
            · exact .inl h
            · exact .inr (.inr h)
          · rintro k (h | h | h)
            · exact .inl (.inl h)
            · exact .inl (.inr (.inl h))
            · rcases hv' k h with h | h
              · exact .inl (.inr (.inr h))
              · exact .inr h
      · rw [show D.write x l = (2, D) by simp [Dv.write, hdn, h64]]
        have hd : decide (0 ≤ x ∧ x < (D.kept.length : Int)) = true := decide_eq_true hin
        have h65 : (64 : Int) < (l.length : Int) := by omega
        clear hs hsb
        go_enter Try.func67, Try.ntmps67
        go_wp2_with fail
        refine (able_any _ Hb).mono ?_
        rintro e w' ⟨rfl, rfl⟩
        rw [if_neg (by simp)]
        dsimp only
        go_wp2_with fail
        refine (has_any _ hok.n2 x hx Hb).mono ?_
        rintro e w' ⟨rfl, rfl⟩
        rw [hd]
        dsimp only
        go_wp2_with fail
        go_ret
        exact ⟨rfl, .same H.out.2.2.2⟩
    · rw [show D.write x l = (2, D) by simp [Dv.write, hdn, hin]]
      have hd : decide (0 ≤ x ∧ x < (D.kept.length : Int)) = false := decide_eq_false hin
      clear hs hsb
      go_enter Try.func67, Try.ntmps67
      go_wp2_with fail
      refine (able_any _ Hb).mono ?_
      rintro e w' ⟨rfl, rfl⟩
      rw [if_neg (by simp)]
      dsimp only
      go_wp2_with fail
      refine (has_any _ hok.n2 x hx Hb).mono ?_
      rintro e w' ⟨rfl, rfl⟩
      rw [hd]
      dsimp only
      go_wp2_with fail
      go_ret
      exact ⟨rfl, .same H.out.2.2.2⟩
end Go.Proofs.Ytfppddnfdinipaa
end
section
namespace Go.Proofs.Ytfppddnfdinipaa
open Go Go.RowKit
theorem flat_len {α : Type} {s : Nat} : ∀ (l : List (List α)), (∀ b ∈ l, b.length = s) → l.flatten.length = l.length * s
  | [], _ => by simp
  | b :: l, h => by
    have h1 := h b (by simp)
    have h2 := flat_len l (fun c hc => h c (by simp [hc]))
    simp [h1, h2, Nat.add_mul, Nat.add_comm]
theorem flat_at {α : Type} {s : Nat} : ∀ (l : List (List α)) (k : Nat) (b : List α), (∀ b ∈ l, b.length = s) → l[k]? = some b → (l.flatten.drop (k * s)).take s = b
  | [], _, _, _, h => by simp at h
  | b :: l, 0, c, hs, h => by
    have h1 := hs b (by simp)
    simp at h
    subst h
    simp [← h1]
  | b :: l, k + 1, c, hs, h => by
    have h1 := hs b (by simp)
    rw [List.flatten_cons, List.drop_append, show (k + 1) * s - b.length = k * s by rw [h1, Nat.add_mul]; omega, List.drop_eq_nil_of_le (by rw [h1, Nat.add_mul]; omega), List.nil_append]
    exact flat_at l k c (fun d hd => hs d (by simp [hd])) (by simpa using h)
theorem flat_set {α : Type} {s : Nat} (c : List α) (hc : c.length = s) : ∀ (l : List (List α)) (k : Nat), (∀ b ∈ l, b.length = s) → k < l.length → (l.set k c).flatten = l.flatten.take (k * s) ++ (c ++ l.flatten.drop (k * s + c.length))
  | [], _, _, h => by simp at h
  | b :: l, 0, hs, h => by
    have h1 := hs b (by simp)
    simp [hc, ← h1]
  | b :: l, k + 1, hs, h => by
    have h1 := hs b (by simp)
    have e : (k + 1) * s = b.length + k * s := by rw [h1, Nat.add_mul]; omega
    have t1 : ∀ m : Nat, (b ++ l.flatten).take (b.length + m) = b ++ l.flatten.take m := fun m => by rw [List.take_append, List.take_of_length_le (by omega), Nat.add_sub_cancel_left]
    have t2 : ∀ m : Nat, (b ++ l.flatten).drop (b.length + m) = l.flatten.drop m := fun m => by rw [List.drop_append, List.drop_eq_nil_of_le (by omega), Nat.add_sub_cancel_left, List.nil_append]
    rw [List.set_cons_succ, List.flatten_cons, List.flatten_cons, flat_set c hc l k (fun d hd => hs d (by simp [hd])) (by simpa using h), e, Nat.add_assoc, t1, t2, List.append_assoc]
theorem Blk.setCells {g : Nat} {t : TypeId} : ∀ (vs : List Value) (o : Nat) (w : World) (cs : Array Value), Blk w g t cs → o + vs.length ≤ cs.size → Blk (w.setCells g o vs) g t (cs.toList.take o ++ (vs ++ cs.toList.drop (o + vs.length))).toArray
  | [], o, w, cs, h, _ => by simpa [World.setCells] using h
  | v :: vs, o, w, cs, h, hl => by
    simp only [List.length_cons] at hl
    have h2 := Blk.setCells vs (o + 1) _ _ (h.set_ o v) (by simp; omega)
    rw [World.setCells]
    have e : (cs.setIfInBounds o v).toList.take (o + 1) ++ (vs ++ (cs.setIfInBounds o v).toList.drop (o + 1 + vs.length)) = cs.toList.take o ++ (v :: vs ++ cs.toList.drop (o + (v :: vs).length)) := by
      have ho : o < cs.toList.length := by simp; omega
      rw [Array.toList_setIfInBounds, List.drop_set_of_lt (by omega), List.take_set, List.take_succ_eq_append_getElem ho, List.set_append_right _ _ (by simp; omega)]
      have e2 : o - (List.take o cs.toList).length = 0 := by simp; omega
      rw [e2]
      simp [Nat.add_comm, Nat.add_left_comm]
    rwa [e] at h2
theorem grown_setCells {g : Nat} {a : World} : ∀ (vs : List Value) (o : Nat) (w : World), a.grownBy w (some g) → a.grownBy (w.setCells g o vs) (some g)
  | [], _, _, h => h
  | v :: vs, o, w, h => by
    rw [World.setCells]
    exact grown_setCells vs (o + 1) _ (only_setCell h (.inl rfl) v)
section
variable {w : World} {base g n cap s : Nat} {e : TypeId} {xs : List Value}
theorem own_setCells (h : w.ownsRow base e s (.slice (some ⟨g, 0, none⟩) n cap) n xs) (o : Nat) (vs : List Value) (hf : o + vs.length ≤ n * s) : (w.setCells g o vs).ownsRow base e s (.slice (some ⟨g, 0, none⟩) n cap) n (xs.take o ++ (vs ++ xs.drop (o + vs.length))) := by
  have hl := h.1
  rcases owned_formN h with ⟨h, _⟩ | ⟨g', cap', cur, h', hb, hn, hc, hh, hs, ht, _⟩
  · cases h
  · injection h' with e1 e2 e3
    injection e1 with e1
    injection e1 with e1
    subst e1 e3
    have hns : n * s ≤ cap * s := Nat.mul_le_mul_right _ hn
    refine ⟨by simp; omega, .inr ⟨g, cap, _, rfl, hb, Blk.setCells vs o w cur hh (by omega), hn, hc, by simp; omega, ?_⟩⟩
    have e : cur.toList = xs ++ cur.toList.drop (n * s) := by rw [← ht, List.take_append_drop]
    show (cur.toList.take o ++ (vs ++ cur.toList.drop (o + vs.length))).take (n * s) = _
    have e1 : cur.toList.take o = xs.take o := by rw [← ht, List.take_take]; congr 1; omega
    have e2 : cur.toList.drop (o + vs.length) = xs.drop (o + vs.length) ++ cur.toList.drop (n * s) := by
      rw [e, List.drop_append, show o + vs.length - xs.length = 0 by omega, List.drop_zero, ← e]
    rw [e1, e2, ← List.append_assoc, ← List.append_assoc]
    rw [List.take_append_of_le_length (by simp; omega), List.take_of_length_le (by simp; omega), List.append_assoc]
theorem own_range (h : w.ownsRow base e s (.slice (some ⟨g, 0, none⟩) n cap) n xs) (o m : Nat) (cs : List Value) (hcs : (xs.drop o).take m = cs) : w.rangeAt g o cs := by
  rcases owned_formN h with ⟨h, _⟩ | ⟨g', cap', cur, h', hb, hn, hc, hh, hs, ht, _⟩
  · cases h
  · injection h' with e1 e2 e3
    injection e1 with e1
    injection e1 with e1
    subst e1 e3
    intro j v hv
    rw [hh.cell, ← Array.getElem?_toList]
    rw [← hcs, List.getElem?_take, List.getElem?_drop, ← ht, List.getElem?_take] at hv
    split at hv
    · split at hv
      · exact hv
      · cases hv
    · cases hv
theorem own_there (h : w.ownsRow base e s (.slice (some ⟨g, 0, none⟩) n cap) n xs) (o m : Nat) (hf : o + m ≤ n * s) : w.there g o m := by
  rcases owned_formN h with ⟨h, _⟩ | ⟨g', cap', cur, h', hb, hn, hc, hh, hs, ht, _⟩
  · cases h
  · injection h' with e1 e2 e3
    injection e1 with e1
    injection e1 with e1
    subst e1 e3
    intro j hj
    have hns : n * s ≤ cap * s := Nat.mul_le_mul_right _ hn
    have hlt : o + j < cur.size := by omega
    exact ⟨by rw [hh.cell, Array.getElem?_eq_getElem hlt]; rfl, hh.frozen _⟩
end
section
variable {P : Program} {ρ : Operand → Value} {o : Oper}
theorem exec_index (ty e : TypeId) (x i : Operand) (ho : o.op = .indexAddr ty x i) (g n cap : Nat) (k : Int) (kk : IntKind) (hx : ρ x = .slice (some ⟨g, 0, none⟩) n cap) (hi : ρ i = .int kk k) (hk : 0 ≤ k ∧ k < (n : Int)) (s : Nat) (hu : P.underlying ty = some (.slice e)) (hs : (P.info? e).map (·.size) = some s) (w : World) :
    (execOp ρ o).run P w = .ok (.value (.pointer (some ⟨g, k.toNat * s, none⟩))) w := by
  have e2 : P.elem ty = e := by simp [Program.elem, hu]
  unfold execOp
  simp only [ho, hx, hi, Sem.run_bind, Sem.run_pure, run_indexAt_slice w ty _ _ _ kk k (by rw [e2]; exact hu), e2, if_pos hk]
  cases hq : P.info? e with
  | none => simp [hq] at hs
  | some i =>
    have h1 : i.size = s := by simpa [hq] using hs
    have e0 : (⟨g, 0, none⟩ : Addr).add (k.toNat * s) = ⟨g, k.toNat * s, none⟩ := by rw [Addr.add_mid, Nat.zero_add]
    simp [sizeOf, typeInfo, hq, h1, e0]
theorem exec_load_mid (ty : TypeId) (x : Operand) (ho : o.op = .load ty x) (b off : Nat) (hx : ρ x = .pointer (some ⟨b, off, none⟩)) (cs : List Value) (d : TypeDesc) (w : World) (hc : w.rangeAt b off cs)
    (hu : P.underlying ty = some d) (hd : d.isRow = true) (hi : (P.info? ty).map (·.size) = some cs.length) : (execOp ρ o).run P w = .ok (.value (.agg cs.toArray)) w := by
  unfold execOp
  simp only [ho, hx, Instr.loadAt, Instr.sureAddr, Sem.run_bind, Sem.run_pure, Result.andThen_ok, run_loadVar_mid w b off ty cs d hc hu hd hi]
/-- one cell is loaded -/
theorem exec_load_cell (ty : TypeId) (x : Operand) (ho : o.op = .load ty x) (p : Addr) (hx : ρ x = .pointer (some p)) (u : Value) (d : TypeDesc) (w : World) (hu : P.underlying ty = some d) (hd : d.isRow = false) (hc : w.cell? p = some u) : (execOp ρ o).run P w = .ok (.value u) w := by
  have hagg : (isAgg ty).run P w = .ok false w := by
    unfold isAgg
    rw [Sem.run_bind, run_underlying hu w]
    cases d <;> simp_all
  unfold execOp
  simp [ho, hx, Instr.loadAt, Instr.sureAddr, loadVar, hagg, hc]
end
end Go.Proofs.Ytfppddnfdinipaa
end
