/- FreshTail's law, for a relation of worlds that one chooses: what the head's operations may do. Made's law, for a relation of worlds that one chooses. rows of structs: append onto one, and where the new row lies. package dev: a write. package dev: a device, plain; a write, whatever comes of it. rows of arrays; cells in the middle of a block. package dev: rows of arrays; cells in the middle of a block; what settles, plain. package dev: the walk of settle. package dev: what flushes, what wakes. package dev: deeds, as a device's contracts; what is kept is told. -/
import Derived.Test.YtfppddnfdinipaaMBK1
import Derived.Below
import Derived.ChangeSlices
import Derived.Deep.QuietTactic
import Derived.BigQuiet
section
namespace Go.Proofs.Ytfppddnfdinipaa.Gen
open Go Go.RowKit
/-- what the head may do to the world -/
class RelOk (X : World → World → Prop) : Prop where
  refl : ∀ w, X w w
  trans : ∀ a b c, X a b → X b c → X a c
  drew : ∀ w, X w w.drew
def Ext (X : World → World → Prop) (w w' : World) : Prop := X w w'
theorem Ext.refl {X : World → World → Prop} [RelOk X] (w : World) : Ext X w w := RelOk.refl (X := X) w
theorem Ext.trans {X : World → World → Prop} [RelOk X] {a b c : World} (h : Ext X a b) (k : Ext X b c) : Ext X a c := RelOk.trans (X := X) a b c h k
theorem Ext.drew {X : World → World → Prop} [RelOk X] (w : World) : Ext X w w.drew := RelOk.drew (X := X) w
/-- what is made, slot by slot -/
abbrev Made := Tmp → Option (Value → World → Prop)

section
variable {P : Program} {ops : Array Oper} {md : Region.Mode} {F : Made} {w0 : World} {X : World → World → Prop} [RelOk X]

/-- what a made thing is stays X so -/
def stays (X : World → World → Prop) (F : Made) : Prop := ∀ t V, F t = some V → ∀ u w w', V u w → Ext X w w' → V u w'

/-- an operation hands on one value -/
def quietTo (X : World → World → Prop) (P : Program) (v : Value) (w : World) : Result Next → Prop
  | .ok (.value u) w' => w' = w ∧ u = v
  | .ok .skip w' => w' = w ∧ v = undef
  | .ok (.enter f args) w' => w' = w ∧ Calls P f args w (fun e w'' => e = .returned v ∧ Ext X w w'')
  | _ => False
/-- a value is none of the made ones -/
def newTo (F : Made) (d : Option Tmp) (w : World) (u : Value) : Prop := ∀ t V u', d ≠ some t → F t = some V → V u' w → u' ≠ u
/-- an operation makes something -/
def freshTo (X : World → World → Prop) (P : Program) (F : Made) (d : Option Tmp) (V : Value → World → Prop) (w : World) : Result Next → Prop
  | .ok (.value u) w' => Ext X w w' ∧ V u w' ∧ newTo F d w u
  | .ok (.enter f args) w' => w' = w ∧ Calls P f args w (fun e w'' => ∃ u, e = .returned u ∧ Ext X w w'' ∧ V u w'' ∧ newTo F d w u)
  | _ => False
/-- the one or the other -/
def makesTo (X : World → World → Prop) (P : Program) (F : Made) (d : Option Tmp) (V? : Option (Value → World → Prop)) (v : Value) (w : World) (r : Result Next) : Prop :=
  match V? with
  | some V => v = undef ∧ freshTo X P F d V w r
  | none => quietTo X P v w r

/-- frames that are one but for made slots -/
def Same (F : Made) (a b : Act) : Prop := a.defers = b.defers ∧ a.tmps.size = b.tmps.size ∧ ∀ t, F t = none → a.tmps[t]? = b.tmps[t]?

/-- the made slots that are looked at hold what they should -/
def Holds (F : Made) (l : List Tmp) (b : Act) (w : World) : Prop := ∀ t ∈ l, ∀ V, F t = some V → ∃ u, b.tmps[t]? = some u ∧ V u w

/-- what an operation does in whatever frame that is as 'a' but for made slots, and whose made slots that it looks at hold what they should -/
def Does (X : World → World → Prop) (P : Program) (ops : Array Oper) (F : Made) (w0 : World) (o : Oper) (v : Value) (a : Act) : Prop :=
  ∀ b w, Ext X w0 w → Same F b a → Holds F (o.looksAt ops) b w →
    (Region.wanted o (yielded ops b.tmps) = true → makesTo X P F o.dst (o.dst.bind F) v w ((execOp b.eval o).run P w)) ∧
    (Region.wanted o (yielded ops b.tmps) = false → v = undef ∧ o.dst.bind F = none)

theorem tmps_put (a : Act) (d : Tmp) (x : Value) (t : Tmp) (h : t ≠ d) : (a.put (some d) x).tmps[t]? = a.tmps[t]? := by
  simp only [Act.put]
  rw [Array.getElem?_setIfInBounds_ne (Ne.symm h)]
theorem size_put (a : Act) (dst : Option Tmp) (x : Value) : (a.put dst x).tmps.size = a.tmps.size := by cases dst <;> simp [Act.put]
theorem defers_put (a : Act) (dst : Option Tmp) (x : Value) : (a.put dst x).defers = a.defers := by cases dst <;> rfl
theorem tmps_put_at (a : Act) (d : Tmp) (x : Value) : (a.put (some d) x).tmps[d]? = if d < a.tmps.size then some x else none := by
  simp only [Act.put, Array.getElem?_setIfInBounds, if_true]
theorem Same.put {a b : Act} (h : Same F a b) (dst : Option Tmp) (x : Value) : Same F (a.put dst x) (b.put dst x) := by
  refine ⟨by rw [defers_put, defers_put, h.1], by rw [size_put, size_put, h.2.1], fun t ht => ?_⟩
  cases dst with
  | none => exact h.2.2 t ht
  | some d =>
    by_cases e : t = d
    · subst e
      rw [tmps_put_at, tmps_put_at, h.2.1]
    · rw [tmps_put _ _ _ _ e, tmps_put _ _ _ _ e]
      exact h.2.2 t ht

theorem Holds.put {l : List Tmp} {b : Act} {w : World} (dst : Option Tmp) (x : Value) (hl : ∀ d, dst = some d → d ∉ l) : Holds F l (b.put dst x) w ↔ Holds F l b w := by
  unfold Holds
  constructor
  · intro h t ht V hV
    obtain ⟨u, hu, hv⟩ := h t ht V hV
    refine ⟨u, ?_, hv⟩
    cases dst with
    | none => exact hu
    | some d => rwa [tmps_put _ _ _ _ (fun e => hl d rfl (by rw [← e]; exact ht))] at hu
  · intro h t ht V hV
    obtain ⟨u, hu, hv⟩ := h t ht V hV
    refine ⟨u, ?_, hv⟩
    cases dst with
    | none => exact hu
    | some d => rw [tmps_put _ _ _ _ (fun e => hl d rfl (by rw [← e]; exact ht))]; exact hu

omit [RelOk X] in
/-- another slot makes no difference -/
theorem Does.of_put {o : Oper} (hs : ∀ cs b, o.op ≠ .select cs b) {v : Value} {a : Act} {dst : Option Tmp} {x : Value} (hd : ∀ d, dst = some d → d ∉ o.looksAt ops) (h : Does X P ops F w0 o v (a.put dst x)) : Does X P ops F w0 o v a := by
  intro b w hw hb hh
  have h2 := h (b.put dst x) w hw (hb.put dst x) ((Holds.put dst x hd).2 hh)
  rwa [wanted_put o b dst x hd, execOp_put o hs b dst x hd] at h2
omit [RelOk X] in
theorem Does.put {o : Oper} (hs : ∀ cs b, o.op ≠ .select cs b) {v : Value} {a : Act} {dst : Option Tmp} {x : Value} (hd : ∀ d, dst = some d → d ∉ o.looksAt ops) (h : Does X P ops F w0 o v a) : Does X P ops F w0 o v (a.put dst x) := by
  cases dst with
  | none => exact h
  | some d =>
    intro b w hw hb hh
    have hsame : Same F (b.put (some d) (a.tmps.getD d undef)) a := by
      refine ⟨by rw [defers_put, hb.1, defers_put], by rw [size_put, hb.2.1, size_put], fun t ht => ?_⟩
      by_cases e : t = d
      · subst e
        rw [tmps_put_at, hb.2.1, size_put]
        split
        · rename_i hlt; simp [hlt]
        · rename_i hlt; rw [Array.getElem?_eq_none (Nat.le_of_not_lt hlt)]
      · rw [tmps_put _ _ _ _ e, hb.2.2 t ht, tmps_put _ _ _ _ e]
    have h2 := h (b.put (some d) (a.tmps.getD d undef)) w hw hsame ((Holds.put (some d) _ hd).2 hh)
    rwa [wanted_put o b (some d) _ hd, execOp_put o hs b (some d) _ hd] at h2

def absOp (X : World → World → Prop) (P : Program) (ops : Array Oper) (F : Made) (w0 : World) (i : Nat) (K : Act → Prop) (a : Act) : Prop :=
  match ops[i]? with
  | none => K a
  | some o => ∃ v, Does X P ops F w0 o v a ∧ K (a.put o.dst v)
omit [RelOk X] in
theorem absOp_mono {i : Nat} {a : Act} {K K' : Act → Prop} (h : ∀ a, K a → K' a) (hh : absOp X P ops F w0 i K a) : absOp X P ops F w0 i K' a := by
  unfold absOp at *
  cases ho : ops[i]? with
  | none => simp only [ho] at hh; exact h _ hh
  | some o =>
    simp only [ho] at hh
    obtain ⟨v, h1, h2⟩ := hh
    exact ⟨v, h1, h _ h2⟩

omit [RelOk X] in
theorem absOp_put {j : Nat} {oi oj : Oper} {v : Value} (hj : ops[j]? = some oj) (hap : oi.apart ops oj = true)
    (hsi : ∀ cs b, oi.op ≠ .select cs b) (hsj : ∀ cs b, oj.op ≠ .select cs b) {K : Act → Prop} {a : Act}
    (hy : Does X P ops F w0 oi v a) (h : absOp X P ops F w0 j K (a.put oi.dst v)) :
    absOp X P ops F w0 j (fun a' => Does X P ops F w0 oi v a' ∧ K (a'.put oi.dst v)) a := by
  obtain ⟨h1, h2, h3⟩ := Oper.apart_spec hap
  unfold absOp at *
  simp only [hj] at *
  obtain ⟨u, hu, hk⟩ := h
  exact ⟨u, hu.of_put hsj h1, hy.put hsi h3, by rw [← Act.put_comm a v u h2]; exact hk⟩

/-- whatever order the head is taken in, L holds when it is done -/
def headF (X : World → World → Prop) (P : Program) (md : Region.Mode) (ops : Array Oper) (F : Made) (w0 : World) (n : Nat) (L : Array Bool → Act → Prop) : Nat → Array Bool → Act → Prop
  | 0, d, a => L d a
  | f + 1, d, a => Region.ready md ops d ≠ [] ∧ ∀ i ∈ Region.ready md ops d, i < n ∧ absOp X P ops F w0 i (headF X P md ops F w0 n L f (d.setIfInBounds i true)) a

omit [RelOk X] in
theorem headF_first {n i : Nat} {oi : Oper} {v : Value} {L : Array Bool → Act → Prop} (hi : ops[i]? = some oi) (hsel : ∀ (j : Nat) (o : Oper) cs b, ops[j]? = some o → o.op ≠ .select cs b)
    (hs : Region.sinkB md ops n = true) (hc : Region.chainB md ops n = true) (hn : n < ops.size) (hin : i < n) (hdone : ∀ d a, L d a → ∀ j ∈ Region.ready md ops d, n ≤ j) (f : Nat) :
    ∀ (d : Array Bool) (a : Act), HeadInv md ops n d →
      (∀ j oj, ops[j]? = some oj → j ≠ i → d.getD j true = false → (∀ e ∈ oj.after, Region.binds md e = true → e.on ≠ i) → oi.apart ops oj = true) →
      i ∈ Region.ready md ops d → Does X P ops F w0 oi v a →
      headF X P md ops F w0 n L f (d.setIfInBounds i true) (a.put oi.dst v) → headF X P md ops F w0 n L (f + 1) d a := by
  have own : ∀ (K : Act → Prop) (a : Act), Does X P ops F w0 oi v a → K (a.put oi.dst v) → absOp X P ops F w0 i K a := by
    intro K a hy hk
    unfold absOp
    simp only [hi]
    exact ⟨v, hy, hk⟩
  induction f with
  | zero =>
    intro d a inv _ hr hy H
    refine ⟨List.ne_nil_of_mem hr, fun j hj => ?_⟩
    have hjn := headQ_lt hs hc hn inv hin (mem_ready.1 hr).1 hj
    refine ⟨hjn, ?_⟩
    rcases Nat.decEq j i with hji | hji
    · exact absurd (hdone _ _ H j (ready_mono hj hji)) (by omega)
    · subst hji
      exact own _ _ hy H
  | succ f ih =>
    intro d a inv hfree hr hy H
    refine ⟨List.ne_nil_of_mem hr, fun j hj => ?_⟩
    have hjn := headQ_lt hs hc hn inv hin (mem_ready.1 hr).1 hj
    refine ⟨hjn, ?_⟩
    rcases Nat.decEq j i with hji | hji
    · obtain ⟨hjun, oj, hoj, hall⟩ := mem_ready.1 hj
      have hnot : ∀ e ∈ oj.after, Region.binds md e = true → e.on ≠ i := by
        intro e he hb heq
        have h1 := hall e he hb
        rw [heq, getD_both (mem_ready.1 hr).1] at h1
        cases h1
      have hstep := absOp_put hoj (hfree j oj hoj hji hjun hnot) (fun cs b => hsel i oi cs b hi) (fun cs b => hsel j oj cs b hoj) hy (H.2 j (ready_mono hj hji)).2
      refine absOp_mono (fun a' h3 => ih (d.setIfInBounds j true) a' (inv.set hj hjn) ?_ (ready_mono hr (Ne.symm hji)) h3.1 ?_) hstep
      · intro k ok hk hki hunk hno
        refine hfree k ok hk hki ?_ hno
        rcases Nat.decEq j k with hjk | hjk
        · rwa [getD_set_ne true hjk] at hunk
        · subst hjk
          exact hjun
      · rw [Array.setIfInBounds_comm _ _ hji]
        exact h3.2
    · subst hji
      exact own _ _ hy H

/-- the walk in the text's order -/
def wpMade (X : World → World → Prop) (P : Program) (ops : Array Oper) (F : Made) (w0 : World) (Q : Act → Prop) : List Oper → Act → Prop
  | [], a => Q a
  | o :: rest, a => ∃ v, Does X P ops F w0 o v a ∧ wpMade X P ops F w0 Q rest (a.put o.dst v)

omit [RelOk X] in
theorem headF_lex {n g : Nat} {Lq : Act → Prop} (hsel : Region.noSelect ops = true) (hs : Region.sinkB md ops n = true) (hc : Region.chainB md ops n = true) (hn : n < ops.size) :
    ∀ (l : List Oper) (k : Nat) (d : Array Bool) (a : Act), (∀ j, j < l.length → l[j]? = ops[k + j]?) → k + l.length = n → HeadInv md ops n d → (∀ i, i < k → d.getD i false = true) →
    Region.lexHead md ops g l.length k d = true → wpMade X P ops F w0 Lq l a →
    headF X P md ops F w0 n (fun d' a' => (Region.seqB md ops g n d' = true ∧ ∀ i, i < n → d'.getD i false = true) ∧ Lq a') l.length d a
  | [], k, d, a, _, hk, _, hd, hB, h => by
    obtain rfl : k = n := by simpa using hk
    exact ⟨⟨by simpa [Region.lexHead] using hB, hd⟩, h⟩
  | o :: l, k, d, a, hl, hk, inv, hd, hB, h => by
    have h0 : ops[k]? = some o := by simpa using (hl 0 (by simp)).symm
    simp only [List.length_cons, Region.lexHead, Bool.and_eq_true] at hB
    obtain ⟨⟨hr, hf⟩, hB'⟩ := hB
    have hkn : k < n := by simp only [List.length_cons] at hk; omega
    have hr' : k ∈ Region.ready md ops d := by simpa using hr
    obtain ⟨v, hy, hK⟩ := h
    refine headF_first h0 (Region.noSelect_spec hsel) hs hc hn hkn (fun d' a' hL => seqB_ready hL.1.1) l.length d a inv (Region.free_spec h0 hf) hr' hy ?_
    refine headF_lex hsel hs hc hn l (k + 1) _ _ (fun j hj => ?_) (by simp only [List.length_cons] at hk; omega) (inv.set hr' hkn) (fun i hi => ?_) hB' hK
    · have := hl (j + 1) (by simp; omega)
      simpa [Nat.add_assoc, Nat.add_comm 1 j] using this
    · by_cases e : k = i
      · subst e
        have : k < d.size := by rw [inv.size]; omega
        simp [this]
      · rw [getD_set_ne false e]
        exact hd i (by omega)

/-- made slots that are looked at have been made -/
def madeB (md : Region.Mode) (ops : Array Oper) (keys : List Tmp) (n : Nat) : Bool :=
  (List.range n).all fun j => match ops[j]? with
    | none => true
    | some o => (o.looksAt ops).all fun t => !keys.contains t || (List.range n).any fun i => (ops[i]?).bind (·.dst) == some t && Region.waitsFor md ops j i
/-- all made slots are made by the head -/
def allMadeB (ops : Array Oper) (keys : List Tmp) (n : Nat) : Bool := keys.all fun t => (List.range n).any fun i => (ops[i]?).bind (·.dst) == some t

def Sim (X : World → World → Prop) (ops : Array Oper) (F : Made) (w0 : World) (d : Array Bool) (a b : Act) (w : World) : Prop :=
  Ext X w0 w ∧ Same F b a ∧ ∀ i o t V, ops[i]? = some o → d.getD i false = true → o.dst = some t → F t = some V → (∃ u, b.tmps[t]? = some u ∧ V u w) ∧
    ∀ i' o' t' V', ops[i']? = some o' → d.getD i' false = true → o'.dst = some t' → F t' = some V' → t ≠ t' → b.tmps[t]? ≠ b.tmps[t']?

theorem any_of_headF {n g : Nat} {keys : List Tmp} (hF : stays X F) (hkeys : ∀ t V, F t = some V → t ∈ keys) (hmade : madeB md ops keys n = true) (hsz : ∀ t ∈ keys, ∀ a : Act, ∀ b : Act, Same F b a → True)
    {L : Array Bool → Act → Prop} {Q' : Exit → Act → World → Prop} {size : Nat} (hrange : ∀ t V, F t = some V → t < size)
    (hL : ∀ d a b w, b.tmps.size = size → Sim X ops F w0 d a b w → L d a → wpAny P md ops Q' g d b w) :
    ∀ (f : Nat) (d : Array Bool) (a b : Act) (w : World), b.tmps.size = size → HeadInv md ops n d → Sim X ops F w0 d a b w → headF X P md ops F w0 n L f d a → wpAny P md ops Q' (f + g) d b w
  | 0, d, a, b, w, hb, _, hs, h => by
    rw [Nat.zero_add]
    exact hL _ _ _ _ hb hs h
  | f + 1, d, a, b, w, hb, inv, hs, h => by
    rw [Nat.add_right_comm]
    refine ⟨fun he => absurd he h.1, fun i hi => ?_⟩
    obtain ⟨hin, hop⟩ := h.2 i hi
    obtain ⟨hun, oi, hoi, hall⟩ := mem_ready.1 hi
    obtain ⟨hw, hsame, hV⟩ := hs
    unfold absOp at hop
    simp only [hoi] at hop
    obtain ⟨v, hdo, hk⟩ := hop
    -- the made slots that it looks at
    have hhold : Holds F (oi.looksAt ops) b w := by
      intro t ht V hFt
      have h1 := List.all_eq_true.1 hmade i (List.mem_range.2 hin)
      simp only [hoi] at h1
      have h2 := List.all_eq_true.1 h1 t ht
      have hk2 : keys.contains t = true := by simpa using hkeys t V hFt
      simp only [hk2, Bool.not_true, Bool.false_or] at h2
      obtain ⟨j, _, hj2⟩ := List.any_eq_true.1 h2
      simp only [Bool.and_eq_true, beq_iff_eq] at hj2
      obtain ⟨hj3, hj4⟩ := hj2
      obtain ⟨oi', hoi', e, he, hbd, hon⟩ := Region.waitsFor_spec hj4
      obtain rfl : oi' = oi := Option.some.inj (hoi'.symm.trans hoi)
      cases hoj : ops[j]? with
      | none => simp [hoj] at hj3
      | some oj =>
        have hdst : oj.dst = some t := by simpa [hoj] using hj3
        exact (hV j oj t V hoj (by have := hall e he hbd; rwa [hon] at this) hdst hFt).1
    obtain ⟨hyes, hno⟩ := hdo b w hw hsame hhold
    -- the next state
    have next : ∀ (x : Value) (w' : World), Ext X w w' → (∀ t V, oi.dst = some t → F t = some V → V x w' ∧ newTo F oi.dst w x) → (oi.dst.bind F = none → x = v) →
        wpAny P md ops Q' (f + g) (d.setIfInBounds i true) (b.put oi.dst x) w' := by
      intro x w' hx hVx hxv
      refine any_of_headF hF hkeys hmade hsz hrange hL f _ (a.put oi.dst v) _ w' (by rw [size_put]; exact hb) (inv.set hi hin) ⟨hw.trans hx, ?_, ?_⟩ hk
      · refine ⟨by rw [defers_put, defers_put, hsame.1], by rw [size_put, size_put, hsame.2.1], fun t ht => ?_⟩
        cases hd : oi.dst with
        | none => exact hsame.2.2 t ht
        | some dd =>
          by_cases e : t = dd
          · subst e
            rw [hxv (by simp [hd, ht]), tmps_put_at, tmps_put_at, hsame.2.1]
          · rw [tmps_put _ _ _ _ e, tmps_put _ _ _ _ e]
            exact hsame.2.2 t ht
      · -- what stands in a slot of the next frame
        have at_new : ∀ t V, oi.dst = some t → F t = some V → (b.put oi.dst x).tmps[t]? = some x := by
          intro t V e hFt
          rw [e, tmps_put_at, if_pos (by rw [hb]; exact hrange t V hFt)]
        have at_old : ∀ t, oi.dst ≠ some t → (b.put oi.dst x).tmps[t]? = b.tmps[t]? := by
          intro t e
          cases hd : oi.dst with
          | none => rfl
          | some dd => exact tmps_put _ _ _ _ (fun e3 => e (by rw [hd, e3]))
        have was : ∀ j oj t V, ops[j]? = some oj → (d.setIfInBounds i true).getD j false = true → oj.dst = some t → F t = some V → oi.dst ≠ some t → d.getD j false = true := by
          intro j oj t V hoj hlj hdj hFt e
          have hji : j ≠ i := by
            intro e2
            subst e2
            obtain rfl : oj = oi := Option.some.inj (hoj.symm.trans hoi)
            exact e hdj
          rwa [getD_set_ne false (Ne.symm hji)] at hlj
        intro j oj t V hoj hlj hdj hFt
        constructor
        · by_cases e : oi.dst = some t
          · exact ⟨x, at_new t V e hFt, (hVx t V e hFt).1⟩
          · obtain ⟨u, hu, hVu⟩ := (hV j oj t V hoj (was j oj t V hoj hlj hdj hFt e) hdj hFt).1
            exact ⟨u, by rw [at_old t e]; exact hu, hF t V hFt u w w' hVu hx⟩
        · intro j' oj' t' V' hoj' hlj' hdj' hFt' hne
          by_cases e : oi.dst = some t
          · have e' : oi.dst ≠ some t' := by rw [e]; intro h; exact hne (Option.some.inj h)
            obtain ⟨u, hu, hVu⟩ := (hV j' oj' t' V' hoj' (was j' oj' t' V' hoj' hlj' hdj' hFt' e') hdj' hFt').1
            rw [at_new t V e hFt, at_old t' e', hu]
            intro h
            exact (hVx t V e hFt).2 t' V' u e' hFt' hVu (Option.some.inj h).symm
          · by_cases e' : oi.dst = some t'
            · obtain ⟨u, hu, hVu⟩ := (hV j oj t V hoj (was j oj t V hoj hlj hdj hFt e) hdj hFt).1
              rw [at_new t' V' e' hFt', at_old t e, hu]
              intro h
              exact (hVx t' V' e' hFt').2 t V u e hFt hVu (Option.some.inj h)
            · rw [at_old t e, at_old t' e']
              exact (hV j oj t V hoj (was j oj t V hoj hlj hdj hFt e) hdj hFt).2 j' oj' t' V' hoj' (was j' oj' t' V' hoj' hlj' hdj' hFt' e') hdj' hFt' hne
    unfold wpOp
    simp only [hoi]
    by_cases hwt : Region.wanted oi (yielded ops b.tmps) = true
    · rw [if_pos hwt]
      refine .inl ?_
      have hm := hyes hwt
      unfold Oper.wp
      generalize (execOp b.eval oi).run P w = r at hm
      cases hbind : oi.dst.bind F with
      | none =>
        simp only [makesTo, hbind] at hm
        have hVx : ∀ (x : Value) (w' : World) t V, oi.dst = some t → F t = some V → V x w' ∧ newTo F oi.dst w x := by
          intro x w' t V h1 h2
          simp [h1, h2] at hbind
        cases r with
        | halt x w' => exact hm.elim
        | ok nx w' =>
          cases nx <;> simp only [quietTo] at hm
          case value u =>
            obtain ⟨rfl, rfl⟩ := hm
            exact next _ _ (Ext.refl _) (hVx _ _) (fun _ => rfl)
          case skip =>
            obtain ⟨rfl, rfl⟩ := hm
            exact next _ _ (Ext.refl _) (hVx _ _) (fun _ => rfl)
          case enter fn args =>
            obtain ⟨rfl, hcall⟩ := hm
            refine hcall.mono ?_
            rintro e w'' ⟨rfl, hx⟩
            exact next _ _ hx (hVx _ _) (fun _ => rfl)
      | some V =>
        simp only [makesTo, hbind] at hm
        obtain ⟨_, hm⟩ := hm
        have hnone : oi.dst.bind F = none → ∀ x : Value, x = v := fun h => by rw [hbind] at h; cases h
        have hVx : ∀ (x : Value) (w' : World), V x w' ∧ newTo F oi.dst w x → ∀ t V', oi.dst = some t → F t = some V' → V' x w' ∧ newTo F oi.dst w x := by
          intro x w' hx t V' h1 h2
          simp only [h1, Option.bind_some, h2, Option.some.injEq] at hbind
          rw [hbind]; exact hx
        cases r with
        | halt x w' => exact hm.elim
        | ok nx w' =>
          cases nx <;> simp only [freshTo] at hm
          case value u => exact next _ _ hm.1 (hVx _ _ hm.2) (fun h => hnone h _)
          case enter fn args =>
            obtain ⟨rfl, hcall⟩ := hm
            refine hcall.mono ?_
            rintro e w'' ⟨u, rfl, hx, hVu⟩
            exact next _ _ hx (hVx _ _ hVu) (fun h => hnone h _)
    · rw [if_neg hwt]
      have h3 := hno (by simpa using hwt)
      refine next _ _ (Ext.refl _) ?_ (fun _ => h3.1.symm)
      intro t V h1 h2
      have h4 := h3.2
      simp [h1, h2] at h4

/-- THE LAW. -/
theorem wp_made_tail {id : Nat} {Q : Exit → Act → World → Prop} {a : Act} {w : World} {l : List Oper} (n : Nat) (keys : List Tmp) (F : Made) (hm : P.follows .mixedOrders = true)
    (hB : (Region.lexTailB .any l.toArray n && madeB .any l.toArray keys n && allMadeB l.toArray keys n) = true) (hkeys : ∀ t V, F t = some V → t ∈ keys) (hF : stays X F) (hrange : ∀ t ∈ keys, t < a.tmps.size)
    (h : wpMade X P l.toArray F w (fun a' => ∀ b w', Ext X w w' → Same F b a' → (∀ t V, F t = some V → (∃ u, b.tmps[t]? = some u ∧ V u w') ∧ ∀ t' V', F t' = some V' → t ≠ t' → b.tmps[t]? ≠ b.tmps[t']?) → wpList P l.toArray Q (l.drop n) b w') (l.take n) a) :
    (Code.region id l.toArray true).wp P Q a w := by
  simp only [Bool.and_eq_true] at hB
  obtain ⟨⟨hB, hmade⟩, hallm⟩ := hB
  simp only [Region.lexTailB, Bool.and_eq_true, decide_eq_true_eq] at hB
  obtain ⟨⟨⟨⟨hsel, hn⟩, hs⟩, hc⟩, hlex⟩ := hB
  have hn' : n < l.length := by simpa using hn
  have htl : (l.take n).length = n := by simp; omega
  have hdl : (l.drop n).length = l.toArray.size - n := by simp
  have inv0 : HeadInv .any l.toArray n (Array.replicate l.toArray.size false) :=
    ⟨by simp, fun j oj _ hl => (by rw [getD_replicate_false] at hl; cases hl), fun t _ ht => getD_in (by simpa using ht) (getD_replicate_false _ _)⟩
  have H := headF_lex (md := .any) (g := l.toArray.size - n) hsel hs hc hn (l.take n) 0 _ a (fun j hj => by
    have hj' : j < n := by rw [htl] at hj; exact hj
    simp [hj']) (by simpa using htl) inv0 (fun i hi => absurd hi (Nat.not_lt_zero _)) (by rw [htl]; exact hlex) h
  refine wp_region_any hm ?_
  have hfin := any_of_headF (Q' := Q) (g := l.toArray.size - n) (size := a.tmps.size) hF hkeys hmade (fun _ _ _ _ _ => trivial) (fun t V h => hrange t (hkeys t V h)) (fun d a' b w' _ hsim hL => by
    have mk : ∀ t V, F t = some V → ∃ i oi, l.toArray[i]? = some oi ∧ d.getD i false = true ∧ oi.dst = some t := by
      intro t V hFt
      have h5 := List.all_eq_true.1 hallm t (hkeys t V hFt)
      obtain ⟨i, hi, hi2⟩ := List.any_eq_true.1 h5
      simp only [beq_iff_eq] at hi2
      cases hoi : l.toArray[i]? with
      | none => simp [hoi] at hi2
      | some oi => exact ⟨i, oi, hoi, hL.1.2 i (List.mem_range.1 hi), by simpa [hoi] using hi2⟩
    have h2 := hL.2 b w' hsim.1 hsim.2.1 (fun t V hFt => by
      obtain ⟨i, oi, hoi, hdn, hdst⟩ := mk t V hFt
      have h6 := hsim.2.2 i oi t V hoi hdn hdst hFt
      refine ⟨h6.1, fun t' V' hFt' hne => ?_⟩
      obtain ⟨i', oi', hoi', hdn', hdst'⟩ := mk t' V' hFt'
      exact h6.2 i' oi' t' V' hoi' hdn' hdst' hFt' hne)
    have h4 := wpAny_of_seq (md := .any) (Q' := Q) (l.drop n) n d b w' (fun j => by simp [List.getElem?_drop]) (by rw [hdl]; exact hL.1.1) h2
    rwa [hdl] at h4) _ _ a a w.drew rfl inv0 ⟨Ext.drew w, ⟨rfl, rfl, fun _ _ => rfl⟩, fun i o t V _ hd => by rw [getD_replicate_false] at hd; cases hd⟩ H
  rw [htl, show n + (l.toArray.size - n) = l.toArray.size by omega] at hfin
  exact hfin

/- FOR THE WALK -/
theorem Same.fix {a b : Act} {t : Tmp} {u : Value} (h : Same F b a) (hu : b.tmps[t]? = some u) : Same (fun s => if s = t then none else F s) b (a.put (some t) u) := by
  have ht : t < b.tmps.size := by
    rcases Nat.lt_or_ge t b.tmps.size with h | h
    · exact h
    · rw [Array.getElem?_eq_none h] at hu; cases hu
  refine ⟨by rw [defers_put]; exact h.1, by rw [size_put]; exact h.2.1, fun s hs => ?_⟩
  by_cases e : s = t
  · subst e
    rw [tmps_put_at, if_pos (by rw [← h.2.1]; exact ht), hu]
  · rw [tmps_put _ _ _ _ e]
    exact h.2.2 s (by simpa [e] using hs)
theorem Same.eq {a b : Act} (h : Same F b a) (hF : ∀ s, F s = none) : b = a := by
  obtain ⟨bt, bd⟩ := b
  obtain ⟨at', ad⟩ := a
  obtain ⟨h1, _, h3⟩ := h
  have h4 : bt = at' := Array.ext_getElem? fun i => h3 i (hF i)
  cases h1; cases h4; rfl
theorem Same.eval {a b : Act} (h : Same F b a) {x : Operand} (hx : ∀ t, x = .tmp t → F t = none) : b.eval x = a.eval x := by
  cases x with
  | tmp t =>
    have h1 := h.2.2 t (hx t rfl)
    show b.tmps.getD t undef = a.tmps.getD t undef
    rw [Array.getD_eq_getD_getElem?, Array.getD_eq_getD_getElem?, h1]
  | _ => rfl
omit [RelOk X] in
theorem does_of {o : Oper} {v : Value} {a : Act} (hs : ∀ cs b, o.op ≠ .select cs b) (hg : o.guard = none) (hl : ∀ x ∈ o.op.operands, ∀ t, x = .tmp t → F t = none)
    (h : ∀ w, Ext X w0 w → makesTo X P F o.dst (o.dst.bind F) v w ((execOp a.eval o).run P w)) : Does X P ops F w0 o v a := by
  intro b w hw hb _
  have e : execOp b.eval o = execOp a.eval o := execOp_congr o hs fun x hx => hb.eval (hl x hx)
  have hwt : Region.wanted o (yielded ops b.tmps) = true := by unfold Region.wanted; rw [hg]
  rw [e]
  exact ⟨fun _ => h w hw, fun h2 => by rw [hwt] at h2; cases h2⟩
end
end Go.Proofs.Ytfppddnfdinipaa.Gen
end
section
namespace Go.Proofs.Ytfppddnfdinipaa.Gen
open Go Go.RowKit
/-- the block that a value begins in -/
def blkOf : Value → Option Nat
  | .pointer (some a) => some a.block
  | .slice (some a) _ _ => some a.block
  | _ => none
/-- slot by slot, what a made thing is -/
abbrev MadeL := List (Tmp × (Value → World → Prop))
def madeBy (L : MadeL) : Made := fun t => (L.find? (fun p => p.1 == t)).map (·.2)
/-- what is made stays X so, and lies somewhere -/
structure MadeOk (X : World → World → Prop) (V : Value → World → Prop) : Prop where
  stays : ∀ u w w', V u w → Ext X w w' → V u w'
  there : ∀ u w, V u w → ∃ r, blkOf u = some r ∧ r < w.heap.size
theorem madeBy_mem {L : MadeL} {t : Tmp} {V : Value → World → Prop} (h : madeBy L t = some V) : (t, V) ∈ L := by
  unfold madeBy at h
  cases hf : L.find? (fun p => p.1 == t) with
  | none => rw [hf] at h; cases h
  | some p =>
    rw [hf] at h
    obtain rfl := Option.some.inj h
    have h1 := List.mem_of_find?_eq_some hf
    have h2 := List.find?_some hf
    simp only [beq_iff_eq] at h2
    obtain ⟨a, b⟩ := p
    subst h2
    exact h1
theorem madeBy_cons (t : Tmp) (V : Value → World → Prop) (L : MadeL) (s : Tmp) : madeBy ((t, V) :: L) s = if t = s then some V else madeBy L s := by
  unfold madeBy
  by_cases h : t = s
  · simp [h]
  · simp [h]
theorem madeBy_look : ∀ {L : MadeL} {t : Tmp} {V : Value → World → Prop}, (L.map (·.1)).Nodup → (t, V) ∈ L → madeBy L t = some V
  | [], _, _, _, hm => by cases hm
  | (t', V') :: L, t, V, hn, hm => by
    simp only [List.map_cons, List.nodup_cons] at hn
    rw [madeBy_cons]
    rcases List.mem_cons.1 hm with hm | hm
    · injection hm with e1 e2
      subst e1 e2
      rw [if_pos rfl]
    · rw [if_neg (fun e => hn.1 (List.mem_map.2 ⟨_, hm, e.symm⟩))]
      exact madeBy_look hn.2 hm
theorem madeBy_none {L : MadeL} {t : Tmp} (h : (L.map (·.1)).contains t = false) : madeBy L t = none := by
  cases hm : madeBy L t with
  | none => rfl
  | some V =>
    have h1 := madeBy_mem hm
    have h2 : (L.map (·.1)).contains t = true := by
      rw [List.contains_iff_mem]
      exact List.mem_map.2 ⟨_, h1, rfl⟩
    rw [h2] at h; cases h
section
variable {P : Program} {ops : Array Oper} {L : MadeL} {w0 : World} {rest : List Oper} {o : Oper} {a : Act} {Q : Act → Prop} {X : World → World → Prop} [RelOk X]
omit [RelOk X] in
theorem stays_by (hL : ∀ p ∈ L, MadeOk X p.2) : stays X (madeBy L) := fun _ _ hV u w w' hu hw => (hL _ (madeBy_mem hV)).stays u w w' hu hw
omit [RelOk X] in
theorem newTo_by (hL : ∀ p ∈ L, MadeOk X p.2) {w : World} {d : Option Tmp} {u : Value} {r : Nat} (hu : blkOf u = some r) (hr : w.heap.size ≤ r) : newTo (madeBy L) d w u := by
  intro t V u' _ hV hu' e
  obtain ⟨r', h1, h2⟩ := (hL _ (madeBy_mem hV)).there u' w hu'
  rw [e, hu] at h1
  have := Option.some.inj h1
  omega
/-- an operation that looks at no made slot but t, and is no select -/
def looksB (keys : List Tmp) (ops : Array Oper) (o : Oper) : Bool := (match o.op with | .select _ _ => false | _ => true) && (o.looksAt ops).all fun s => !keys.contains s
theorem looksB_sel {keys : List Tmp} (h : looksB keys ops o = true) : ∀ cs b, o.op ≠ .select cs b := by
  intro cs b e
  unfold looksB at h
  rw [e] at h
  cases h
theorem looksB_opd {keys : List Tmp} (h : looksB keys ops o = true) {x : Operand} (hx : x ∈ o.op.operands) {t : Tmp} (e : x = .tmp t) : keys.contains t = false := by
  simp only [looksB, Bool.and_eq_true] at h
  have h2 := List.all_eq_true.1 h.2 t (by
    unfold Oper.looksAt
    exact List.mem_append_left _ (List.mem_filterMap.2 ⟨x, by simpa using hx, by rw [e]⟩))
  simpa using h2
theorem looksB_guard {keys : List Tmp} (h : looksB keys ops o = true) {g : Nat} {y : Bool} (hg : o.guard = some (g, y)) {t : Tmp} (ht : (ops[g]?).bind (·.dst) = some t) : keys.contains t = false := by
  simp only [looksB, Bool.and_eq_true] at h
  have h2 := List.all_eq_true.1 h.2 t (by
    unfold Oper.looksAt
    refine List.mem_append_right _ ?_
    rw [hg]
    simp [ht])
  simpa using h2
theorem wanted_same {F : Made} {b : Act} (hb : Same F b a) (hg : ∀ g x, o.guard = some (g, x) → ∀ t, (ops[g]?).bind (·.dst) = some t → F t = none) : Region.wanted o (yielded ops b.tmps) = Region.wanted o (yielded ops a.tmps) := by
  unfold Region.wanted
  cases hgd : o.guard with
  | none => rfl
  | some p =>
    obtain ⟨g, x⟩ := p
    simp only
    unfold yielded
    cases ht : (ops[g]?).bind (·.dst) with
    | none => rfl
    | some t => simp only [Option.bind_some, hb.2.2 t (hg g x hgd t ht)]
theorem looksB_wanted {b : Act} (hB : looksB (L.map (·.1)) ops o = true) (hb : Same (madeBy L) b a) : Region.wanted o (yielded ops b.tmps) = Region.wanted o (yielded ops a.tmps) :=
  wanted_same hb fun _ _ hg _ ht => madeBy_none (looksB_guard hB hg ht)
theorem looksB_exec {b : Act} (hB : looksB (L.map (·.1)) ops o = true) (hb : Same (madeBy L) b a) : execOp b.eval o = execOp a.eval o :=
  execOp_congr o (looksB_sel hB) fun _ hx => hb.eval fun _ e => madeBy_none (looksB_opd hB hx e)

omit [RelOk X] in
/-- an operation that hands on a value -/
theorem made_val (v : Value) (hB : looksB (L.map (·.1)) ops o = true) (hw : Region.wanted o (yielded ops a.tmps) = true) (hd : o.dst.bind (madeBy L) = none)
    (hrun : ∀ w, Ext X w0 w → (execOp a.eval o).run P w = .ok (.value v) w) (h : wpMade X P ops (madeBy L) w0 Q rest (a.put o.dst v)) : wpMade X P ops (madeBy L) w0 Q (o :: rest) a := by
  refine ⟨v, fun b w hx hb _ => ⟨fun _ => ?_, fun h2 => ?_⟩, h⟩
  · rw [hd, looksB_exec hB hb, hrun w hx]
    exact ⟨rfl, rfl⟩
  · rw [looksB_wanted hB hb, hw] at h2; cases h2
omit [RelOk X] in
/-- an operation that is not wanted -/
theorem made_skip (hB : looksB (L.map (·.1)) ops o = true) (hw : Region.wanted o (yielded ops a.tmps) = false) (hd : o.dst.bind (madeBy L) = none)
    (h : wpMade X P ops (madeBy L) w0 Q rest (a.put o.dst undef)) : wpMade X P ops (madeBy L) w0 Q (o :: rest) a := by
  refine ⟨undef, fun b w hx hb _ => ⟨fun h2 => ?_, fun _ => ⟨rfl, hd⟩⟩, h⟩
  rw [looksB_wanted hB hb, hw] at h2; cases h2
omit [RelOk X] in
/-- a call that makes at most memory, and hands on a value -/
theorem made_call (v : Value) (f : Nat) (args : Array Value) (hB : looksB (L.map (·.1)) ops o = true) (hw : Region.wanted o (yielded ops a.tmps) = true) (hd : o.dst.bind (madeBy L) = none)
    (hrun : ∀ w, (execOp a.eval o).run P w = .ok (.enter f args) w) (hc : ∀ w, Ext X w0 w → Calls P f args w fun e w' => e = .returned v ∧ Ext X w w')
    (h : wpMade X P ops (madeBy L) w0 Q rest (a.put o.dst v)) : wpMade X P ops (madeBy L) w0 Q (o :: rest) a := by
  refine ⟨v, fun b w hx hb _ => ⟨fun _ => ?_, fun h2 => ?_⟩, h⟩
  · rw [hd, looksB_exec hB hb, hrun w]
    exact ⟨rfl, hc w hx⟩
  · rw [looksB_wanted hB hb, hw] at h2; cases h2
omit [RelOk X] in
/-- an operation that makes something -/
theorem made_new (t : Tmp) (V : Value → World → Prop) (hL : ∀ p ∈ L, MadeOk X p.2) (hB : looksB (L.map (·.1)) ops o = true) (hw : Region.wanted o (yielded ops a.tmps) = true) (hd : o.dst = some t) (hV : madeBy L t = some V)
    (hrun : ∀ w, Ext X w0 w → ∃ u w' r, (execOp a.eval o).run P w = .ok (.value u) w' ∧ Ext X w w' ∧ V u w' ∧ blkOf u = some r ∧ w.heap.size ≤ r)
    (h : wpMade X P ops (madeBy L) w0 Q rest (a.put o.dst undef)) : wpMade X P ops (madeBy L) w0 Q (o :: rest) a := by
  refine ⟨undef, fun b w hx hb _ => ⟨fun _ => ?_, fun h2 => ?_⟩, h⟩
  · obtain ⟨u, w', r, h1, h2, h3, h4, h5⟩ := hrun w hx
    rw [hd, Option.bind_some, hV, looksB_exec hB hb, h1]
    exact ⟨rfl, h2, h3, newTo_by hL h4 h5⟩
  · rw [looksB_wanted hB hb, hw] at h2; cases h2
omit [RelOk X] in
/-- a call that makes something -/
theorem made_newcall (t : Tmp) (V : Value → World → Prop) (f : Nat) (args : Array Value) (hL : ∀ p ∈ L, MadeOk X p.2) (hB : looksB (L.map (·.1)) ops o = true) (hw : Region.wanted o (yielded ops a.tmps) = true) (hd : o.dst = some t) (hV : madeBy L t = some V)
    (hrun : ∀ w, (execOp a.eval o).run P w = .ok (.enter f args) w) (hc : ∀ w, Ext X w0 w → Calls P f args w fun e w' => ∃ u r, e = .returned u ∧ Ext X w w' ∧ V u w' ∧ blkOf u = some r ∧ w.heap.size ≤ r)
    (h : wpMade X P ops (madeBy L) w0 Q rest (a.put o.dst undef)) : wpMade X P ops (madeBy L) w0 Q (o :: rest) a := by
  refine ⟨undef, fun b w hx hb _ => ⟨fun _ => ?_, fun h2 => ?_⟩, h⟩
  · rw [hd, Option.bind_some, hV, looksB_exec hB hb, hrun w]
    refine ⟨rfl, rfl, (hc w hx).mono ?_⟩
    rintro e w' ⟨u, r, h1, h2, h3, h4, h5⟩
    exact ⟨u, h1, h2, h3, newTo_by hL h4 h5⟩
  · rw [looksB_wanted hB hb, hw] at h2; cases h2

/-- the same, of an operation that looks at one made slot -/
def looksB1 (s : Tmp) (keys : List Tmp) (ops : Array Oper) (o : Oper) : Bool := (match o.op with | .select _ _ => false | _ => true) && (o.op.operands.toList.all fun x => match x with | .tmp t => t == s || !keys.contains t | _ => true) &&
  (match o.guard with | some (g, _) => ((ops[g]?).bind (·.dst)).toList.all fun t => !keys.contains t | none => true) && (o.looksAt ops).contains s
theorem looksB1_wanted {s : Tmp} {b : Act} (hB : looksB1 s (L.map (·.1)) ops o = true) (hb : Same (madeBy L) b a) : Region.wanted o (yielded ops b.tmps) = Region.wanted o (yielded ops a.tmps) := by
  refine wanted_same hb fun g _ hg t ht => madeBy_none ?_
  simp only [looksB1, Bool.and_eq_true] at hB
  have h := hB.1.2
  rw [hg] at h
  simpa [ht] using h
theorem looksB1_exec {s : Tmp} {u : Value} {b : Act} (hB : looksB1 s (L.map (·.1)) ops o = true) (hb : Same (madeBy L) b a) (hu : b.tmps[s]? = some u) : execOp b.eval o = execOp (a.put (some s) u).eval o := by
  simp only [looksB1, Bool.and_eq_true] at hB
  refine execOp_congr o ?_ fun x hx => ?_
  · intro cs d e
    have h := hB.1.1.1
    rw [e] at h
    cases h
  · refine (hb.fix hu).eval fun t e => ?_
    have h := List.all_eq_true.1 hB.1.1.2 x (by simpa using hx)
    rw [e] at h
    simp only [Bool.or_eq_true, beq_iff_eq, Bool.not_eq_true'] at h
    rcases h with h | h
    · rw [if_pos h]
    · split
      · rfl
      · exact madeBy_none h
theorem looksB1_holds {s : Tmp} {V : Value → World → Prop} {b : Act} {w : World} (hB : looksB1 s (L.map (·.1)) ops o = true) (hV : madeBy L s = some V) (hh : Holds (madeBy L) (o.looksAt ops) b w) : ∃ u, b.tmps[s]? = some u ∧ V u w := by
  simp only [looksB1, Bool.and_eq_true] at hB
  exact hh s (by simpa using hB.2) V hV
omit [RelOk X] in
theorem made_val1 (s : Tmp) (V : Value → World → Prop) (v : Value) (hB : looksB1 s (L.map (·.1)) ops o = true) (hV : madeBy L s = some V) (hw : Region.wanted o (yielded ops a.tmps) = true) (hd : o.dst.bind (madeBy L) = none)
    (hrun : ∀ u w, Ext X w0 w → V u w → (execOp (a.put (some s) u).eval o).run P w = .ok (.value v) w) (h : wpMade X P ops (madeBy L) w0 Q rest (a.put o.dst v)) : wpMade X P ops (madeBy L) w0 Q (o :: rest) a := by
  refine ⟨v, fun b w hx hb hh => ⟨fun _ => ?_, fun h2 => ?_⟩, h⟩
  · obtain ⟨u, hu, hVu⟩ := looksB1_holds hB hV hh
    rw [hd, looksB1_exec hB hb hu, hrun u w hx hVu]
    exact ⟨rfl, rfl⟩
  · rw [looksB1_wanted hB hb, hw] at h2; cases h2
omit [RelOk X] in
theorem made_call1 (s : Tmp) (V : Value → World → Prop) (v : Value) (f : Nat) (args : Value → Array Value) (hB : looksB1 s (L.map (·.1)) ops o = true) (hV : madeBy L s = some V) (hw : Region.wanted o (yielded ops a.tmps) = true) (hd : o.dst.bind (madeBy L) = none)
    (hrun : ∀ u w, (execOp (a.put (some s) u).eval o).run P w = .ok (.enter f (args u)) w) (hc : ∀ u w, Ext X w0 w → V u w → Calls P f (args u) w fun e w' => e = .returned v ∧ Ext X w w')
    (h : wpMade X P ops (madeBy L) w0 Q rest (a.put o.dst v)) : wpMade X P ops (madeBy L) w0 Q (o :: rest) a := by
  refine ⟨v, fun b w hx hb hh => ⟨fun _ => ?_, fun h2 => ?_⟩, h⟩
  · obtain ⟨u, hu, hVu⟩ := looksB1_holds hB hV hh
    rw [hd, looksB1_exec hB hb hu, hrun u w]
    exact ⟨rfl, hc u w hx hVu⟩
  · rw [looksB1_wanted hB hb, hw] at h2; cases h2
omit [RelOk X] in
/-- what is made out of one made thing -/
theorem made_new1 (s : Tmp) (V : Value → World → Prop) (t : Tmp) (V' : Value → World → Prop) (hL : ∀ p ∈ L, MadeOk X p.2) (hB : looksB1 s (L.map (·.1)) ops o = true) (hV : madeBy L s = some V) (hw : Region.wanted o (yielded ops a.tmps) = true) (hd : o.dst = some t) (hV' : madeBy L t = some V')
    (hrun : ∀ u w, Ext X w0 w → V u w → ∃ u' w' r, (execOp (a.put (some s) u).eval o).run P w = .ok (.value u') w' ∧ Ext X w w' ∧ V' u' w' ∧ blkOf u' = some r ∧ w.heap.size ≤ r)
    (h : wpMade X P ops (madeBy L) w0 Q rest (a.put o.dst undef)) : wpMade X P ops (madeBy L) w0 Q (o :: rest) a := by
  refine ⟨undef, fun b w hx hb hh => ⟨fun _ => ?_, fun h2 => ?_⟩, h⟩
  · obtain ⟨u, hu, hVu⟩ := looksB1_holds hB hV hh
    obtain ⟨u', w', r, h1, h2, h3, h4, h5⟩ := hrun u w hx hVu
    rw [hd, Option.bind_some, hV', looksB1_exec hB hb hu, h1]
    exact ⟨rfl, h2, h3, newTo_by hL h4 h5⟩
  · rw [looksB1_wanted hB hb, hw] at h2; cases h2

omit [RelOk X] in
/-- the same, where one says oneself why it is another one than the other made things -/
theorem made_newg (s : Tmp) (V : Value → World → Prop) (t : Tmp) (V' : Value → World → Prop) (hB : looksB1 s (L.map (·.1)) ops o = true) (hV : madeBy L s = some V) (hw : Region.wanted o (yielded ops a.tmps) = true) (hd : o.dst = some t) (hV' : madeBy L t = some V')
    (hrun : ∀ u w, Ext X w0 w → V u w → ∃ u' w', (execOp (a.put (some s) u).eval o).run P w = .ok (.value u') w' ∧ Ext X w w' ∧ V' u' w' ∧ newTo (madeBy L) (some t) w u')
    (h : wpMade X P ops (madeBy L) w0 Q rest (a.put o.dst undef)) : wpMade X P ops (madeBy L) w0 Q (o :: rest) a := by
  refine ⟨undef, fun b w hx hb hh => ⟨fun _ => ?_, fun h2 => ?_⟩, h⟩
  · obtain ⟨u, hu, hVu⟩ := looksB1_holds hB hV hh
    obtain ⟨u', w', h1, h2, h3, h4⟩ := hrun u w hx hVu
    rw [hd, Option.bind_some, hV', looksB1_exec hB hb hu, h1]
    exact ⟨rfl, h2, h3, h4⟩
  · rw [looksB1_wanted hB hb, hw] at h2; cases h2

/-- the end: the made things, one by one, in their slots; each another one than those ahead -/
def ended : MadeL → List Value → World → Act → (Act → Prop) → Prop
  | [], _, _, a, K => K a
  | (t, V) :: L, us, w, a, K => ∀ u, V u w → (∀ x ∈ us, x ≠ u) → ended L (us ++ [u]) w (a.put (some t) u) K
theorem ended_elim (K : Act → Prop) (w : World) : ∀ (L : MadeL) (us : List Value) (a b : Act), Same (madeBy L) b a → (L.map (·.1)).Nodup → (∀ t V, (t, V) ∈ L → ∃ u, b.tmps[t]? = some u ∧ V u w) →
    (∀ t V, (t, V) ∈ L → ∀ x ∈ us, b.tmps[t]? ≠ some x) → (∀ t V t' V', (t, V) ∈ L → (t', V') ∈ L → t ≠ t' → b.tmps[t]? ≠ b.tmps[t']?) → ended L us w a K → K b
  | [], us, a, b, hs, _, _, _, _, h => by
    obtain rfl := hs.eq (fun _ => rfl)
    exact h
  | (t, V) :: L, us, a, b, hs, hn, hh, hx, hd, h => by
    obtain ⟨u, hu, hVu⟩ := hh t V (by simp)
    have h2 := h u hVu (fun x hxu e => hx t V (by simp) x hxu (by rw [hu, e]))
    simp only [List.map_cons, List.nodup_cons] at hn
    refine ended_elim K w L (us ++ [u]) _ b ?_ hn.2 (fun s V' hm => hh s V' (by simp [hm])) ?_ (fun s V' s' V'' hm hm' => hd s V' s' V'' (by simp [hm]) (by simp [hm'])) h2
    · have h3 := hs.fix hu
      refine ⟨h3.1, h3.2.1, fun s hs' => h3.2.2 s ?_⟩
      show (if s = t then none else madeBy ((t, V) :: L) s) = none
      split
      · rfl
      · rename_i hne
        rw [madeBy_cons, if_neg (Ne.symm hne)]
        exact hs'
    · intro s V' hm x hxu
      rcases List.mem_append.1 hxu with hxu | hxu
      · exact hx s V' (by simp [hm]) x hxu
      · rw [List.mem_singleton.1 hxu, ← hu]
        exact fun e => hd s V' t V (by simp [hm]) (by simp) (fun e2 => hn.1 (List.mem_map.2 ⟨_, hm, e2⟩)) e
/-- THE LAW -/
theorem wp_made {id : Nat} {Q : Exit → Act → World → Prop} {a : Act} {w : World} {l : List Oper} (n : Nat) (L : MadeL) (hm : P.follows .mixedOrders = true)
    (hB : (Region.lexTailB .any l.toArray n && madeB .any l.toArray (L.map (·.1)) n && allMadeB l.toArray (L.map (·.1)) n) = true) (hL : ∀ p ∈ L, MadeOk X p.2) (hn : (L.map (·.1)).Nodup) (hrange : ∀ t ∈ L.map (·.1), t < a.tmps.size)
    (h : wpMade X P l.toArray (madeBy L) w (fun a' => ∀ w', Ext X w w' → ended L [] w' a' fun b => wpList P l.toArray Q (l.drop n) b w') (l.take n) a) :
    (Code.region id l.toArray true).wp P Q a w := by
  refine wp_made_tail n (L.map (·.1)) (madeBy L) hm hB (fun t V hV => List.mem_map.2 ⟨_, madeBy_mem hV, rfl⟩) (stays_by hL) hrange ?_
  have e : ∀ (rest : List Oper) (a : Act), wpMade X P l.toArray (madeBy L) w (fun a' => ∀ w', Ext X w w' → ended L [] w' a' fun b => wpList P l.toArray Q (l.drop n) b w') rest a →
      wpMade X P l.toArray (madeBy L) w (fun a' => ∀ b w', Ext X w w' → Same (madeBy L) b a' → (∀ t V, madeBy L t = some V → (∃ u, b.tmps[t]? = some u ∧ V u w') ∧ ∀ t' V', madeBy L t' = some V' → t ≠ t' → b.tmps[t]? ≠ b.tmps[t']?) → wpList P l.toArray Q (l.drop n) b w') rest a := by
    intro rest
    induction rest with
    | nil =>
      intro a h b w' hx hs hh
      exact ended_elim _ w' L [] a b hs hn (fun t V hm => (hh t V (madeBy_look hn hm)).1) (fun _ _ _ x hx => absurd hx (by simp)) (fun t V t' V' hm hm' hne => (hh t V (madeBy_look hn hm)).2 t' V' (madeBy_look hn hm') hne) (h w' hx)
    | cons o rest ih =>
      intro a h
      obtain ⟨v, h1, h2⟩ := h
      exact ⟨v, h1, ih _ h2⟩
  exact e _ _ h

end
end Go.Proofs.Ytfppddnfdinipaa.Gen
end
section
namespace Go.Proofs.Ytfppddnfdinipaa
open Go Go.RowKit
section
variable {P : Program} {w : World}
theorem owned_formN {w : World} {base n s : Nat} {e : TypeId} {v : Value} {xs : List Value} (h : w.ownsRow base e s v n xs) :
    (v = .slice none 0 0 ∧ n = 0 ∧ xs = []) ∨ ∃ g cap cur, v = .slice (some ⟨g, 0, none⟩) n cap ∧ base ≤ g ∧ n ≤ cap ∧ cap ≤ maxLen ∧ Blk w g e cur ∧ cur.size = cap * s ∧ cur.toList.take (n * s) = xs ∧ g < w.heap.size := by
  obtain ⟨hl, h⟩ := h
  rcases h with ⟨h, h2⟩ | ⟨g, cap, cur, h, hb, hh, hn, hc, hs, ht⟩
  · exact .inl ⟨h, h2, List.eq_nil_of_length_eq_zero (by rw [hl, h2, Nat.zero_mul])⟩
  · exact .inr ⟨g, cap, cur, h, hb, hn, hc, hh, hs, ht, Blk.lt hh⟩
theorem own_cutN {w : World} {base e g n cap k s : Nat} {xs : List Value} (h : w.ownsRow base e s (.slice (some ⟨g, 0, none⟩) n cap) n xs) (hk : k ≤ n) : w.ownsRow base e s (.slice (some ⟨g, 0, none⟩) k cap) k (xs.take (k * s)) := by
  obtain ⟨hl, h⟩ := h
  have hks : k * s ≤ n * s := Nat.mul_le_mul_right _ hk
  rcases h with ⟨h, _⟩ | ⟨g', cap', cur, h, hb, hh, hn, hc, hs, ht⟩
  · cases h
  · injection h with e1 e2 e3
    injection e1 with e1
    injection e1 with e1
    subst e1 e3
    refine ⟨by rw [List.length_take]; omega, .inr ⟨g, cap, cur, rfl, hb, hh, by omega, hc, hs, ?_⟩⟩
    rw [← ht, List.take_take]
    congr 1
    omega
theorem owned_keepN {w w' : World} {base n s : Nat} {e : TypeId} {v : Value} {xs : List Value} (h : w.ownsRow base e s v n xs) (hk : ∀ g, v.ownBlock = some g → g < w.heap.size → w'.heap[g]? = w.heap[g]?) : w'.ownsRow base e s v n xs := by
  obtain ⟨hl, h⟩ := h
  refine ⟨hl, ?_⟩
  rcases h with h | ⟨g, cap, cur, h, hb, hh, hr⟩
  · exact .inl h
  · subst h
    exact .inr ⟨g, cap, cur, rfl, hb, (hk g rfl (Blk.lt hh)).trans hh, hr⟩
theorem owned_ltN {w : World} {base n g s : Nat} {e : TypeId} {v : Value} {xs : List Value} (h : w.ownsRow base e s v n xs) (hg : v.ownBlock = some g) : base ≤ g ∧ g < w.heap.size := by
  rcases owned_formN h with ⟨rfl, _⟩ | ⟨g', cap, cur, rfl, hb, _, _, hh, _⟩
  · cases hg
  · injection hg with hg
    change g' = g at hg
    subst hg
    exact ⟨hb, hh.lt⟩
theorem owned_neN {w : World} {base n g s : Nat} {e t : TypeId} {v : Value} {xs : List Value} {cs : Array Value} (h : w.ownsRow base e s v n xs) (hb : Blk w g t cs) (hne : e ≠ t) : v.ownBlock ≠ some g := by
  rcases owned_formN h with ⟨rfl, _⟩ | ⟨g', cap, cur, rfl, _, _, _, hh, _⟩
  · simp [Value.ownBlock]
  · intro he
    injection he with he
    change g' = g at he
    subst he
    exact Blk.ne_ hh hb hne rfl
theorem owned_baseN {w : World} {base base' n s : Nat} {e : TypeId} {v : Value} {xs : List Value} (h : w.ownsRow base e s v n xs) (hb : ∀ g, v.ownBlock = some g → base' ≤ g) : w.ownsRow base' e s v n xs := by
  obtain ⟨hl, h⟩ := h
  refine ⟨hl, ?_⟩
  rcases h with h | ⟨g, cap, cur, rfl, _, hr⟩
  · exact .inl h
  · exact .inr ⟨g, cap, cur, rfl, hb g rfl, hr⟩
theorem owned_placeN {w : World} {base n s : Nat} {e : TypeId} {v : Value} {xs : List Value} (h : w.ownsRow base e s v n xs) (hn : 0 < n) : ∃ g cap, v = .slice (some ⟨g, 0, none⟩) n cap := by
  rcases owned_formN h with ⟨_, h0, _⟩ | ⟨g, cap, cur, rfl, _⟩
  · omega
  · exact ⟨g, cap, rfl⟩
theorem run_appG (base : Nat) (t ty e : TypeId) (i : TypeInfo) (z : Value) (size bytes : Nat) (ht : P.underlying t = some (.slice e)) (hi : P.info? e = some i) (hz : i.zero = some z)
    (hsize : i.size = size) (hby : i.bytes = bytes) (hzs : z.cells.size = size) (hsz : 0 < size) (v : Value) (n : Nat) (xs : List Value) (hown : w.ownsRow base e size v n xs)
    (ad : Addr) (m c : Nat) (news : List Value) (hl : news.length = m * size) (hnews : ∀ j u, news[j]? = some u → w.cell? (ad.add j) = some u) (h1 : ∀ u ∈ news, u.oneCell' = true) (hm : 0 < m)
    (h63 : n + m ≤ maxLen) (hbytes : (n + m) * bytes ≤ 140737488355328) (hbase : base ≤ w.heap.size) :
    ∃ v' w', (Builtin.append_ #[t, t] ty #[v, .slice (some ad) m c]).run P w = .ok v' w' ∧ w'.ownsRow base e size v' (n + m) (xs ++ news) ∧ w.grownBy w' v.ownBlock ∧ Grew w w' v v' n m := by
  obtain ⟨v', w', hr, h2, h3, h4, h5⟩ := run_append_own_at (P := P) w base t ty e i z size bytes ht hi hz hsize hby hzs hsz v n xs hown ad m c news hl hnews h1 h63 hbytes hbase
  refine ⟨v', w', hr, h2, h3, ?_⟩
  have hsmall : n + m ≤ 9223372036854775807 := by simp only [maxLen] at h63; omega
  have hl' : news.length = m * i.size := by rw [hsize]; exact hl
  have hxl : xs.length = n * i.size := by rw [hsize]; exact hown.1
  have hms : (n + m) * size = n * size + m * size := Nat.add_mul ..
  rcases owned_formN hown with ⟨rfl, rfl, rfl⟩ | ⟨g, cap, cur, rfl, hbg, hnc, hcm, hg, hcs, htake, _⟩
  · have h := run_append_nil (P := P) w t ty e i z ht hi hz ad m c news hl' hnews hm (by omega) (by rw [hby]; have hb := hbytes; simp only [Nat.zero_add] at hb; omega)
    rw [hr] at h
    injection h with k4 k5
    subst k4 k5
    exact .inr ⟨rfl, ((Below.refl _ _).drew).alloc (Nat.le_refl _) _⟩
  · by_cases hroom : n + m ≤ cap
    · have hcap : (n + m) * size ≤ cap * size := Nat.mul_le_mul_right _ hroom
      have h := run_append_room (P := P) w t ty e i ht hi g n cap cur hg ad m c news hl' hnews h1 hroom (by rw [hl, hsize, hcs]; omega)
      rw [hr] at h
      injection h with k4 k5
      subst k4
      exact .inl ⟨g, cap, rfl, rfl⟩
    · have holds : ∀ j u, xs[j]? = some u → w.cell? ((⟨g, 0, none⟩ : Addr).add j) = some u := by
        intro j u hu
        have hc := hg.cell j
        have h0 : (⟨g, 0, none⟩ : Addr).add j = ⟨g, j, none⟩ := by cases j <;> simp [Addr.add]
        rw [h0, hc, ← Array.getElem?_toList]
        rw [← htake] at hu
        have hj : j < n * size := by
          have := (List.getElem?_eq_some_iff.1 hu).1
          rw [List.length_take] at this
          omega
        rwa [List.getElem?_take_of_lt hj] at hu
      have h := run_append_grow (P := P) w t ty e i z ht hi hz ⟨g, 0, none⟩ n cap xs hxl holds ad m c news hl' hnews (by omega) (by omega) (growslice_fits (by omega) (by rw [hby]; exact hbytes))
      rw [hr] at h
      injection h with k4 k5
      subst k4 k5
      exact .inr ⟨rfl, ((Below.refl _ _).drew).alloc (Nat.le_refl _) _⟩
end
section
variable (R e s n m : Nat) (v : Value) (ys : List Value)
/-- the grown row in the old one's place -/
def InPlace (w : World) (k : Nat) : Prop := ∃ cap, w.ownsRow R e s (.slice (some ⟨k, 0, none⟩) (n + m) cap) (n + m) ys
/-- a world in which the row may have grown in its place; all else is as it was, but for what is new -/
def Gro (a b : World) : Prop := Turned (fun k => v.ownBlock = some k) a b ∧ ∀ k, v.ownBlock = some k → k < a.heap.size → b.heap[k]? = a.heap[k]? ∨ ∃ cap, v = .slice (some ⟨k, 0, none⟩) n cap ∧ b.ownsRow R e s (.slice (some ⟨k, 0, none⟩) (n + m) cap) (n + m) ys
instance : Gen.RelOk (Gro R e s n m v ys) where
  refl w := ⟨Turned.refl _ _, fun _ _ _ => .inl rfl⟩
  drew w := ⟨(Turned.refl _ _).drew, fun _ _ _ => .inl rfl⟩
  trans a b c h1 h2 := ⟨h1.1.trans h2.1, fun k hk hlt => by
    have hltb : k < b.heap.size := Nat.lt_of_lt_of_le hlt h1.1.size
    rcases h2.2 k hk hltb with h | h
    · rcases h1.2 k hk hlt with h3 | ⟨cap, h4, h3⟩
      · exact .inl (h.trans h3)
      · exact .inr ⟨cap, h4, owned_keepN h3 fun g hg _ => by
          have hg : some k = some g := hg
          injection hg with hg
          subst hg
          exact h⟩
    · exact .inr h⟩
/-- the grown row -/
def Grown (N : Nat) (u : Value) (w : World) : Prop := w.ownsRow R e s u (n + m) ys ∧ ((∃ k cap, v = .slice (some ⟨k, 0, none⟩) n cap ∧ u = .slice (some ⟨k, 0, none⟩) (n + m) cap ∧ k < N) ∨ ∃ r, u.ownBlock = some r ∧ N ≤ r ∧ ∀ k, v.ownBlock = some k → k < N)
variable {R e s n m v ys}
theorem Gro.own {w0 w : World} {xs news : List Value} (h : Gro R e s n m v (xs ++ news) w0 w) (ho : w0.ownsRow R e s v n xs) : w.ownsRow R e s v n xs := by
  rcases owned_formN ho with ⟨rfl, rfl, rfl⟩ | ⟨g, cap, cur, rfl, _, _, _, _, _, _, hlt⟩
  · exact ⟨ho.1, .inl ⟨rfl, rfl⟩⟩
  · rcases h.2 g rfl hlt with h2 | ⟨cap', h2, h3⟩
    · exact owned_keepN ho fun k hk _ => by
        have hk : some g = some k := hk
        injection hk with hk
        subst hk
        exact h2
    · injection h2 with _ _ h2
      subst h2
      have h4 := own_cutN h3 (Nat.le_add_right n m)
      rwa [List.take_left' ho.1] at h4
theorem Gro.grow {w w' : World} {u : Value} {xs news : List Value} (ho : w.ownsRow R e s v n xs) (hw : w'.ownsRow R e s u (n + m) (xs ++ news)) (hb : w.grownBy w' v.ownBlock) (hg : Grew w w' v u n m) : Gro R e s n m v (xs ++ news) w w' := by
  refine ⟨Turned.of_grown hb (fun k h _ => h), fun k hk hlt => ?_⟩
  rcases hg with ⟨g, cap, h1, h2⟩ | ⟨_, h2⟩
  · subst h1 h2
    have hk : some g = some k := hk
    injection hk with hk
    subst hk
    exact .inr ⟨cap, rfl, hw⟩
  · exact .inl (h2.block k hlt)
theorem Grown.of {w0 w w' : World} {u : Value} {xs news : List Value} (ho0 : w0.ownsRow R e s v n xs) (hsz : w0.heap.size ≤ w.heap.size) (hw : w'.ownsRow R e s u (n + m) (xs ++ news)) (hg : Grew w w' v u n m) : Grown R e s n m v (xs ++ news) w0.heap.size u w' := by
  refine ⟨hw, ?_⟩
  rcases hg with ⟨g, cap, h1, h2⟩ | ⟨h1, _⟩
  · exact .inl ⟨g, cap, h1, h2, (owned_ltN ho0 (g := g) (by rw [h1]; rfl)).2⟩
  · exact .inr ⟨_, h1, hsz, fun k hk => (owned_ltN ho0 hk).2⟩
theorem Grown.stays {N : Nat} {w w' : World} {u : Value} {xs news : List Value} (h : Grown R e s n m v (xs ++ news) N u w) (hx : Gro R e s n m v (xs ++ news) w w') : Grown R e s n m v (xs ++ news) N u w' := by
  obtain ⟨h1, h2⟩ := h
  refine ⟨?_, h2⟩
  rcases h2 with ⟨k, cap, rfl, rfl, hk⟩ | ⟨r, hr, hN, hv⟩
  · have hlt := (owned_ltN h1 (g := k) rfl).2
    rcases hx.2 k rfl hlt with h3 | ⟨cap', h3, h4⟩
    · exact owned_keepN h1 fun j hj _ => by
        have hj : some k = some j := hj
        injection hj with hj
        subst hj
        exact h3
    · injection h3 with _ _ h3
      subst h3
      exact h4
  · exact owned_keepN h1 fun j hj hlt => hx.1.block j hlt (fun hvj => by
      have := hv j hvj
      rw [hr] at hj
      injection hj with hj
      omega)
theorem Grown.blk {N : Nat} {w : World} {u : Value} {xs news : List Value} (hm : 0 < n + m) (h : Grown R e s n m v (xs ++ news) N u w) : ∃ r, u.ownBlock = some r ∧ r < w.heap.size := by
  obtain ⟨g, cap, rfl⟩ := owned_placeN h.1 hm
  exact ⟨g, rfl, (owned_ltN h.1 (g := g) rfl).2⟩
end
theorem fold_set : ∀ (l : List Value) (k : Nat) (arr : Array Value), k + l.length ≤ arr.size → (l.zipIdx k).foldl (fun cs (p : Value × Nat) => cs.setIfInBounds (0 + p.2) p.1) arr = (arr.toList.take k ++ l ++ arr.toList.drop (k + l.length)).toArray
  | [], k, arr, _ => by simp
  | x :: l, k, arr, h => by
    simp only [List.length_cons] at h
    rw [List.zipIdx_cons, List.foldl_cons, fold_set l (k + 1) _ (by simp; omega)]
    simp only [Nat.zero_add, Array.toList_setIfInBounds, List.length_cons]
    congr 1
    have hk : k < arr.toList.length := by simp; omega
    rw [List.take_set, List.drop_set_of_lt (by omega), List.take_succ_eq_append_getElem hk, List.set_append_right _ _ (by simp; omega)]
    have : k - (List.take k arr.toList).length = 0 := by simp; omega
    rw [this]
    simp [Nat.add_comm, Nat.add_left_comm]
section
variable {P : Program}
theorem run_buildSlice1 (t e : TypeId) (i : TypeInfo) (z : Value) (cs : Array Value) (ht : P.underlying t = some (.slice e)) (hi : P.info? e = some i) (hz : i.zero = some z) (hs : i.size = cs.size) (h0 : 0 < cs.size) (h24 : cs.size ≤ 16777216) (w : World) :
    (Instr.buildSlice t 1 #[(0, .agg cs)]).run P w = .ok (.slice (some ⟨w.heap.size, 0, none⟩) 1 1) (w.alloc (.cells cs e)) := by
  have h24' : ¬ (16777216 < cs.size) := by omega
  have hne : cs.size ≠ 0 := by omega
  have hc : ∀ arr : Array Value, arr.size = cs.size → cs.zipIdx.foldl (fun (a : Array Value) (p : Value × Nat) => a.setIfInBounds (0 + p.2) p.1) arr = cs := by
    intro arr ha
    rw [← Array.foldl_toList, Array.toList_zipIdx, fold_set cs.toList 0 arr (by simp [ha])]
    have : List.drop (0 + cs.toList.length) arr.toList = [] := List.drop_eq_nil_of_le (by simp [ha])
    rw [this]; simp
  have hf : ∀ arr : Array Value, arr.size = cs.size → Instr.fill (fun i => some (i * cs.size, cs.size)) arr [(0, .agg cs)] = some cs := by
    intro arr ha
    simp only [Instr.fill, Value.cells, Nat.zero_mul]
    have h2 := hc arr ha
    simp only [Nat.zero_add] at h2 ⊢
    rw [if_neg (by simp [ha])]
    have h3 : ∀ (k : Nat), k = cs.zipIdx.size → Array.foldl (fun (a : Array Value) (p : Value × Nat) => a.setIfInBounds p.2 p.1) arr cs.zipIdx 0 k = cs := fun k hk => by rw [hk]; exact h2
    exact congrArg some (h3 _ (by simp))
  have hf2 := hf ((Array.range cs.size).map (z.cells[· % z.cells.size]!)) (by simp)
  simp only [Instr.buildSlice, Sem.run_bind, run_underlying ht, Result.andThen_ok]
  simp [run_sizeOf w hi, Program.cellsOf, hi, hs, h24', hne, zeroValue, run_typeInfo w hi, hz, hf2, newRow]
end
section
variable {P : Program} {ρ : Operand → Value} {o : Oper}
theorem exec_load_blk (ty : TypeId) (x : Operand) (ho : o.op = .load ty x) (g : Nat) (hx : ρ x = .pointer (some ⟨g, 0, none⟩)) (t : TypeId) (cs : Array Value) (d : TypeDesc) (w : World) (hg : Blk w g t cs)
    (hu : P.underlying ty = some d) (hd : (match d with | .struct _ | .array _ _ => true | _ => false) = true) (hi : (P.info? ty).map (·.size) = some cs.size) : (execOp ρ o).run P w = .ok (.value (.agg cs)) w := by
  unfold execOp
  simp only [ho, hx, Instr.loadAt, Instr.sureAddr, Sem.run_bind, Sem.run_pure, Result.andThen_ok, run_loadVar_row w g t ty cs (0, 0) d hg hu hd hi]
theorem exec_load_slice (ty e : TypeId) (x : Operand) (ho : o.op = .load ty x) (p : Addr) (hx : ρ x = .pointer (some p)) (u : Value) (w : World) (hu : P.underlying ty = some (.slice e)) (hc : w.cell? p = some u) : (execOp ρ o).run P w = .ok (.value u) w := by
  unfold execOp
  simp [ho, hx, Instr.loadAt, Instr.sureAddr, loadVar, isAgg, run_underlying hu, hc]
theorem exec_build1 (t e : TypeId) (x : Operand) (ho : o.op = .buildSlice t 1 #[(0, x)]) (i : TypeInfo) (z : Value) (cs : Array Value) (hx : ρ x = .agg cs) (ht : P.underlying t = some (.slice e)) (hi : P.info? e = some i) (hz : i.zero = some z) (hs : i.size = cs.size) (h0 : 0 < cs.size) (h24 : cs.size ≤ 16777216) (w : World) :
    (execOp ρ o).run P w = .ok (.value (.slice (some ⟨w.heap.size, 0, none⟩) 1 1)) (w.alloc (.cells cs e)) := by
  unfold execOp
  simp only [ho, List.map_toArray, List.map_cons, List.map_nil, hx, Sem.run_bind, run_buildSlice1 t e i z cs ht hi hz hs h0 h24 w, Result.andThen_ok, Sem.run_pure]
theorem exec_append (s x : Operand) (t : TypeId) (ho : o.op = .call { callee := .builtin .append, args := #[s, x], argTypes := #[t, t] }) (v y v' : Value) (w w' : World) (hs : ρ s = v) (hx : ρ x = y)
    (hr : (Builtin.append_ #[t, t] o.type #[v, y]).run P w = .ok v' w') : (execOp ρ o).run P w = .ok (.value v') w' := by
  unfold execOp
  simp only [ho, resolve, invoke, builtin, Sem.run_bind, Sem.run_pure, Result.andThen_ok, List.map_toArray, List.map_cons, List.map_nil, hs, hx, hr]
end
/-- a row of one, made behind N -/
def MadeRow (N : Nat) (ty : TypeId) (cs : Array Value) (u : Value) (w : World) : Prop := ∃ r, u = .slice (some ⟨r, 0, none⟩) 1 1 ∧ N ≤ r ∧ Blk w r ty cs
theorem MadeRow.cells {ty : TypeId} {l : List Value} {r : Nat} {w : World} (h : Blk w r ty l.toArray) : ∀ j u, l[j]? = some u → w.cell? ((⟨r, 0, none⟩ : Addr).add j) = some u := by
  intro j u hu
  have h0 : (⟨r, 0, none⟩ : Addr).add j = ⟨r, j, none⟩ := by cases j <;> simp [Addr.add]
  rw [h0, h.cell j, ← hu]
  simp
/-- copy into a block, whatever the source is -/
theorem wpList_copyS {P : Program} {ops : Array Oper} {rest : List Oper} {o : Oper} {a : Act} {w : World} {Q : Exit → Act → World → Prop} (hgd : o.guard = none) (d s : Operand) (dT sT : TypeId)
    (ho : o.op = .call { callee := .builtin .copy, args := #[d, s], argTypes := #[dT, sT] }) (elem : TypeId) (hu : P.underlying dT = some (.slice elem)) (hsz : (P.info? elem).map (·.size) = some 1)
    (g off dLen dCap : Nat) (A : Option Addr) (sLen sCap : Nat) (cur : Array Value) (t : TypeId) (hg : Blk w g t cur) (cs : List Value) (hn : cs.length = Nat.min sLen dLen)
    (hsrc : Src w A sLen sCap cs) (hfit : off + cs.length ≤ cur.size)
    (hd : a.eval d = .slice (some ⟨g, off, none⟩) dLen dCap) (hs : a.eval s = .slice A sLen sCap)
    (h : ∀ w', Blk w' g t (cur.toList.take off ++ (cs ++ cur.toList.drop (off + cs.length))).toArray → w.grownBy w' (some g) → wpList P ops Q rest (a.put o.dst (goInt cs.length)) w') : wpList P ops Q (o :: rest) a w := by
  rcases A with _ | ad
  · obtain ⟨rfl, rfl⟩ := hsrc.none_ rfl
    obtain rfl : cs = [] := List.eq_nil_of_length_eq_zero hsrc.len
    refine wpList_plain hgd fun K hK => ?_
    have hw : Blk w g t (cur.toList.take off ++ ([] ++ cur.toList.drop (off + ([] : List Value).length))).toArray := by simpa using hg
    have hr : (Builtin.copy_ #[dT, sT] o.type #[.slice (some ⟨g, off, none⟩) dLen dCap, .slice none 0 0]).run P w = .ok (goInt 0) w := by
      cases hi : P.info? elem with
      | none => simp [hi] at hsz
      | some i =>
        simp [Builtin.copy_, run_underlying hu, Builtin.lenOf, sizeOf, typeInfo, hi, Builtin.firstCells, storeCells]
    unfold Oper.wp execOp
    simp only [ho, resolve, invoke, builtin, Sem.run_bind, Sem.run_pure, Result.andThen_ok, List.map_toArray, List.map_cons, List.map_nil, hd, hs, hr]
    exact hK _ _ (h w hw (World.grownBy.refl w _))
  · exact wpList_copyA hgd d s dT sT ho elem hu hsz g off dLen dCap ad sLen sCap cur t hg cs hn (hsrc.cells ad rfl) hfit hsrc.one hd hs h
end Go.Proofs.Ytfppddnfdinipaa
end
section
namespace Go.Proofs.Ytfppddnfdinipaa
open Go Go.RowKit
/-- a pending write's cells -/
def sh (x : Int) (l : List UInt8) : List Value := .int .i64 x :: bv (l ++ List.replicate (64 - l.length) 0)
theorem Src.turned2 {w w' : World} {S : Nat → Prop} {A : Option Addr} {m c : Nat} {news : List Value} (h : Src w A m c news) (ht : Turned S w w') (hb : ∀ ad, A = some ad → 0 < m → ¬ S ad.block) : Src w' A m c news :=
  ⟨h.len, h.none_, h.one, fun ad had j u hu => by
    have h1 := h.cells ad had j u hu
    have h2 := World.block_lt_of_cell? w _ h1
    have h3 : 0 < m := by have := (List.getElem?_eq_some_iff.1 hu).1; have := h.len; omega
    have h4 : (ad.add j).block = ad.block := Go.ChangeShapes.block_add ad j
    rw [h4] at h2
    exact (World.cell?_of_block (by rw [h4]; exact ht.block _ h2 (hb ad had h3))).trans h1⟩
theorem sh_copy (x : Int) (l : List UInt8) : ((sh x []).toArray.toList.take 1 ++ (bv l ++ (sh x []).toArray.toList.drop (1 + (bv l).length))).toArray = (sh x l).toArray := by
  have h1 : (bv l).length = l.length := bvL l
  rw [h1]
  simp only [sh, List.nil_append, List.length_nil, Nat.sub_zero, List.take_succ_cons, List.take_zero, Nat.add_comm 1, List.drop_succ_cons]
  congr 1
  rw [bvA]
  congr 2
  unfold bv
  rw [← List.map_drop, List.drop_replicate]
  rfl
theorem turned_two {w w1 w2 : World} {g : Nat} {o : Obj} (h1 : w.grownBy w1 (some g)) (h2 : (w1.alloc o).grownBy w2 (some w1.heap.size)) : Turned (· = g) w w2 :=
  ((Turned.of_grown (S := (· = g)) h1 (fun k h _ => by injection h with h; exact h.symm)).alloc o).then_ (Turned.of_grown (S := (· = w1.heap.size)) h2 (fun k h _ => by injection h with h; exact h.symm)) (fun k hk h => by
    have h : k = w1.heap.size := h
    have := h1.size
    omega)
theorem sh_one (x : Int) (l : List UInt8) : ∀ u ∈ sh x l, u.oneCell' = true := by
  intro u hu
  rcases List.mem_cons.1 hu with rfl | hu
  · rfl
  · exact bv1 _ u hu
theorem info_shot : (Try.prog.info? 215).map (fun i => (i.zero, i.size, i.bytes)) = some (some (.agg Try.zeroCells215), 65, 72) := by kernel_rfl
theorem sh_len (x : Int) (l : List UInt8) (hl : l.length ≤ 64) : (sh x l).length = 65 := by simp [sh, bv]; omega
set_option maxRecDepth 100000 in
set_option maxHeartbeats 1000000 in
theorem write_ok {de fu de' fu' : Int} {a : Addr} {n c g m : Nat} (R : Nat) (xs : List Value) (vp : Value) (x : Int) (l : List UInt8) (A : Option Addr) (cap : Nat) (w : World) (hR : R ≤ w.heap.size) (hn : n ≤ 8192) (hm : m ≤ 100000)
    (hde : 0 ≤ de ∧ de ≤ 1000000000) (hfu : 0 ≤ fu ∧ fu ≤ 9223372036854775807) (ht : tick de fu false = (0, de', fu', false)) (hx : 0 ≤ x ∧ x < (n : Int)) (hl : l.length ≤ 64)
    (hb : Blk w g 150 (dv de fu false (.slice (some a) n c) vp)) (hp : w.ownsRow R 215 65 vp m xs) (hs : Src w A l.length cap (bv l)) (hsb : ∀ ad, A = some ad → 0 < l.length → ¬ ad.block = g) :
    Calls Try.prog 67 #[.pointer (some ⟨g, 0, none⟩), .int .i64 x, .slice A l.length cap] w fun e w' => e = .returned (.int .i64 0) ∧ ∃ v', Blk w' g 150 (dv de' fu' false (.slice (some a) n c) v') ∧ w'.ownsRow R 215 65 v' (m + 1) (xs ++ sh x l) ∧ Turned (fun k => k = g ∨ vp.ownBlock = some k) w w' ∧ (∀ k, v'.ownBlock = some k → vp.ownBlock = some k ∨ w.heap.size ≤ k) := by
  have hd : decide (0 ≤ x ∧ x < (n : Int)) = true := decide_eq_true hx
  have hx1 := hx.1
  have hx2 := hx.2
  have h64 : ¬ (64 : Int) < (l.length : Int) := by omega
  have HT := hide ht
  have H := hide (And.intro hb (And.intro hp hs))
  have HDE := hide (And.intro hde hfu)
  clear hb hp hs ht hde hfu hx
  go_enter Try.func67, Try.ntmps67
  go_wp2_with fail
  refine (able_any _ H.out.1).mono ?_
  rintro e w' ⟨rfl, rfl⟩
  rw [if_neg (by simp)]
  dsimp only
  go_wp2_with fail
  refine (has_any _ hn x (by omega) H.out.1).mono ?_
  rintro e w' ⟨rfl, rfl⟩
  rw [hd]
  dsimp only
  go_wp2_with fail
  refine (next_any _ _ HDE.out.1 HDE.out.2 H.out.1).mono ?_
  rintro e w1 ⟨rfl, hb1, hg1⟩
  rw [HT.out] at hb1 ⊢
  have H1 := hide (And.intro hb1 hg1)
  clear hb1 hg1
  dsimp only
  have hz0 : Try.zeroCells215.setIfInBounds 0 (.int .i64 x) = (sh x []).toArray := by
    rw [show Try.zeroCells215 = (sh 0 []).toArray by kernel_rfl, List.setIfInBounds_toArray]
    rfl
  have hsz : (Try.prog.info? 215).map (·.size) = some (sh x []).toArray.size := by
    rw [show (sh x []).toArray.size = 65 by simp [sh, bv]]
    kernel_rfl
  have hzs : Try.zeroCells215.size = (sh x []).toArray.size := by
    rw [show (sh x []).toArray.size = 65 by simp [sh, bv]]
    kernel_rfl
  have hone : (sh x []).toArray.all (·.oneCell') = true := by kernel_rfl
  obtain ⟨S0, hS0⟩ : ∃ S0, S0 = (sh x []).toArray := ⟨_, rfl⟩
  rw [← hS0] at hz0 hsz hzs hone
  have HBN := hide (Blk.new w1 215 Try.zeroCells215)
  have HSB := hide hsb
  have HL : Hid ((bv l).length = Nat.min l.length 64) := hide (by rw [bvL]; exact (Nat.min_eq_left hl).symm)
  have HF : Hid (1 + (bv l).length ≤ S0.size) := hide (by rw [hS0, bvL]; simp [sh, bv]; omega)
  have HSRC : Hid (∀ w2, (w1.alloc (.cells Try.zeroCells215 215)).grownBy w2 (some w1.heap.size) → Src w2 A l.length cap (bv l)) := hide (fun w2 hg2 => H.out.2.2.turned2 (turned_two H1.out.2 hg2) HSB.out)
  have HS0 := hide hS0
  clear hS0
  go_wp2_with (first
    | ((with_reducible refine wpList_store_blkA (o := ⟨none, _, _, _, _, _⟩) rfl 215 (.tmp 8) (.tmp 33) rfl w1.heap.size Try.zeroCells215 S0 215 HBN.out hsz hzs hone ?_ ?_ ?_); rfl; rfl; intro w2 h2 hg2; have H2 := hide (And.intro h2 hg2); have H3 := hide (HSRC.out w2 hg2); clear h2 hg2; dsimp only [Act.put])
    | ((with_reducible refine wpList_copyS (o := ⟨some 37, _, _, _, _, _⟩) rfl (.tmp 35) (.tmp 36) 66 66 rfl 5 Try.underlying66 size5 w1.heap.size 1 64 64 A l.length cap S0 215 H2.out.1 (bv l) HL.out H3.out HF.out ?_ ?_ ?_); rfl; rfl; intro w3 h3 hg3; have H4 := hide (And.intro h3 hg3); clear h3 hg3; dsimp only [Act.put, List.setIfInBounds_toArray, List.set_cons_zero, List.set_cons_succ]))
  have hb13 : Below w1.heap.size w1 w3 := ((((Below.refl _ _).alloc (Nat.le_refl _) (.cells Try.zeroCells215 215)).grown H2.out.2 (by rw [size_alloc]; omega) (fun k hk => by injection hk with hk; omega))).grown H4.out.2 (by have := H2.out.2.size; rw [size_alloc] at this; omega) (fun k hk => by injection hk with hk; omega)
  have hdv := H1.out.1.below hb13 H1.out.1.lt
  have c4 := (hdv.cell 4).trans (dv4 ..)
  have f4 := hdv.frozen 4
  have hlt := hdv.lt
  obtain ⟨S1, hS1⟩ : ∃ S1, S1 = (sh x l).toArray := ⟨_, rfl⟩
  have hh3 : w3.heap[w1.heap.size]? = some (.cells S1 215 (0, 0)) := by
    have h := H4.out.1
    rw [HS0.out, sh_copy, ← hS1] at h
    exact h
  have hS1s : (Try.prog.info? 215).map (·.size) = some S1.size := by
    rw [hS1, show (sh x l).toArray.size = 65 by rw [List.size_toArray, sh_len x l hl]]
    kernel_rfl
  have H5 := hide (And.intro hb13 hdv)
  clear hb13 hdv
  have hpn : vp.ownBlock ≠ some g := owned_neN H.out.2.1 H.out.1 (by decide)
  have hp3 : w3.ownsRow R 215 65 vp m xs := owned_keepN H.out.2.1 fun k hk hlt => (H5.out.1.block k (by have := H1.out.2.size; omega)).trans (H1.out.2.block k hlt (fun e => hpn (hk.trans e)))
  have hRN : R ≤ w3.heap.size := by have := H1.out.2.size; have := H5.out.1.size; omega
  have hvN : ∀ k, vp.ownBlock = some k → k < w3.heap.size := fun k hk => (owned_ltN hp3 hk).2
  obtain ⟨i, hi, hz0, hz1, hz2⟩ := info_parts info_shot
  have hS1l : S1.size = 65 := by rw [hS1, List.size_toArray, sh_len x l hl]
  let X : World → World → Prop := Gro R 215 65 m 1 vp (xs ++ sh x l)
  let V44 := MadeRow w3.heap.size 215 S1
  let V45 := Grown R 215 65 m 1 vp (xs ++ sh x l) w3.heap.size
  have hL : ∀ p ∈ ([(44, V44), (45, V45)] : Gen.MadeL), Gen.MadeOk X p.2 := by
    intro p hp
    simp only [List.mem_cons, List.not_mem_nil, or_false] at hp
    rcases hp with rfl | rfl
    · refine ⟨fun u w w' => ?_, fun u w => ?_⟩
      · rintro ⟨r, rfl, hr, hb⟩ hx
        exact ⟨r, rfl, hr, (hx.1.block r hb.lt (fun hk => by have := hvN r hk; omega)).trans hb⟩
      · rintro ⟨r, rfl, hr, hb⟩
        exact ⟨r, rfl, hb.lt⟩
    · refine ⟨fun u w w' h hx => h.stays hx, fun u w h => ?_⟩
      obtain ⟨g, cap, h2⟩ := owned_placeN h.1 (by omega)
      exact ⟨g, by rw [h2]; rfl, (owned_ltN h.1 (by rw [h2]; rfl)).2⟩
  refine Gen.wp_made (X := X) 8 [(44, V44), (45, V45)] (by kernel_rfl) (by kernel_rfl) hL (by simp) (by simp) ?_
  simp only [List.take_succ_cons, List.take_zero, List.drop_succ_cons, List.drop_zero]
  have HG : ∀ W, Gen.Ext X w3 W → Blk W g 150 (dv de' fu' false (.slice (some a) n c) vp) := fun W hW => (hW.1.block g hlt (fun hk => hpn hk)).trans H5.out.2
  refine Gen.made_val (.pointer (some ⟨g, 0, none⟩)) (by kernel_rfl) (by kernel_rfl) (by kernel_rfl) (fun _ _ => by kernel_rfl) ?_
  simp only [Act.put, List.setIfInBounds_toArray, List.set_cons_zero, List.set_cons_succ]
  refine Gen.made_val (.pointer (some ⟨g, 0, none⟩)) (by kernel_rfl) (by kernel_rfl) (by kernel_rfl) (fun _ _ => by kernel_rfl) ?_
  simp only [Act.put, List.setIfInBounds_toArray, List.set_cons_zero, List.set_cons_succ]
  refine Gen.made_val (.pointer (some ⟨g, 0, none⟩)) (by kernel_rfl) (by kernel_rfl) (by kernel_rfl) (fun _ _ => by kernel_rfl) ?_
  simp only [Act.put, List.setIfInBounds_toArray, List.set_cons_zero, List.set_cons_succ]
  refine Gen.made_val (.pointer (some ⟨g, 4, none⟩)) (by kernel_rfl) (by kernel_rfl) (by kernel_rfl) (fun _ _ => by kernel_rfl) ?_
  simp only [Act.put, List.setIfInBounds_toArray, List.set_cons_zero, List.set_cons_succ]
  refine Gen.made_val vp (by kernel_rfl) (by kernel_rfl) (by kernel_rfl) (fun W hW => ?hld) ?_
  case hld =>
    exact exec_load_slice (o := ⟨some 42, _, _, _, _, _⟩) 148 215 (.tmp 41) rfl ⟨g, 4, none⟩ rfl vp W Try.underlying148 ((HG W hW).cell 4)
  simp only [Act.put, List.setIfInBounds_toArray, List.set_cons_zero, List.set_cons_succ]
  refine Gen.made_val (.agg S1) (by kernel_rfl) (by kernel_rfl) (by kernel_rfl) (fun W hW => exec_load_blk (o := ⟨some 43, _, _, _, _, _⟩) 215 (.tmp 8) rfl w1.heap.size rfl 215 S1 _ W ?hb8 Try.underlying215 rfl hS1s) ?_
  case hb8 =>
    exact (hW.1.block _ (Blk.lt hh3) (fun hk => by have := (owned_ltN H.out.2.1 hk).2; have := H1.out.2.size; omega)).trans hh3
  simp only [Act.put, List.setIfInBounds_toArray, List.set_cons_zero, List.set_cons_succ]
  refine Gen.made_new 44 V44 hL (by kernel_rfl) (by kernel_rfl) rfl rfl (fun W hW => ⟨_, _, W.heap.size, exec_build1 (o := ⟨some 44, _, _, _, _, _⟩) 148 215 (.tmp 43) rfl i _ S1 rfl Try.underlying148 hi hz0 (hz1.trans hS1l.symm) (by omega) (by omega) W, ?hx44, ⟨_, rfl, hW.1.size, Blk.new _ _ _⟩, rfl, Nat.le_refl _⟩) ?_
  case hx44 =>
    exact ⟨(Turned.refl _ _).alloc _, fun k hk _ => .inl (Below.heap_alloc _ _ _ (by have := hvN k hk; have := hW.1.size; omega))⟩
  simp only [Act.put, List.setIfInBounds_toArray, List.set_cons_zero, List.set_cons_succ]
  refine Gen.made_newg 44 V44 45 V45 (by kernel_rfl) rfl (by kernel_rfl) rfl rfl ?happ ?_
  case happ =>
    rintro u W hW ⟨r, rfl, hr, hb⟩
    have ho : W.ownsRow R 215 65 vp m xs := Gro.own hW hp3
    obtain ⟨v', W', h1, h2, h3, h4⟩ := run_appG (P := Try.prog) (w := W) R 148 148 215 i _ 65 72 Try.underlying148 hi hz0 hz1 hz2 (by kernel_rfl) (by omega) vp m xs ho ⟨r, 0, none⟩ 1 1 (sh x l) (by rw [sh_len x l hl]) (MadeRow.cells (by rw [hS1] at hb; exact hb)) (sh_one x l) (by omega) (by simp only [maxLen]; omega) (by omega) (by have := hW.1.size; omega)
    refine ⟨v', W', exec_append (o := ⟨some 45, _, _, _, _, _⟩) (.tmp 42) (.tmp 44) 148 rfl vp _ v' W W' rfl rfl h1, Gro.grow ho h2 h3 h4, Grown.of hp3 hW.1.size h2 h4, ?_⟩
    intro t V u' hne hV hu' e
    have hm := Gen.madeBy_mem hV
    simp only [List.mem_cons, List.not_mem_nil, or_false, Prod.mk.injEq] at hm
    rcases hm with ⟨rfl, rfl⟩ | ⟨rfl, rfl⟩
    · obtain ⟨r', rfl, hr', hb'⟩ := hu'
      rcases h4 with ⟨g', cap', e1, e2⟩ | ⟨e1, _⟩
      · rw [e2] at e
        injection e with e
        injection e with e
        injection e with e
        have := hvN g' (by rw [e1]; rfl)
        omega
      · rw [← e] at e1
        injection e1 with e1
        have e1 : r' = W.heap.size := e1
        have := hb'.lt
        omega
    · exact hne rfl
  simp only [Act.put, List.setIfInBounds_toArray, List.set_cons_zero, List.set_cons_succ]
  show ∀ w', _ → _
  intro w4 hx4
  simp only [Gen.ended, List.nil_append]
  intro u44 _ _ u45 h45 _
  simp only [Act.put, List.setIfInBounds_toArray, List.set_cons_zero, List.set_cons_succ]
  have b4 := HG w4 hx4
  have c4 := (b4.cell 4).trans (dv4 ..)
  have f4 := b4.frozen 4
  have hlt := b4.lt
  have H6 := hide (And.intro b4 (And.intro hx4 h45))
  obtain ⟨k45, cap45, hu45⟩ := owned_placeN h45.1 (by omega)
  clear b4 hx4 h45
  subst hu45
  go_wp2_with fail
  go_ret
  obtain ⟨b4, hx4, h45⟩ := H6.out
  have b5 := b4.set_ 4 (.slice (some ⟨k45, 0, none⟩) (m + 1) cap45)
  rw [dv_set4] at b5
  have hkg : k45 ≠ g := fun e => owned_neN h45.1 b4 (by decide) (by rw [← e]; rfl)
  have hT : Turned (fun k => k = g ∨ vp.ownBlock = some k) w' w4 := by
    have t1 : Turned (fun k => k = g ∨ vp.ownBlock = some k) w' w1 := Turned.of_grown H1.out.2 (fun k h _ => .inl (by injection h with h; exact h.symm))
    exact (t1.trans (Turned.of_below H5.out.1 _)).then_ hx4.1 (fun k _ h => .inr h)
  refine ⟨rfl, _, b5, owned_keepN h45.1 fun k hk _ => ?_, hT.setCell (fun _ => .inl rfl) _, fun k hk => ?_⟩
  · have hk : some k45 = some k := hk
    injection hk with hk
    exact Below.heap_setCell w4 ⟨g, 4, none⟩ _ k (fun e => hkg (by rw [hk]; exact e))
  · have hk : some k45 = some k := hk
    injection hk with hk
    subst hk
    rcases h45.2 with ⟨k', cap', e1, e2, _⟩ | ⟨r, hr, hN, _⟩
    · injection e2 with e2
      injection e2 with e2
      injection e2 with e2
      rw [e1, e2]
      exact .inl rfl
    · have hr : some k45 = some r := hr
      injection hr with hr
      have := H1.out.2.size
      have := H5.out.1.size
      exact .inr (by omega)
end Go.Proofs.Ytfppddnfdinipaa
end
section
namespace Go.Proofs.Ytfppddnfdinipaa
open Go Go.RowKit
/-- a device, plain: deeds, a fuse, is it down, what is kept, what is pending -/
structure Dv where
  de : Int
  fu : Int
  dn : Bool
  kept : List (List UInt8)
  pend : List (Int × List UInt8)
def pad (l : List UInt8) : List UInt8 := l ++ List.replicate (64 - l.length) 0
theorem pad_len (l : List UInt8) (h : l.length ≤ 64) : (pad l).length = 64 := by simp [pad]; omega
theorem sh_pad (x : Int) (l : List UInt8) (h : l.length ≤ 64) : sh x (pad l) = sh x l := by
  simp only [sh, pad_len l h, Nat.sub_self, List.replicate_zero, List.append_nil]
  rfl
def keptCells (l : List (List UInt8)) : List Value := (l.map bv).flatten
def pendCells (l : List (Int × List UInt8)) : List Value := (l.map fun p => sh p.1 p.2).flatten
theorem pend_add (l : List (Int × List UInt8)) (x : Int) (b : List UInt8) (h : b.length ≤ 64) : pendCells (l ++ [(x, pad b)]) = pendCells l ++ sh x b := by
  simp [pendCells, sh_pad x b h]
theorem owned_ne2 {w : World} {base base' n n' s s' g g' : Nat} {e e' : TypeId} {v v' : Value} {xs xs' : List Value} (h : w.ownsRow base e s v n xs) (h' : w.ownsRow base' e' s' v' n' xs') (hne : e ≠ e') (hg : v.ownBlock = some g) : v'.ownBlock = some g' → g ≠ g' := by
  intro hg' he
  subst he
  rcases owned_formN h' with ⟨rfl, _⟩ | ⟨g', cap, cur, rfl, _, _, _, hh, _⟩
  · cases hg'
  · have hg' : some g' = some g := hg'
    injection hg' with hg'
    subst hg'
    exact owned_neN h hh hne hg
structure Dv.Ok (D : Dv) : Prop where
  n1 : 1 ≤ D.kept.length
  n2 : D.kept.length ≤ 8192
  k64 : ∀ b ∈ D.kept, b.length = 64
  p64 : ∀ p ∈ D.pend, p.2.length = 64 ∧ 0 ≤ p.1 ∧ p.1 < (D.kept.length : Int)
  de : 0 ≤ D.de
  fu : 0 ≤ D.fu ∧ D.fu ≤ 9223372036854775807
def Foot (g rk : Nat) (vp : Value) (k : Nat) : Prop := k = g ∨ k = rk ∨ vp.ownBlock = some k
/-- a device in memory, and what it is made of -/
def DevAt (w : World) (F : Nat → Prop) (g : Nat) (D : Dv) : Prop := ∃ rk c vp, F = Foot g rk vp ∧ Blk w g 150 (dv D.de D.fu D.dn (.slice (some ⟨rk, 0, none⟩) D.kept.length c) vp) ∧
  w.ownsRow 0 213 64 (.slice (some ⟨rk, 0, none⟩) D.kept.length c) D.kept.length (keptCells D.kept) ∧ w.ownsRow 0 215 65 vp D.pend.length (pendCells D.pend) ∧ D.Ok
theorem DevAt.keep {w w' : World} {F : Nat → Prop} {g : Nat} {D : Dv} (h : DevAt w F g D) (hk : ∀ k, k < w.heap.size → F k → w'.heap[k]? = w.heap[k]?) : DevAt w' F g D := by
  obtain ⟨rk, c, vp, rfl, h1, h2, h3, h4⟩ := h
  refine ⟨rk, c, vp, rfl, (hk g h1.lt (.inl rfl)).trans h1, owned_keepN h2 fun k hg hl => hk k hl (.inr (.inl (by injection hg with hg; exact hg.symm))), owned_keepN h3 fun k hg hl => hk k hl (.inr (.inr hg)), h4⟩
theorem DevAt.lt {w : World} {F : Nat → Prop} {g : Nat} {D : Dv} (h : DevAt w F g D) : ∀ k, F k → k < w.heap.size := by
  obtain ⟨rk, c, vp, rfl, h1, h2, h3, h4⟩ := h
  rintro k (rfl | rfl | hk)
  · exact h1.lt
  · exact (owned_ltN h2 rfl).2
  · exact (owned_ltN h3 hk).2
/-- what a deed leaves: the device, all else as it was -/
def Left (w : World) (F : Nat → Prop) (g : Nat) (D : Dv) (w' : World) : Prop := ∃ F', DevAt w' F' g D ∧ Turned F w w' ∧ ∀ k, F' k → F k ∨ w.heap.size ≤ k
theorem Left.same {w : World} {F : Nat → Prop} {g : Nat} {D : Dv} (h : DevAt w F g D) : Left w F g D w := ⟨F, h, Turned.refl _ _, fun _ h => .inl h⟩
theorem Left.trans {w w' w'' : World} {F F' : Nat → Prop} {g : Nat} {D : Dv} (ht : Turned F w w') (hF : ∀ k, F' k → F k ∨ w.heap.size ≤ k) (h : Left w' F' g D w'') : Left w F g D w'' := by
  obtain ⟨F'', h1, h2, h3⟩ := h
  refine ⟨F'', h1, ht.then_ h2 (fun k hk hf => (hF k hf).resolve_right (by omega)), fun k hk => ?_⟩
  have := ht.size
  rcases h3 k hk with h | h
  · exact hF k h
  · exact .inr (by omega)
/-- a write, plain -/
def Dv.write (D : Dv) (x : Int) (l : List UInt8) : Int × Dv :=
  if D.dn then (10, D) else if (decide (0 ≤ x ∧ x < (D.kept.length : Int)) && decide (l.length ≤ 64)) = false then (2, D) else
  let t := tick D.de D.fu D.dn
  (t.1, { D with de := t.2.1, fu := t.2.2.1, dn := t.2.2.2, pend := if t.1 = 0 then D.pend ++ [(x, pad l)] else D.pend })
theorem tick_cases (de fu : Int) : (fu = 1 ∧ tick de fu false = (10, de, 0, true)) ∨ (∃ fu', tick de fu false = (0, de + 1, fu', false) ∧ (0 ≤ fu → 0 ≤ fu') ∧ fu' ≤ fu) := by
  unfold tick
  by_cases h1 : fu = 1
  · exact .inl ⟨h1, by simp [h1]⟩
  · by_cases h0 : fu = 0
    · exact .inr ⟨0, by simp [h0], fun _ => by omega, by omega⟩
    · exact .inr ⟨fu - 1, by simp [h0, h1], fun h => by omega, by omega⟩
/-- only the device's own block has turned -/
theorem left_own {w w' : World} {g rk c : Nat} {vp : Value} {D D' : Dv} {cs : Array Value} (h0 : Blk w g 150 cs) (hk : w.ownsRow 0 213 64 (.slice (some ⟨rk, 0, none⟩) D.kept.length c) D.kept.length (keptCells D.kept)) (hp : w.ownsRow 0 215 65 vp D.pend.length (pendCells D.pend))
    (hb : Blk w' g 150 (dv D'.de D'.fu D'.dn (.slice (some ⟨rk, 0, none⟩) D.kept.length c) vp)) (hg : w.grownBy w' (some g)) (ek : D'.kept = D.kept) (ep : D'.pend = D.pend) (hok : D'.Ok) : Left w (Foot g rk vp) g D' w' := by
  have hne : ∀ {n s : Nat} {e : TypeId} {v : Value} {xs : List Value}, w.ownsRow 0 e s v n xs → e ≠ 150 → w'.ownsRow 0 e s v n xs := fun h he => owned_keepN h fun k hv hl => hg.block k hl (fun e' => owned_neN h h0 he (by rw [hv, e']))
  refine ⟨_, ⟨rk, c, vp, rfl, by rw [ek]; exact hb, by rw [ek]; exact hne hk (by decide), by rw [ep]; exact hne hp (by decide), hok⟩, Turned.of_grown hg (fun k h _ => .inl (by injection h with h; exact h.symm)), fun _ h => .inl h⟩
section
variable {D : Dv}
theorem Dv.Ok.ticked (h : D.Ok) {t : Int × Int × Int × Bool} (ht : tick D.de D.fu false = t) (p : List (Int × List UInt8)) (hp : ∀ q ∈ p, q.2.length = 64 ∧ 0 ≤ q.1 ∧ q.1 < (D.kept.length : Int)) (dn : Bool) : Dv.Ok { D with de := t.2.1, fu := t.2.2.1, dn := dn, pend := p } := by
  refine ⟨h.n1, h.n2, h.k64, hp, ?_, ?_⟩
  · rcases tick_cases D.de D.fu with ⟨_, h2⟩ | ⟨f, h2, _⟩ <;> rw [← ht, h2]
    · exact h.de
    · have := h.de
      show 0 ≤ D.de + 1
      omega
  · rcases tick_cases D.de D.fu with ⟨_, h2⟩ | ⟨f, h2, h3, h4⟩ <;> rw [← ht, h2]
    · show (0 : Int) ≤ 0 ∧ (0 : Int) ≤ _
      omega
    · have := h.fu
      exact ⟨h3 this.1, by show f ≤ _; omega⟩
end
set_option maxRecDepth 100000 in
set_option maxHeartbeats 1000000 in
theorem write_any {D : Dv} {F : Nat → Prop} {g : Nat} (x : Int) (l : List UInt8) (A : Option Addr) (cap : Nat) (w : World) (h : DevAt w F g D) (hde : D.de ≤ 1000000000) (hm : D.pend.length ≤ 100000) (hx : -9223372036854775808 ≤ x ∧ x ≤ 9223372036854775807) (hl : l.length ≤ 1000000000)
    (hs : Src w A l.length cap (bv l)) (hsb : ∀ ad, A = some ad → 0 < l.length → ¬ F ad.block) :
    Calls Try.prog 67 #[.pointer (some ⟨g, 0, none⟩), .int .i64 x, .slice A l.length cap] w fun e w' => e = .returned (.int .i64 (D.write x l).1) ∧ Left w F g (D.write x l).2 w' := by
  have h0 := h
  obtain ⟨rk, c, vp, rfl, hb, hk, hp, hok⟩ := h
  have HO := hide hok
  have H := hide (And.intro hb (And.intro hk (And.intro hp h0)))
  clear hb hk hp h0
  cases hdn : D.dn with
  | true =>
    rw [show D.write x l = (10, D) by simp [Dv.write, hdn]]
    clear hs hsb
    go_enter Try.func67, Try.ntmps67
    go_wp2_with fail
    refine (able_any _ H.out.1).mono ?_
    rintro e w' ⟨rfl, rfl⟩
    rw [hdn, if_pos rfl]
    dsimp only
    go_wp2_with fail
    go_ret
    exact ⟨rfl, .same H.out.2.2.2⟩
  | false =>
    have Hb := H.out.1
    rw [hdn] at Hb
    by_cases hin : 0 ≤ x ∧ x < (D.kept.length : Int)
    · by_cases h64 : l.length ≤ 64
      · have hwr : D.write x l = ((tick D.de D.fu false).1, { D with de := (tick D.de D.fu false).2.1, fu := (tick D.de D.fu false).2.2.1, dn := (tick D.de D.fu false).2.2.2, pend := if (tick D.de D.fu false).1 = 0 then D.pend ++ [(x, pad l)] else D.pend }) := by
          simp [Dv.write, hdn, hin, h64]
        rcases tick_cases D.de D.fu with ⟨hf, ht⟩ | ⟨fu', ht, hf⟩
        · rw [hwr, ht]
          have ok' := hok.ticked ht D.pend hok.p64 true
          have hd : decide (0 ≤ x ∧ x < (D.kept.length : Int)) = true := decide_eq_true hin
          have h65 : ¬ (64 : Int) < (l.length : Int) := by omega
          have HT := hide (And.intro ht (And.intro hok.de hok.fu))
          have HX := hide ok'
          clear hs hsb ok' hok hwr ht
          go_enter Try.func67, Try.ntmps67
          go_wp2_with fail
          refine (able_any _ Hb).mono ?_
          rintro e w' ⟨rfl, rfl⟩
          rw [if_neg (by simp)]
          dsimp only
          go_wp2_with fail
          refine (has_any _ HO.out.n2 x hx Hb).mono ?_
          rintro e w' ⟨rfl, rfl⟩
          rw [hd]
          dsimp only
          go_wp2_with fail
          refine (next_any _ _ ⟨HT.out.2.1, hde⟩ HT.out.2.2 Hb).mono ?_
          rintro e w1 ⟨rfl, hb1, hg1⟩
          rw [HT.out.1] at hb1 ⊢
          dsimp only
          have H1 := hide (And.intro hb1 hg1)
          clear hb1 hg1
          go_wp2_with fail
          go_ret
          exact ⟨rfl, left_own Hb H.out.2.1 H.out.2.2.1 H1.out.1 H1.out.2 rfl (by simp) HX.out⟩
        · rw [hwr, ht]
          refine (write_ok 0 (pendCells D.pend) vp x l A cap w (Nat.zero_le _) hok.n2 hm ⟨hok.de, hde⟩ hok.fu ht hin h64 Hb H.out.2.2.1 hs (fun ad ha h0 e => hsb ad ha h0 (.inl e))).mono ?_
          rintro e w' ⟨rfl, v', b', o', ht', hv'⟩
          have hpk : vp.ownBlock ≠ some rk := fun e => owned_ne2 H.out.2.2.1 H.out.2.1 (by decide) e rfl rfl
          have hgk : rk ≠ g := fun e => owned_neN H.out.2.1 Hb (by decide) (by rw [← e]; rfl)
          have ok' := hok.ticked ht (D.pend ++ [(x, pad l)]) (fun q hq => by
            rcases List.mem_append.1 hq with hq | hq
            · exact hok.p64 q hq
            · rw [List.mem_singleton.1 hq]
              exact ⟨pad_len l h64, hin⟩) false
          refine ⟨rfl, Foot g rk v', ⟨rk, c, v', rfl, b', owned_keepN H.out.2.1 fun k hv hlt => ht'.block k hlt ?_, ?_, ok'⟩, ht'.mono fun k _ h => ?_, ?_⟩
          · have hv : some rk = some k := hv
            injection hv with hv
            subst hv
            rintro (e | e)
            · exact hgk e
            · exact hpk e
          · show w'.ownsRow 0 215 65 v' (D.pend ++ [(x, pad l)]).length (pendCells (D.pend ++ [(x, pad l)]))
            rw [pend_add _ _ _ h64, List.length_append]
            exact o'
          · rcases h with h | h
            · exact .inl h
            · exact .inr (.inr h)
          · rintro k (h | h | h)
            · exact .inl (.inl h)
            · exact .inl (.inr (.inl h))
            · rcases hv' k h with h | h
              · exact .inl (.inr (.inr h))
              · exact .inr h
      · rw [show D.write x l = (2, D) by simp [Dv.write, hdn, h64]]
        have hd : decide (0 ≤ x ∧ x < (D.kept.length : Int)) = true := decide_eq_true hin
        have h65 : (64 : Int) < (l.length : Int) := by omega
        clear hs hsb
        go_enter Try.func67, Try.ntmps67
        go_wp2_with fail
        refine (able_any _ Hb).mono ?_
        rintro e w' ⟨rfl, rfl⟩
        rw [if_neg (by simp)]
        dsimp only
        go_wp2_with fail
        refine (has_any _ hok.n2 x hx Hb).mono ?_
        rintro e w' ⟨rfl, rfl⟩
        rw [hd]
        dsimp only
        go_wp2_with fail
        go_ret
        exact ⟨rfl, .same H.out.2.2.2⟩
    · rw [show D.write x l = (2, D) by simp [Dv.write, hdn, hin]]
      have hd : decide (0 ≤ x ∧ x < (D.kept.length : Int)) = false := decide_eq_false hin
      clear hs hsb
      go_enter Try.func67, Try.ntmps67
      go_wp2_with fail
      refine (able_any _ Hb).mono ?_
      rintro e w' ⟨rfl, rfl⟩
      rw [if_neg (by simp)]
      dsimp only
      go_wp2_with fail
      refine (has_any _ hok.n2 x hx Hb).mono ?_
      rintro e w' ⟨rfl, rfl⟩
      rw [hd]
      dsimp only
      go_wp2_with fail
      go_ret
      exact ⟨rfl, .same H.out.2.2.2⟩
end Go.Proofs.Ytfppddnfdinipaa
end
section
namespace Go.Proofs.Ytfppddnfdinipaa
open Go Go.RowKit
theorem flat_len {α : Type} {s : Nat} : ∀ (l : List (List α)), (∀ b ∈ l, b.length = s) → l.flatten.length = l.length * s
  | [], _ => by simp
  | b :: l, h => by
    have h1 := h b (by simp)
    have h2 := flat_len l (fun c hc => h c (by simp [hc]))
    simp [h1, h2, Nat.add_mul, Nat.add_comm]
theorem flat_at {α : Type} {s : Nat} : ∀ (l : List (List α)) (k : Nat) (b : List α), (∀ b ∈ l, b.length = s) → l[k]? = some b → (l.flatten.drop (k * s)).take s = b
  | [], _, _, _, h => by simp at h
  | b :: l, 0, c, hs, h => by
    have h1 := hs b (by simp)
    simp at h
    subst h
    simp [← h1]
  | b :: l, k + 1, c, hs, h => by
    have h1 := hs b (by simp)
    rw [List.flatten_cons, List.drop_append, show (k + 1) * s - b.length = k * s by rw [h1, Nat.add_mul]; omega, List.drop_eq_nil_of_le (by rw [h1, Nat.add_mul]; omega), List.nil_append]
    exact flat_at l k c (fun d hd => hs d (by simp [hd])) (by simpa using h)
theorem flat_set {α : Type} {s : Nat} (c : List α) (hc : c.length = s) : ∀ (l : List (List α)) (k : Nat), (∀ b ∈ l, b.length = s) → k < l.length → (l.set k c).flatten = l.flatten.take (k * s) ++ (c ++ l.flatten.drop (k * s + c.length))
  | [], _, _, h => by simp at h
  | b :: l, 0, hs, h => by
    have h1 := hs b (by simp)
    simp [hc, ← h1]
  | b :: l, k + 1, hs, h => by
    have h1 := hs b (by simp)
    have e : (k + 1) * s = b.length + k * s := by rw [h1, Nat.add_mul]; omega
    have t1 : ∀ m : Nat, (b ++ l.flatten).take (b.length + m) = b ++ l.flatten.take m := fun m => by rw [List.take_append, List.take_of_length_le (by omega), Nat.add_sub_cancel_left]
    have t2 : ∀ m : Nat, (b ++ l.flatten).drop (b.length + m) = l.flatten.drop m := fun m => by rw [List.drop_append, List.drop_eq_nil_of_le (by omega), Nat.add_sub_cancel_left, List.nil_append]
    rw [List.set_cons_succ, List.flatten_cons, List.flatten_cons, flat_set c hc l k (fun d hd => hs d (by simp [hd])) (by simpa using h), e, Nat.add_assoc, t1, t2, List.append_assoc]
theorem Blk.setCells {g : Nat} {t : TypeId} : ∀ (vs : List Value) (o : Nat) (w : World) (cs : Array Value), Blk w g t cs → o + vs.length ≤ cs.size → Blk (w.setCells g o vs) g t (cs.toList.take o ++ (vs ++ cs.toList.drop (o + vs.length))).toArray
  | [], o, w, cs, h, _ => by simpa [World.setCells] using h
  | v :: vs, o, w, cs, h, hl => by
    simp only [List.length_cons] at hl
    have h2 := Blk.setCells vs (o + 1) _ _ (h.set_ o v) (by simp; omega)
    rw [World.setCells]
    have e : (cs.setIfInBounds o v).toList.take (o + 1) ++ (vs ++ (cs.setIfInBounds o v).toList.drop (o + 1 + vs.length)) = cs.toList.take o ++ (v :: vs ++ cs.toList.drop (o + (v :: vs).length)) := by
      have ho : o < cs.toList.length := by simp; omega
      rw [Array.toList_setIfInBounds, List.drop_set_of_lt (by omega), List.take_set, List.take_succ_eq_append_getElem ho, List.set_append_right _ _ (by simp; omega)]
      have e2 : o - (List.take o cs.toList).length = 0 := by simp; omega
      rw [e2]
      simp [Nat.add_comm, Nat.add_left_comm]
    rwa [e] at h2
theorem grown_setCells {g : Nat} {a : World} : ∀ (vs : List Value) (o : Nat) (w : World), a.grownBy w (some g) → a.grownBy (w.setCells g o vs) (some g)
  | [], _, _, h => h
  | v :: vs, o, w, h => by
    rw [World.setCells]
    exact grown_setCells vs (o + 1) _ (only_setCell h (.inl rfl) v)
section
variable {w : World} {base g n cap s : Nat} {e : TypeId} {xs : List Value}
theorem own_setCells (h : w.ownsRow base e s (.slice (some ⟨g, 0, none⟩) n cap) n xs) (o : Nat) (vs : List Value) (hf : o + vs.length ≤ n * s) : (w.setCells g o vs).ownsRow base e s (.slice (some ⟨g, 0, none⟩) n cap) n (xs.take o ++ (vs ++ xs.drop (o + vs.length))) := by
  have hl := h.1
  rcases owned_formN h with ⟨h, _⟩ | ⟨g', cap', cur, h', hb, hn, hc, hh, hs, ht, _⟩
  · cases h
  · injection h' with e1 e2 e3
    injection e1 with e1
    injection e1 with e1
    subst e1 e3
    have hns : n * s ≤ cap * s := Nat.mul_le_mul_right _ hn
    refine ⟨by simp; omega, .inr ⟨g, cap, _, rfl, hb, Blk.setCells vs o w cur hh (by omega), hn, hc, by simp; omega, ?_⟩⟩
    have e : cur.toList = xs ++ cur.toList.drop (n * s) := by rw [← ht, List.take_append_drop]
    show (cur.toList.take o ++ (vs ++ cur.toList.drop (o + vs.length))).take (n * s) = _
    have e1 : cur.toList.take o = xs.take o := by rw [← ht, List.take_take]; congr 1; omega
    have e2 : cur.toList.drop (o + vs.length) = xs.drop (o + vs.length) ++ cur.toList.drop (n * s) := by
      rw [e, List.drop_append, show o + vs.length - xs.length = 0 by omega, List.drop_zero, ← e]
    rw [e1, e2, ← List.append_assoc, ← List.append_assoc]
    rw [List.take_append_of_le_length (by simp; omega), List.take_of_length_le (by simp; omega), List.append_assoc]
theorem own_range (h : w.ownsRow base e s (.slice (some ⟨g, 0, none⟩) n cap) n xs) (o m : Nat) (cs : List Value) (hcs : (xs.drop o).take m = cs) : w.rangeAt g o cs := by
  rcases owned_formN h with ⟨h, _⟩ | ⟨g', cap', cur, h', hb, hn, hc, hh, hs, ht, _⟩
  · cases h
  · injection h' with e1 e2 e3
    injection e1 with e1
    injection e1 with e1
    subst e1 e3
    intro j v hv
    rw [hh.cell, ← Array.getElem?_toList]
    rw [← hcs, List.getElem?_take, List.getElem?_drop, ← ht, List.getElem?_take] at hv
    split at hv
    · split at hv
      · exact hv
      · cases hv
    · cases hv
theorem own_there (h : w.ownsRow base e s (.slice (some ⟨g, 0, none⟩) n cap) n xs) (o m : Nat) (hf : o + m ≤ n * s) : w.there g o m := by
  rcases owned_formN h with ⟨h, _⟩ | ⟨g', cap', cur, h', hb, hn, hc, hh, hs, ht, _⟩
  · cases h
  · injection h' with e1 e2 e3
    injection e1 with e1
    injection e1 with e1
    subst e1 e3
    intro j hj
    have hns : n * s ≤ cap * s := Nat.mul_le_mul_right _ hn
    have hlt : o + j < cur.size := by omega
    exact ⟨by rw [hh.cell, Array.getElem?_eq_getElem hlt]; rfl, hh.frozen _⟩
end
section
variable {P : Program} {ρ : Operand → Value} {o : Oper}
theorem exec_index (ty e : TypeId) (x i : Operand) (ho : o.op = .indexAddr ty x i) (g n cap : Nat) (k : Int) (kk : IntKind) (hx : ρ x = .slice (some ⟨g, 0, none⟩) n cap) (hi : ρ i = .int kk k) (hk : 0 ≤ k ∧ k < (n : Int)) (s : Nat) (hu : P.underlying ty = some (.slice e)) (hs : (P.info? e).map (·.size) = some s) (w : World) :
    (execOp ρ o).run P w = .ok (.value (.pointer (some ⟨g, k.toNat * s, none⟩))) w := by
  have e2 : P.elem ty = e := by simp [Program.elem, hu]
  unfold execOp
  simp only [ho, hx, hi, Sem.run_bind, Sem.run_pure, run_indexAt_slice w ty _ _ _ kk k (by rw [e2]; exact hu), e2, if_pos hk]
  cases hq : P.info? e with
  | none => simp [hq] at hs
  | some i =>
    have h1 : i.size = s := by simpa [hq] using hs
    have e0 : (⟨g, 0, none⟩ : Addr).add (k.toNat * s) = ⟨g, k.toNat * s, none⟩ := by rw [Addr.add_mid, Nat.zero_add]
    simp [sizeOf, typeInfo, hq, h1, e0]
theorem exec_load_mid (ty : TypeId) (x : Operand) (ho : o.op = .load ty x) (b off : Nat) (hx : ρ x = .pointer (some ⟨b, off, none⟩)) (cs : List Value) (d : TypeDesc) (w : World) (hc : w.rangeAt b off cs)
    (hu : P.underlying ty = some d) (hd : d.isRow = true) (hi : (P.info? ty).map (·.size) = some cs.length) : (execOp ρ o).run P w = .ok (.value (.agg cs.toArray)) w := by
  unfold execOp
  simp only [ho, hx, Instr.loadAt, Instr.sureAddr, Sem.run_bind, Sem.run_pure, Result.andThen_ok, run_loadVar_mid w b off ty cs d hc hu hd hi]
/-- one cell is loaded -/
theorem exec_load_cell (ty : TypeId) (x : Operand) (ho : o.op = .load ty x) (p : Addr) (hx : ρ x = .pointer (some p)) (u : Value) (d : TypeDesc) (w : World) (hu : P.underlying ty = some d) (hd : d.isRow = false) (hc : w.cell? p = some u) : (execOp ρ o).run P w = .ok (.value u) w := by
  have hagg : (isAgg ty).run P w = .ok false w := by
    unfold isAgg
    rw [Sem.run_bind, run_underlying hu w]
    cases d <;> simp_all
  unfold execOp
  simp [ho, hx, Instr.loadAt, Instr.sureAddr, loadVar, hagg, hc]
end
end Go.Proofs.Ytfppddnfdinipaa
end
section
namespace Go.Proofs.Ytfppddnfdinipaa
open Go Go.RowKit
theorem kept_len (K : List (List UInt8)) (h : ∀ b ∈ K, b.length = 64) : (keptCells K).length = K.length * 64 := by
  unfold keptCells
  rw [flat_len (s := 64) _ (by
    intro b hb
    obtain ⟨l, hl, rfl⟩ := List.mem_map.1 hb
    rw [bvL]
    exact h l hl), List.length_map]
theorem kept_set (K : List (List UInt8)) (k : Nat) (c : List UInt8) (h : ∀ b ∈ K, b.length = 64) (hc : c.length = 64) (hk : k < K.length) : keptCells (K.set k c) = (keptCells K).take (k * 64) ++ (bv c ++ (keptCells K).drop (k * 64 + (bv c).length)) := by
  unfold keptCells
  rw [List.map_set, flat_set (s := 64) (bv c) (by rw [bvL]; exact hc) _ k (by
    intro b hb
    obtain ⟨l, hl, rfl⟩ := List.mem_map.1 hb
    rw [bvL]
    exact h l hl) (by simpa using hk)]
theorem kept_at (K : List (List UInt8)) (k : Nat) (c : List UInt8) (h : ∀ b ∈ K, b.length = 64) (hk : K[k]? = some c) : ((keptCells K).drop (k * 64)).take 64 = bv c :=
  flat_at (s := 64) _ k (bv c) (by
    intro b hb
    obtain ⟨l, hl, rfl⟩ := List.mem_map.1 hb
    rw [bvL]
    exact h l hl) (by simp [hk])
theorem pend_at (L : List (Int × List UInt8)) (k : Nat) (p : Int × List UInt8) (h : ∀ q ∈ L, q.2.length = 64) (hk : L[k]? = some p) : ((pendCells L).drop (k * 65)).take 65 = sh p.1 p.2 :=
  flat_at (s := 65) _ k (sh p.1 p.2) (by
    intro b hb
    obtain ⟨l, hl, rfl⟩ := List.mem_map.1 hb
    exact sh_len _ _ (by rw [h l hl]; exact Nat.le_refl _)) (by simp [hk])
/-- what settles -/
def settleL (f : Nat → Bool) : Nat → List (Int × List UInt8) → List (List UInt8) → List (List UInt8)
  | _, [], K => K
  | k, p :: r, K => settleL f (k + 1) r (if f k then K.set p.1.toNat p.2 else K)
theorem settle_add (f : Nat → Bool) (p : Int × List UInt8) : ∀ (l : List (Int × List UInt8)) (k : Nat) (K : List (List UInt8)), settleL f k (l ++ [p]) K = if f (k + l.length) then (settleL f k l K).set p.1.toNat p.2 else settleL f k l K
  | [], k, K => by simp [settleL]
  | q :: l, k, K => by
    rw [List.cons_append, settleL, settle_add f p l, settleL, List.length_cons, Nat.add_assoc, Nat.add_comm 1]
theorem settle_take (f : Nat → Bool) (l : List (Int × List UInt8)) (K : List (List UInt8)) (j : Nat) (p : Int × List UInt8) (h : l[j]? = some p) : settleL f 0 (l.take (j + 1)) K = if f j then (settleL f 0 (l.take j) K).set p.1.toNat p.2 else settleL f 0 (l.take j) K := by
  have hj : j < l.length := (List.getElem?_eq_some_iff.1 h).1
  have e : l.take (j + 1) = l.take j ++ [p] := by
    rw [List.take_add_one, h]; rfl
  rw [e, settle_add, Nat.zero_add, List.length_take, Nat.min_eq_left (Nat.le_of_lt hj)]
theorem settle_len (f : Nat → Bool) : ∀ (l : List (Int × List UInt8)) (k : Nat) (K : List (List UInt8)), (settleL f k l K).length = K.length
  | [], _, _ => rfl
  | p :: l, k, K => by
    rw [settleL, settle_len f l]
    split
    · simp
    · rfl
theorem settle_all {m : Nat} (f : Nat → Bool) : ∀ (l : List (Int × List UInt8)) (k : Nat) (K : List (List UInt8)), (∀ p ∈ l, p.2.length = m) → (∀ b ∈ K, b.length = m) → ∀ b ∈ settleL f k l K, b.length = m
  | [], _, _, _, h => h
  | p :: l, k, K, hl, h => by
    rw [settleL]
    refine settle_all f l _ _ (fun q hq => hl q (by simp [hq])) ?_
    split
    · intro b hb
      rcases List.mem_or_eq_of_mem_set hb with hb | rfl
      · exact h b hb
      · exact hl p (by simp)
    · exact h
end Go.Proofs.Ytfppddnfdinipaa
end
section
namespace Go.Proofs.Ytfppddnfdinipaa
open Go Go.RowKit
theorem info_sect : (Try.prog.info? 213).map (fun i => (i.zero, i.size, i.bytes)) = some (some (.agg (bv (List.replicate 64 0)).toArray), 64, 64) := by kernel_rfl
theorem sz_shot : (Try.prog.info? 215).map (·.size) = some 65 := by kernel_rfl
theorem sz_sect : (Try.prog.info? 213).map (·.size) = some 64 := by kernel_rfl
theorem sh_cut (x : Int) (b : List UInt8) (h : b.length = 64) : ((sh x b).toArray.extract 1 (1 + 64)).toList = bv b := by
  simp only [sh, h, Nat.sub_self, List.replicate_zero, List.append_nil]
  simp only [List.extract_toArray, List.extract_eq_take_drop, List.drop_succ_cons, List.drop_zero, Nat.add_sub_cancel_left]
  exact List.take_of_length_le (by rw [bvL, h]; exact Nat.le_refl _)
set_option maxRecDepth 100000 in
set_option maxHeartbeats 1000000 in
theorem settle_any {g rk n c m : Nat} {vp : Value} {de fu : Int} {dn : Bool} (fn : Nat) (cap : Array Value) (f : Nat → Bool) (K : List (List UInt8)) (L : List (Int × List UInt8)) (w : World) (hm : L.length ≤ 1000000) (hn : n ≤ 8192) (hKn : K.length = n) (hLm : L.length = m)
    (hb : Blk w g 150 (dv de fu dn (.slice (some ⟨rk, 0, none⟩) n c) vp)) (hk : w.ownsRow 0 213 64 (.slice (some ⟨rk, 0, none⟩) n c) n (keptCells K)) (hp : w.ownsRow 0 215 65 vp m (pendCells L))
    (hK : ∀ b ∈ K, b.length = 64) (hL : ∀ p ∈ L, p.2.length = 64 ∧ 0 ≤ p.1 ∧ p.1 < (n : Int))
    (heg : ∀ args w, (callFunc fn args).run Try.prog w = .ok (.enter fn args) w)
    (hcall : ∀ (W : World) (k : Nat), k < m → Turned (fun b => b = rk) w W → Calls Try.prog fn (#[.int .i64 (k : Int)] ++ cap) W fun e W' => e = .returned (.bool (f k)) ∧ Below W.heap.size W W') :
    Calls Try.prog 70 #[.pointer (some ⟨g, 0, none⟩), .func (.func fn) #[] cap] w fun e w' => e = .returned (.tuple #[]) ∧ Blk w' g 150 (dv de fu dn (.slice (some ⟨rk, 0, none⟩) n c) (.slice none 0 0)) ∧ w'.ownsRow 0 213 64 (.slice (some ⟨rk, 0, none⟩) n c) n (keptCells (settleL f 0 L K)) ∧ Turned (fun b => b = g ∨ b = rk) w w' := by
  have c4 := (hb.cell 4).trans (dv4 ..)
  have hlt := hb.lt
  obtain ⟨A, cp, rfl⟩ : ∃ A cp, vp = .slice A m cp := by
    rcases owned_formN hp with ⟨h, h0, _⟩ | ⟨r, cap, _, h, _⟩
    · exact ⟨none, 0, by rw [h, h0]⟩
    · exact ⟨_, cap, h⟩
  have H := hide (And.intro hb (And.intro hk hp))
  have HC := hide hcall
  have HL := hide (And.intro hK hL)
  have HN := hide (And.intro hKn hLm)
  clear hb hk hp hcall hK hL
  rw [hLm] at hm
  clear hKn hLm
  go_enter Try.func70, Try.ntmps70
  go_wp2_with fail
  go_loopw [11] (fun v wr => ∃ j : Nat, j ≤ m ∧ v = .int .i64 (j : Int) ∧ wr.ownsRow 0 213 64 (.slice (some ⟨rk, 0, none⟩) n c) n (keptCells (settleL f 0 (L.take j) K)) ∧ Turned (fun b => b = rk) w wr) (fun v _ => m - (intOf v).toNat)
  case atStart => exact ⟨0, by omega, rfl, by simpa [settleL] using H.out.2.1, Turned.refl _ _⟩
  case round =>
    obtain ⟨j, hj, rfl, ho, ht⟩ := hrel
    have HR := hide (And.intro ho ht)
    clear ho ht
    by_cases hjm : j < m
    · have n1 : (0 : Int) ≤ (j : Int) := by omega
      have n2 : (j : Int) < (m : Int) := by omega
      obtain ⟨rp, cap', hvp⟩ := owned_placeN H.out.2.2 (by omega)
      injection hvp with e1 _ e2
      subst e1 e2
      obtain ⟨⟨x, b⟩, hpj⟩ : ∃ p, L[j]? = some p := ⟨L[j]'(by have := HN.out.2; omega), List.getElem?_eq_getElem _⟩
      have hpm : (x, b) ∈ L := List.mem_of_getElem? hpj
      have hb64 := (HL.out.2 _ hpm).1
      have hx1 := (HL.out.2 _ hpm).2.1
      have hx2 := (HL.out.2 _ hpm).2.2
      dsimp only at hb64 hx1 hx2
      have hrr : rp ≠ rk := fun e => owned_ne2 H.out.2.2 H.out.2.1 (by decide) rfl rfl e
      have hpr : wr.ownsRow 0 215 65 (.slice (some ⟨rp, 0, none⟩) m cp) m (pendCells L) := owned_keepN H.out.2.2 fun k hg hl => HR.out.2.block k hl (by
        have hg : some rp = some k := hg
        injection hg with hg
        subst hg
        exact hrr)
      have hrange : wr.rangeAt rp (j * 65) (sh x b) := own_range hpr (j * 65) 65 _ (pend_at L j (x, b) (fun q hq => (HL.out.2 q hq).1) hpj)
      have hl65 : (sh x b).length = 65 := sh_len x b (by omega)
      obtain ⟨S, hS⟩ : ∃ S, S = sh x b := ⟨_, rfl⟩
      rw [← hS] at hrange hl65
      have HS := hide hS
      have HR2 := hide hrange
      have HP := hide hpj
      clear hrange hpr hpj hpm hS
      have hsz : (Try.prog.info? 215).map (·.size) = some S.toArray.size := by rw [List.size_toArray, hl65]; exact sz_shot
      have hzs : Try.zeroCells215.size = S.toArray.size := by
        rw [show S.toArray.size = 65 from by rw [List.size_toArray, hl65]]
        kernel_rfl
      have hone : S.toArray.all (·.oneCell') = true := all_oneCell_toArray (by rw [HS.out]; exact sh_one x b)
      have HBN := hide (Blk.new wr 215 Try.zeroCells215)
      have HC2 : Hid (∀ w2, (wr.alloc (.cells Try.zeroCells215 215)).grownBy w2 (some wr.heap.size) → Calls Try.prog fn (#[.int .i64 (j : Int)] ++ cap) w2 fun e W' => e = .returned (.bool (f j)) ∧ Below w2.heap.size w2 W') := hide (fun w2 hg2 => HC.out w2 j hjm (((HR.out.2).alloc _).then_ (Turned.of_grown (S := (· = wr.heap.size)) hg2 (fun k h _ => by injection h with h; exact h.symm)) (fun k hk h => by
        have h : k = wr.heap.size := h
        have := HR.out.2.size
        omega)))
      go_wp2_with (first
        | ((with_reducible refine wpList_load_mid (op := ⟨some 15, _, _, _, _, _⟩) rfl 215 (.tmp 14) rfl rp (j * 65) ?_ S _ HR2.out Try.underlying215 rfl (by rw [hl65]; exact sz_shot) ?_); rfl; dsimp only [Act.put, List.setIfInBounds_toArray, List.set_cons_zero, List.set_cons_succ])
        | ((with_reducible refine wpList_store_blkA (o := ⟨none, _, _, _, _, _⟩) rfl 215 (.tmp 5) (.tmp 15) rfl wr.heap.size Try.zeroCells215 S.toArray 215 HBN.out hsz hzs hone ?_ ?_ ?_); rfl; rfl; intro w2 h2 hg2; have H2 := hide (And.intro h2 hg2); clear h2 hg2; dsimp only [Act.put]))
      refine (HC2.out w2 H2.out.2).mono ?_
      rintro e w3 ⟨rfl, hb3⟩
      have hs2 : wr.heap.size < w2.heap.size := by have := H2.out.2.size; rw [size_alloc] at this; omega
      have hT3 : Turned (fun b => b = rk) w w3 := (((HR.out.2).alloc (.cells Try.zeroCells215 215)).then_ (Turned.of_grown (S := (· = wr.heap.size)) H2.out.2 (fun k h _ => by injection h with h; exact h.symm)) (fun k hk h => by
        have h : k = wr.heap.size := h
        have := HR.out.2.size
        omega)).trans (Turned.of_below hb3 _)
      have hgk : g ≠ rk := fun e => owned_neN H.out.2.1 H.out.1 (by decide) (by rw [e]; rfl)
      have hdv : Blk w3 g 150 (dv de fu dn (.slice (some ⟨rk, 0, none⟩) n c) (.slice (some ⟨rp, 0, none⟩) m cp)) := (hT3.block g hlt hgk).trans H.out.1
      have hsh : Blk w3 wr.heap.size 215 S.toArray := H2.out.1.below hb3 hs2
      have hkp : w3.ownsRow 0 213 64 (.slice (some ⟨rk, 0, none⟩) n c) n (keptCells (settleL f 0 (L.take j) K)) := owned_keepN HR.out.1 fun k _ hl => by
        have h1 : w2.heap[k]? = (wr.alloc (.cells Try.zeroCells215 215)).heap[k]? := H2.out.2.block k (by rw [size_alloc]; omega) (fun e => by injection e with e; omega)
        exact ((hb3.block k (by omega)).trans h1).trans (Below.heap_alloc _ _ k hl)
      have hnx := settle_take f L K j (x, b) HP.out
      cases hfj : f j with
      | false =>
        rw [hfj, if_neg (by simp)] at hnx
        have H3 := hide (And.intro hT3 (And.intro hkp hnx))
        clear hT3 hkp hnx hdv hsh hb3
        dsimp only
        go_wp2_with fail
        go_roundw
        case rel => exact ⟨j + 1, by omega, by go_num, by rw [H3.out.2.2]; exact H3.out.2.1, H3.out.1⟩
        case measure => simp [intOf]; omega
      | true =>
        rw [hfj, if_pos rfl] at hnx
        have H3 := hide (And.intro hT3 (And.intro hkp (And.intro hnx (And.intro hdv hsh))))
        clear hT3 hkp hnx hdv hsh hb3
        dsimp only
        go_wp2_with fail
        refine wp_made 9 [] (by kernel_rfl) (by kernel_rfl) (by intro p hp; cases hp) List.nodup_nil (by intro t ht; cases ht) ?_
        simp only [List.take_succ_cons, List.take_zero, List.drop_succ_cons, List.drop_zero]
        refine made_val (.pointer (some ⟨g, 0, none⟩)) (by kernel_rfl) (by kernel_rfl) (by kernel_rfl) (fun _ _ => by kernel_rfl) ?_
        simp only [Act.put, List.setIfInBounds_toArray, List.set_cons_zero, List.set_cons_succ]
        refine made_val (.pointer (some ⟨g, 0, none⟩)) (by kernel_rfl) (by kernel_rfl) (by kernel_rfl) (fun _ _ => by kernel_rfl) ?_
        simp only [Act.put, List.setIfInBounds_toArray, List.set_cons_zero, List.set_cons_succ]
        refine made_val (.pointer (some ⟨g, 3, none⟩)) (by kernel_rfl) (by kernel_rfl) (by kernel_rfl) (fun _ _ => by kernel_rfl) ?_
        simp only [Act.put, List.setIfInBounds_toArray, List.set_cons_zero, List.set_cons_succ]
        refine made_val (.slice (some ⟨rk, 0, none⟩) n c) (by kernel_rfl) (by kernel_rfl) (by kernel_rfl) (fun W hW => exec_load_slice (o := ⟨some 22, _, _, _, _, _⟩) 145 213 (.tmp 21) rfl ⟨g, 3, none⟩ rfl _ W Try.underlying145 (((H3.out.2.2.2.1.below hW H3.out.2.2.2.1.lt).cell 3).trans (dv3 ..))) ?_
        simp only [Act.put, List.setIfInBounds_toArray, List.set_cons_zero, List.set_cons_succ]
        refine made_val (.pointer (some ⟨wr.heap.size, 0, none⟩)) (by kernel_rfl) (by kernel_rfl) (by kernel_rfl) (fun _ _ => by kernel_rfl) ?_
        simp only [Act.put, List.setIfInBounds_toArray, List.set_cons_zero, List.set_cons_succ]
        refine made_val (.int .i64 x) (by kernel_rfl) (by kernel_rfl) (by kernel_rfl) (fun W hW => exec_load_cell (o := ⟨some 24, _, _, _, _, _⟩) 3 (.tmp 23) rfl ⟨wr.heap.size, 0, none⟩ rfl _ _ W Try.underlying3 rfl (by rw [(H3.out.2.2.2.2.below hW H3.out.2.2.2.2.lt).cell, HS.out]; rfl)) ?_
        simp only [Act.put, List.setIfInBounds_toArray, List.set_cons_zero, List.set_cons_succ]
        refine made_val (.pointer (some ⟨wr.heap.size, 1, none⟩)) (by kernel_rfl) (by kernel_rfl) (by kernel_rfl) (fun _ _ => by kernel_rfl) ?_
        simp only [Act.put, List.setIfInBounds_toArray, List.set_cons_zero, List.set_cons_succ]
        refine made_val (.agg (bv b).toArray) (by kernel_rfl) (by kernel_rfl) (by kernel_rfl) (fun W hW => exec_load_mid (o := ⟨some 26, _, _, _, _, _⟩) 213 (.tmp 25) rfl wr.heap.size 1 rfl (bv b) _ W (by have h := World.rangeAt_of_block (H3.out.2.2.2.2.below hW H3.out.2.2.2.2.lt) 1 64; rw [HS.out, sh_cut x b hb64] at h; exact h) Try.underlying213 rfl (by rw [bvL, hb64]; exact sz_sect)) ?_
        simp only [Act.put, List.setIfInBounds_toArray, List.set_cons_zero, List.set_cons_succ]
        refine made_val (.pointer (some ⟨rk, x.toNat * 64, none⟩)) (by kernel_rfl) (by kernel_rfl) (by kernel_rfl) (fun W _ => exec_index (o := ⟨some 27, _, _, _, _, _⟩) 145 213 (.tmp 22) (.tmp 24) rfl rk n c x .i64 rfl rfl ⟨hx1, hx2⟩ 64 Try.underlying145 sz_sect W) ?_
        simp only [Act.put, List.setIfInBounds_toArray, List.set_cons_zero, List.set_cons_succ]
        show ∀ w', _ → _
        intro w4 hb4
        simp only [ended]
        have hk4 : w4.ownsRow 0 213 64 (.slice (some ⟨rk, 0, none⟩) n c) n (keptCells (settleL f 0 (L.take j) K)) := owned_keepN H3.out.2.1 fun k _ hl => hb4.block k hl
        have hKj : (settleL f 0 (L.take j) K).length = n := by rw [settle_len, HN.out.1]
        have hKa : ∀ b ∈ settleL f 0 (L.take j) K, b.length = 64 := settle_all f _ _ _ (fun p hp => (HL.out.2 p (List.mem_of_mem_take hp)).1) HL.out.1
        have hxn : x.toNat < n := by omega
        have hbl : (bv b).length = 64 := by rw [bvL, hb64]
        have hfit : x.toNat * 64 + (bv b).length ≤ n * 64 := by omega
        have hth : w4.there rk (x.toNat * 64) (bv b).toArray.size := by
          rw [List.size_toArray]
          exact own_there hk4 _ _ hfit
        have hst : (w4.setCells rk (x.toNat * 64) (bv b)).ownsRow 0 213 64 (.slice (some ⟨rk, 0, none⟩) n c) n (keptCells (settleL f 0 (L.take (j + 1)) K)) := by
          rw [H3.out.2.2.1, kept_set _ _ _ hKa hb64 (by rw [hKj]; exact hxn)]
          exact own_setCells hk4 _ _ hfit
        have hT5 : Turned (fun b => b = rk) w (w4.setCells rk (x.toNat * 64) (bv b)) := (H3.out.1.trans (Turned.of_below hb4 _)).trans (Turned.of_grown (grown_setCells _ _ _ (World.grownBy.refl _ _)) (fun k h _ => by injection h with h; exact h.symm))
        have H5 := hide (And.intro hth (And.intro hst hT5))
        clear hth hst hT5 hk4 hb4
        refine wpList_store_mid (op := ⟨none, _, _, _, _, _⟩) rfl 213 (.tmp 27) (.tmp 26) rfl rk (x.toNat * 64) (bv b).toArray rfl rfl H5.out.1 (by rw [List.size_toArray, hbl]; exact sz_sect) (bv_one b) ?_
        obtain ⟨w5, hw5⟩ : ∃ w5, w5 = w4.setCells rk (x.toNat * 64) (bv b).toArray.toList := ⟨_, rfl⟩
        have H6 : Hid (w5.ownsRow 0 213 64 (.slice (some ⟨rk, 0, none⟩) n c) n (keptCells (settleL f 0 (L.take (j + 1)) K)) ∧ Turned (fun b => b = rk) w w5) := hide (by rw [hw5]; exact H5.out.2)
        rw [← hw5]
        clear hw5 H5
        simp only [Act.put]
        go_wp2_with fail
        go_roundw
        case rel => exact ⟨j + 1, by omega, by go_num, H6.out⟩
        case measure => simp [intOf]; omega
    · obtain rfl : j = m := by omega
      have hgk : g ≠ rk := fun e => owned_neN H.out.2.1 H.out.1 (by decide) (by rw [e]; rfl)
      have hdv : Blk wr g 150 (dv de fu dn (.slice (some ⟨rk, 0, none⟩) n c) (.slice A j cp)) := (HR.out.2.block g hlt hgk).trans H.out.1
      have c4' := (hdv.cell 4).trans (dv4 ..)
      have f4 := hdv.frozen 4
      have hltr := hdv.lt
      have H3 := hide hdv
      clear hdv
      go_wp2_with fail
      go_end0
      have hb5 := H3.out.set_ 4 (.slice none 0 0)
      rw [dv_set4] at hb5
      have ho := HR.out.1
      rw [show L.take j = L by rw [← HN.out.2]; exact List.take_length] at ho
      refine ⟨rfl, hb5, owned_keepN ho fun k hk _ => Below.heap_setCell wr ⟨g, 4, none⟩ _ k (fun e => hgk ?_), (HR.out.2.mono fun k _ h => .inr h).setCell (fun _ => .inl rfl) _⟩
      have hk : some rk = some k := hk
      injection hk with hk
      rw [hk]
      exact e.symm
end Go.Proofs.Ytfppddnfdinipaa
end
section
namespace Go.Proofs.Ytfppddnfdinipaa
open Go Go.RowKit
theorem yes_any (k : Nat) (w : World) : Calls Try.prog 125 (#[.int .i64 (k : Int)] ++ #[]) w fun e w' => e = .returned (.bool true) ∧ Below w.heap.size w w' := by
  show Calls Try.prog 125 #[.int .i64 (k : Int)] w _
  go_enter Try.func125, Try.ntmps125
  go_wp2
  go_ret
  exact ⟨rfl, Below.refl _ _⟩
/-- is a bit of a number? -/
def wakeB (u : Int) (k : Nat) : Bool := bits .and .u64 u (IntKind.u64.wrap (2 ^ (k % 62))) != 0
set_option maxRecDepth 100000 in
theorem bit_any (u : Int) (k : Nat) (hk : k ≤ 1000000) (q : Nat) (w : World) (hu : w.cell? ⟨q, 0, none⟩ = some (.int .u64 u)) : Calls Try.prog 71 (#[.int .i64 (k : Int)] ++ #[.pointer (some ⟨q, 0, none⟩)]) w fun e w' => e = .returned (.bool (wakeB u k)) ∧ Below w.heap.size w w' := by
  show Calls Try.prog 71 #[.int .i64 (k : Int), .pointer (some ⟨q, 0, none⟩)] w _
  go_enter Try.func71, Try.ntmps71
  go_wp2_with fail
  go_quiet (fail)
  go_wp2_with fail
  go_ret
  exact ⟨rfl, below_drewN (Below.refl _ _) _⟩
/-- all that is pending is kept -/
def Dv.flush (D : Dv) : Int × Dv :=
  if D.dn then (10, D) else
  let t := tick D.de D.fu D.dn
  (t.1, { D with de := t.2.1, fu := t.2.2.1, dn := t.2.2.2, kept := if t.1 = 0 then settleL (fun _ => true) 0 D.pend D.kept else D.kept, pend := if t.1 = 0 then [] else D.pend })
def Dv.wake (D : Dv) (x : Int) : Int × Dv :=
  if D.dn then (0, { de := D.de, fu := 0, dn := false, kept := settleL (wakeB (IntKind.u64.wrap x)) 0 D.pend D.kept, pend := [] }) else (15, D)
theorem Dv.Ok.settled {D : Dv} (h : D.Ok) (f : Nat → Bool) {de fu : Int} (dn : Bool) (hde : 0 ≤ de) (hfu : 0 ≤ fu ∧ fu ≤ 9223372036854775807) : Dv.Ok { de := de, fu := fu, dn := dn, kept := settleL f 0 D.pend D.kept, pend := [] } :=
  ⟨by rw [settle_len]; exact h.n1, by rw [settle_len]; exact h.n2, settle_all f _ _ _ (fun p hp => (h.p64 p hp).1) h.k64, by simp, hde, hfu⟩
theorem left_settled {w w' : World} {g rk c : Nat} {vp : Value} {K : List (List UInt8)} {de fu : Int} {dn : Bool} (hb : Blk w' g 150 (dv de fu dn (.slice (some ⟨rk, 0, none⟩) K.length c) (.slice none 0 0))) (hk : w'.ownsRow 0 213 64 (.slice (some ⟨rk, 0, none⟩) K.length c) K.length (keptCells K))
    (ht : Turned (fun b => b = g ∨ b = rk) w w') (hok : Dv.Ok { de := de, fu := fu, dn := dn, kept := K, pend := [] }) : Left w (Foot g rk vp) g { de := de, fu := fu, dn := dn, kept := K, pend := [] } w' := by
  refine ⟨Foot g rk (.slice none 0 0), ⟨rk, c, _, rfl, hb, hk, ⟨rfl, .inl ⟨rfl, rfl⟩⟩, hok⟩, ht.mono fun k _ h => ?_, ?_⟩
  · rcases h with h | h
    · exact .inl h
    · exact .inr (.inl h)
  · rintro k (h | h | h)
    · exact .inl (.inl h)
    · exact .inl (.inr (.inl h))
    · cases h
set_option maxRecDepth 100000 in
set_option maxHeartbeats 1000000 in
theorem flush_any {D : Dv} {F : Nat → Prop} {g : Nat} (w : World) (h : DevAt w F g D) (hde : D.de ≤ 1000000000) (hm : D.pend.length ≤ 100000) :
    Calls Try.prog 68 #[.pointer (some ⟨g, 0, none⟩)] w fun e w' => e = .returned (.int .i64 D.flush.1) ∧ Left w F g D.flush.2 w' := by
  have h0 := h
  obtain ⟨rk, c, vp, rfl, hb, hk, hp, hok⟩ := h
  have HO := hide hok
  have H := hide (And.intro hb (And.intro hk (And.intro hp h0)))
  clear hb hk hp h0
  cases hdn : D.dn with
  | true =>
    rw [show D.flush = (10, D) by simp [Dv.flush, hdn]]
    go_enter Try.func68, Try.ntmps68
    go_wp2_with fail
    refine (able_any _ H.out.1).mono ?_
    rintro e w' ⟨rfl, rfl⟩
    rw [hdn, if_pos rfl]
    dsimp only
    go_wp2_with fail
    go_ret
    exact ⟨rfl, .same H.out.2.2.2⟩
  | false =>
    have Hb := H.out.1
    rw [hdn] at Hb
    rcases tick_cases D.de D.fu with ⟨hf, ht⟩ | ⟨fu', ht, hf⟩
    · have ok' := hok.ticked ht D.pend hok.p64 true
      rw [show D.flush = (10, { D with de := D.de, fu := 0, dn := true }) by simp [Dv.flush, hdn, ht]]
      have HT := hide (And.intro ht (And.intro hok.de hok.fu))
      have HX := hide ok'
      clear ok' hok ht
      go_enter Try.func68, Try.ntmps68
      go_wp2_with fail
      refine (able_any _ Hb).mono ?_
      rintro e w' ⟨rfl, rfl⟩
      rw [if_neg (by simp)]
      dsimp only
      go_wp2_with fail
      refine (next_any _ _ ⟨HT.out.2.1, hde⟩ HT.out.2.2 Hb).mono ?_
      rintro e w1 ⟨rfl, hb1, hg1⟩
      rw [HT.out.1] at hb1 ⊢
      dsimp only
      have H1 := hide (And.intro hb1 hg1)
      clear hb1 hg1
      go_wp2_with fail
      go_ret
      exact ⟨rfl, left_own Hb H.out.2.1 H.out.2.2.1 H1.out.1 H1.out.2 rfl rfl HX.out⟩
    · have ok' := hok.settled (fun _ => true) false (show 0 ≤ D.de + 1 by have := hok.de; omega) (show 0 ≤ fu' ∧ fu' ≤ 9223372036854775807 by have := hok.fu; exact ⟨hf.1 this.1, by omega⟩)
      rw [show D.flush = (0, { de := D.de + 1, fu := fu', dn := false, kept := settleL (fun _ => true) 0 D.pend D.kept, pend := [] }) by simp [Dv.flush, hdn, ht]]
      have HT := hide (And.intro ht (And.intro hok.de hok.fu))
      have HX := hide ok'
      clear ok' hok ht
      go_enter Try.func68, Try.ntmps68
      go_wp2_with fail
      refine (able_any _ Hb).mono ?_
      rintro e w' ⟨rfl, rfl⟩
      rw [if_neg (by simp)]
      dsimp only
      go_wp2_with fail
      refine (next_any _ _ ⟨HT.out.2.1, hde⟩ HT.out.2.2 Hb).mono ?_
      rintro e w1 ⟨rfl, hb1, hg1⟩
      rw [HT.out.1] at hb1 ⊢
      dsimp only
      have H1 := hide (And.intro hb1 hg1)
      clear hb1 hg1
      go_wp2_with fail
      have hkg : rk ≠ g := fun e => owned_neN H.out.2.1 Hb (by decide) (by rw [← e]; rfl)
      have hpg : vp.ownBlock ≠ some g := owned_neN H.out.2.2.1 Hb (by decide)
      have hk1 := owned_keepN H.out.2.1 (w' := w1) fun k hk hl => H1.out.2.block k hl (fun e => hkg (by have hk : some rk = some k := hk; injection hk with hk; injection e with e; rw [hk, e]))
      have hp1 := owned_keepN H.out.2.2.1 (w' := w1) fun k hk hl => H1.out.2.block k hl (fun e => hpg (by rw [hk, e]))
      refine (settle_any 125 #[] (fun _ => true) D.kept D.pend w1 (by omega) HO.out.n2 rfl rfl H1.out.1 hk1 hp1 HO.out.k64 HO.out.p64 (fun _ _ => by kernel_rfl) (fun W k _ _ => yes_any k W)).mono ?_
      rintro e w2 ⟨rfl, hb2, hk2, ht2⟩
      have H2 := hide (And.intro hb2 (And.intro hk2 ht2))
      clear hb2 hk2 ht2 hk1 hp1
      dsimp only
      go_wp2_with fail
      go_ret
      have el : D.kept.length = (settleL (fun _ => true) 0 D.pend D.kept).length := (settle_len ..).symm
      have h2 := H2.out
      rw [el] at h2
      refine ⟨rfl, left_settled h2.1 h2.2.1 ((Turned.of_grown H1.out.2 (fun k h _ => .inl (by injection h with h; exact h.symm))).trans h2.2.2) HX.out⟩
set_option maxRecDepth 100000 in
set_option maxHeartbeats 1000000 in
theorem wake_any {D : Dv} {F : Nat → Prop} {g : Nat} (x : Int) (w : World) (h : DevAt w F g D) (hm : D.pend.length ≤ 100000) :
    Calls Try.prog 38 #[.pointer (some ⟨g, 0, none⟩), .int .i64 x] w fun e w' => e = .returned (.int .i64 (D.wake x).1) ∧ Left w F g (D.wake x).2 w' := by
  have h0 := h
  obtain ⟨rk, c, vp, rfl, hb, hk, hp, hok⟩ := h
  have HO := hide hok
  have H := hide (And.intro hb (And.intro hk (And.intro hp h0)))
  clear hb hk hp h0
  cases hdn : D.dn with
  | false =>
    rw [show D.wake x = (15, D) by simp [Dv.wake, hdn]]
    go_enter Try.func38, Try.ntmps38
    go_wp2_with fail
    refine (able_any _ H.out.1).mono ?_
    rintro e w' ⟨rfl, rfl⟩
    rw [hdn, if_neg (by simp)]
    dsimp only
    go_wp2_with fail
    go_ret
    exact ⟨rfl, .same H.out.2.2.2⟩
  | true =>
    have Hb := H.out.1
    rw [hdn] at Hb
    have ok' := hok.settled (wakeB (IntKind.u64.wrap x)) false hok.de (show 0 ≤ (0 : Int) ∧ (0 : Int) ≤ 9223372036854775807 by omega)
    rw [show D.wake x = (0, { de := D.de, fu := 0, dn := false, kept := settleL (wakeB (IntKind.u64.wrap x)) 0 D.pend D.kept, pend := [] }) by simp [Dv.wake, hdn]]
    have HX := hide ok'
    clear ok' hok
    go_enter Try.func38, Try.ntmps38
    go_wp2_with fail
    refine (able_any _ Hb).mono ?_
    rintro e w' ⟨rfl, rfl⟩
    rw [if_pos rfl]
    dsimp only
    go_wp2_with fail
    obtain ⟨w1, hw1⟩ : ∃ w1, w1 = w'.alloc (.cells #[.int .u64 (IntKind.u64.wrap x)] 163) := ⟨_, rfl⟩
    have hT1 : Turned (fun _ => False) w' w1 := by rw [hw1]; exact (Turned.refl _ _).alloc _
    have hq : Blk w1 w'.heap.size 163 #[.int .u64 (IntKind.u64.wrap x)] := by rw [hw1]; exact Blk.new _ _ _
    have hb1 := (hT1.block g Hb.lt (fun h => h)).trans Hb
    have hk1 := owned_keepN H.out.2.1 (w' := w1) fun k hk hl => hT1.block k hl (fun h => h)
    have hp1 := owned_keepN H.out.2.2.1 (w' := w1) fun k hk hl => hT1.block k hl (fun h => h)
    have hrk : rk < w'.heap.size := (owned_ltN H.out.2.1 rfl).2
    rw [← hw1]
    have H1 := hide (And.intro hT1 hq)
    clear hw1 hT1 hq
    refine (settle_any 71 #[.pointer (some ⟨w'.heap.size, 0, none⟩)] (wakeB (IntKind.u64.wrap x)) D.kept D.pend w1 (by omega) HO.out.n2 rfl rfl hb1 hk1 hp1 HO.out.k64 HO.out.p64 (fun _ _ => by kernel_rfl) (fun W k hk hW => bit_any _ k (by omega) _ W ?_)).mono ?_
    · rw [World.cell?_of_block (hW.block _ H1.out.2.lt (fun e => by have e : w'.heap.size = rk := e; omega)), H1.out.2.cell]
      rfl
    rintro e w2 ⟨rfl, hb2, hk2, ht2⟩
    have c0 := (hb2.cell 0).trans (dv0 ..)
    have c1 := (hb2.cell 1).trans (dv1 ..)
    have c2 := (hb2.cell 2).trans (dv2 ..)
    have f0 := hb2.frozen 0
    have f1 := hb2.frozen 1
    have f2 := hb2.frozen 2
    have hlt := hb2.lt
    have H2 := hide (And.intro hb2 (And.intro hk2 ht2))
    clear hb2 hk2 ht2 hk1 hp1 hb1
    dsimp only
    go_wp2_with fail
    go_ret
    have el : D.kept.length = (settleL (wakeB (IntKind.u64.wrap x)) 0 D.pend D.kept).length := (settle_len ..).symm
    have h2 := H2.out
    rw [el] at h2
    have hb5 := ((h2.1.set_ 0 (.int .i64 D.de)).set_ 1 (.int .i64 0)).set_ 2 (.bool false)
    rw [dv_set0, dv_set1, dv_set2] at hb5
    have hkg : ∀ k, some rk = some k → k ≠ g := fun k e e2 => owned_neN H.out.2.1 Hb (by decide) (by rw [← e2]; exact e)
    have hT : Turned (fun b => b = g ∨ b = rk) w' w2 := (H1.out.1.mono (fun _ _ h => h.elim)).trans h2.2.2
    refine ⟨rfl, left_settled hb5 (owned_keepN h2.2.1 fun k hk _ => ?_) (((hT.setCell (fun _ => .inl rfl) _).setCell (fun _ => .inl rfl) _).setCell (fun _ => .inl rfl) _) HX.out⟩
    have hk := hkg k hk
    rw [Below.heap_setCell _ ⟨g, 2, none⟩ _ k hk, Below.heap_setCell _ ⟨g, 1, none⟩ _ k hk, Below.heap_setCell _ ⟨g, 0, none⟩ _ k hk]
end Go.Proofs.Ytfppddnfdinipaa
end
section
namespace Go.Proofs.Ytfppddnfdinipaa
open Go Go.RowKit
theorem kept_bv (K : List (List UInt8)) : keptCells K = bv K.flatten := by
  simp [keptCells, bv, List.map_flatten]
  rfl
def Dv.new (n : Nat) : Dv := { de := 0, fu := 0, dn := false, kept := List.replicate n (List.replicate 64 0), pend := [] }
theorem made_zero (m N : Nat) (hm : 0 < m) : (madeCells (bv (List.replicate m 0)).toArray N).toList = List.replicate N (.int .u8 0) := by
  apply List.ext_getElem?
  intro j
  by_cases hj : j < N
  · have h64 : j % m < m := Nat.mod_lt _ hm
    simp [madeCells, hj, bv, h64]
  · simp [madeCells, hj]
theorem new_cells (n : Nat) : (madeCells (Value.agg (bv (List.replicate 64 0)).toArray).cells (n * 64)).toList = keptCells (List.replicate n (List.replicate 64 0)) := by
  rw [kept_bv, List.flatten_replicate_replicate]
  rw [show (Value.agg (bv (List.replicate 64 0)).toArray).cells = (bv (List.replicate 64 0)).toArray from rfl, made_zero 64 _ (by omega)]
  unfold bv
  rw [List.map_replicate]
  rfl
theorem newDev_any (n : Nat) (hn : 1 ≤ n ∧ n ≤ 8192) (w : World) : Calls Try.prog 31 #[.int .i64 (n : Int)] w fun e w' => ∃ g F, e = .returned (.tuple #[.pointer (some ⟨g, 0, none⟩), .int .i64 0]) ∧ DevAt w' F g (Dv.new n) ∧ Below w.heap.size w w' ∧ ∀ k, F k → w.heap.size ≤ k := by
  refine (new_any n hn w).mono ?_
  rintro e w' ⟨g, r, rfl, h1, h2, h3, h4, h5⟩
  rw [new_cells] at h4
  have el : (Dv.new n).kept.length = n := by simp [Dv.new]
  refine ⟨g, Foot g r (.slice none 0 0), rfl, ⟨r, n, _, rfl, by rw [el]; exact h3, by rw [el]; exact owned_baseN h4 (fun _ _ => Nat.zero_le _), ⟨rfl, .inl ⟨rfl, rfl⟩⟩, ?_⟩, h5, ?_⟩
  · refine ⟨by rw [el]; exact hn.1, by rw [el]; exact hn.2, fun b hb => ?_, by simp [Dv.new], by simp [Dv.new], by simp [Dv.new]⟩
    rw [List.eq_of_mem_replicate hb]
    simp
  · rintro k (rfl | rfl | h)
    · omega
    · exact h1
    · cases h
def Dv.crash (D : Dv) : Int × Dv := if D.dn then (10, D) else (0, { D with dn := true })
def Dv.fuse (D : Dv) (x : Int) : Int × Dv := if D.dn then (10, D) else (0, { D with fu := max x 0 })
section
variable {D : Dv} {F : Nat → Prop} {g : Nat}
set_option maxRecDepth 100000
theorem crashDev_any (w : World) (h : DevAt w F g D) : Calls Try.prog 37 #[.pointer (some ⟨g, 0, none⟩)] w fun e w' => e = .returned (.int .i64 D.crash.1) ∧ Left w F g D.crash.2 w' := by
  have h0 := h
  obtain ⟨rk, c, vp, rfl, hb, hk, hp, hok⟩ := h
  cases hdn : D.dn with
  | true =>
    rw [show D.crash = (10, D) by simp [Dv.crash, hdn]]
    have H := hide (And.intro hb h0)
    clear hb h0 hk hp hok
    go_enter Try.func37, Try.ntmps37
    go_wp2_with fail
    refine (able_any _ H.out.1).mono ?_
    rintro e w' ⟨rfl, rfl⟩
    rw [hdn, if_pos rfl]
    dsimp only
    go_wp2_with fail
    go_ret
    exact ⟨rfl, .same H.out.2⟩
  | false =>
    rw [show D.crash = (0, { D with dn := true }) by simp [Dv.crash, hdn]]
    have Hb := hb
    rw [hdn] at Hb
    refine (crash_any w Hb).mono ?_
    rintro e w' ⟨rfl, h1, h2⟩
    exact ⟨rfl, left_own Hb hk hp h1 h2 rfl rfl ⟨hok.n1, hok.n2, hok.k64, hok.p64, hok.de, hok.fu⟩⟩
theorem fuseDev_any (x : Int) (hx : x ≤ 9223372036854775807) (w : World) (h : DevAt w F g D) : Calls Try.prog 80 #[.pointer (some ⟨g, 0, none⟩), .int .i64 x] w fun e w' => e = .returned (.int .i64 (D.fuse x).1) ∧ Left w F g (D.fuse x).2 w' := by
  have h0 := h
  obtain ⟨rk, c, vp, rfl, hb, hk, hp, hok⟩ := h
  cases hdn : D.dn with
  | true =>
    rw [show D.fuse x = (10, D) by simp [Dv.fuse, hdn]]
    have H := hide (And.intro hb h0)
    clear hb h0 hk hp hok
    go_enter Try.func80, Try.ntmps80
    go_wp2_with fail
    refine (able_any _ H.out.1).mono ?_
    rintro e w' ⟨rfl, rfl⟩
    rw [hdn, if_pos rfl]
    dsimp only
    go_wp2_with fail
    go_ret
    exact ⟨rfl, .same H.out.2⟩
  | false =>
    rw [show D.fuse x = (0, { D with fu := max x 0 }) by simp [Dv.fuse, hdn]]
    have Hb := hb
    rw [hdn] at Hb
    refine (fuse_any x w Hb).mono ?_
    rintro e w' ⟨rfl, h1, h2⟩
    refine ⟨rfl, left_own (D' := { D with fu := max x 0 }) Hb hk hp (by rw [hdn]; exact h1) h2 rfl rfl ⟨hok.n1, hok.n2, hok.k64, hok.p64, hok.de, ?_⟩⟩
    show 0 ≤ max x 0 ∧ max x 0 ≤ _
    omega
theorem statDev_any (w : World) (h : DevAt w F g D) : Calls Try.prog 87 #[.pointer (some ⟨g, 0, none⟩)] w fun e w' => e = .returned (.agg #[.int .i64 (D.kept.length : Int), .int .i64 (D.pend.length : Int), .int .i64 D.de, .bool D.dn]) ∧ Below w.heap.size w w' := by
  obtain ⟨rk, c, vp, rfl, hb, hk, hp, hok⟩ := h
  obtain ⟨A, cp, rfl⟩ : ∃ A cp, vp = .slice A D.pend.length cp := by
    rcases owned_formN hp with ⟨h, h0, _⟩ | ⟨r, cap, _, h, _⟩
    · exact ⟨none, 0, by rw [h, h0]⟩
    · exact ⟨_, cap, h⟩
  exact stat_any w hb
end
theorem info_b8 : (Try.prog.info? 5).map (fun i => (i.zero, i.size, i.bytes)) = some (some (.int .u8 0), 1, 1) := by kernel_rfl
theorem take_flat (K : List (List UInt8)) (k : Nat) (b : List UInt8) (h : K[k]? = some b) : (K.take (k + 1)).flatten = (K.take k).flatten ++ b := by
  rw [List.take_add_one, h]
  simp
theorem flat_tl (K : List (List UInt8)) (h : ∀ b ∈ K, b.length = 64) (k : Nat) (hk : k ≤ K.length) : (K.take k).flatten.length = k * 64 := by
  rw [flat_len (s := 64) _ (fun b hb => h b (List.mem_of_mem_take hb)), List.length_take, Nat.min_eq_left hk]
set_option maxRecDepth 100000 in
set_option maxHeartbeats 1000000 in
theorem kept_any {g rk n c : Nat} {vp : Value} {de fu : Int} {dn : Bool} (K : List (List UInt8)) (w : World) (hn : n ≤ 8192) (hKn : K.length = n) (hK : ∀ b ∈ K, b.length = 64)
    (hb : Blk w g 150 (dv de fu dn (.slice (some ⟨rk, 0, none⟩) n c) vp)) (hk : w.ownsRow 0 213 64 (.slice (some ⟨rk, 0, none⟩) n c) n (keptCells K)) :
    Calls Try.prog 86 #[.pointer (some ⟨g, 0, none⟩)] w fun e w' => ∃ v, e = .returned v ∧ w'.ownsRow w.heap.size 5 1 v (n * 64) (bv K.flatten) ∧ Below w.heap.size w w' := by
  obtain ⟨i, hi, hz0, hz1, hz2⟩ := info_parts info_b8
  have c3 := (hb.cell 3).trans (dv3 ..)
  have hlt := hb.lt
  have H := hide (And.intro hb hk)
  have HK := hide hK
  have HN := hide hKn
  clear hb hk hK hKn
  go_enter Try.func86, Try.ntmps86
  go_wp2_with fail
  refine (dnone_any _ H.out.1).mono ?_
  rintro e w' ⟨rfl, rfl⟩
  dsimp only
  go_wp2_with fail
  go_loopw [2, 11] (fun v i wr => ∃ k : Nat, k ≤ n ∧ i = .int .i64 (k : Int) ∧ wr.ownsRow w'.heap.size 5 1 v (k * 64) (bv (K.take k).flatten) ∧ Below w'.heap.size w' wr) (fun _ i _ => n - (intOf i).toNat)
  case atStart => exact ⟨0, by omega, rfl, ⟨rfl, .inl ⟨rfl, rfl⟩⟩, Below.refl _ _⟩
  case round =>
    obtain ⟨k, hkn, rfl, ho, hbel⟩ := hrel
    have hg : Blk wr g 150 (dv de fu dn (.slice (some ⟨rk, 0, none⟩) n c) vp) := H.out.1.below hbel hlt
    by_cases hkm : k < n
    · have n1 : (0 : Int) ≤ (k : Int) := by omega
      have n2 : (k : Int) < (n : Int) := by omega
      obtain ⟨b, hkb⟩ : ∃ b, K[k]? = some b := ⟨K[k]'(by have := HN.out; omega), List.getElem?_eq_getElem _⟩
      have hb64 : b.length = 64 := HK.out b (List.mem_of_getElem? hkb)
      have hbl : (bv b).length = 64 := by rw [bvL, hb64]
      have hkr : wr.ownsRow 0 213 64 (.slice (some ⟨rk, 0, none⟩) n c) n (keptCells K) := owned_keepN H.out.2 fun j _ hl => hbel.block j hl
      have hsrc : Src wr (some ⟨rk, k * 64, none⟩) 64 64 (bv b) := ⟨hbl, (fun h => (by cases h)), bv1 b, fun ad had j u hu => by
        injection had with had
        subst had
        rw [Addr.add_mid]
        exact own_range hkr (k * 64) 64 _ (kept_at K k b HK.out hkb) j u hu⟩
      have c3r := (hg.cell 3).trans (dv3 ..)
      have hltr := hg.lt
      have hsz := hbel.size
      have HR := hide (And.intro ho (And.intro hbel hsrc))
      have HB := hide (take_flat K k b hkb)
      clear ho hbel hsrc hkr hkb c3
      go_wp2_with (first | (at_builtin; (refine wpList_app2 (o := ⟨some 22, _, _, _, _, _⟩) rfl (.tmp 14) (.tmp 21) 66 rfl w'.heap.size 5 i _ 1 Try.underlying66 hi hz0 hz1 hz2 rfl _ (k * 64) _ HR.out.1 _ 64 64 (bv b) HR.out.2.2 (by omega) (by simp only [maxLen]; omega) (by omega) hsz ?_ ?_ ?_); rfl; rfl; intro v1 w1 ho1 hg1 hx1; have H1 := hide (And.intro ho1 hg1); clear ho1 hg1 hx1; dsimp only [Act.put, List.setIfInBounds_toArray, List.set_cons_zero, List.set_cons_succ]))
      go_roundw
      case rel =>
        refine ⟨k + 1, by omega, by go_num, ?_, HR.out.2.1.grown H1.out.2 hsz (fun j hj => (owned_ltN HR.out.1 hj).1)⟩
        rw [HB.out, bvA, Nat.add_mul]
        exact H1.out.1
      case measure => simp [intOf]; omega
    · obtain rfl : k = n := by omega
      have HR := hide (And.intro ho hbel)
      clear ho hbel
      go_wp2_with fail
      go_ret
      have h := HR.out
      rw [show K.take k = K by rw [← HN.out]; exact List.take_length] at h
      exact ⟨_, rfl, h.1, h.2⟩
theorem keptDev_any {D : Dv} {F : Nat → Prop} {g : Nat} (w : World) (h : DevAt w F g D) : Calls Try.prog 86 #[.pointer (some ⟨g, 0, none⟩)] w fun e w' => ∃ v, e = .returned v ∧ w'.ownsRow w.heap.size 5 1 v (D.kept.length * 64) (bv D.kept.flatten) ∧ Below w.heap.size w w' := by
  obtain ⟨rk, c, vp, rfl, hb, hk, hp, hok⟩ := h
  exact kept_any D.kept w hok.n2 rfl hok.k64 hb hk
end Go.Proofs.Ytfppddnfdinipaa
end
