/- GenTail's law, where what is made need not be apart: a made slot may hold an aggregate. Printed by gen/free.py. -/
import Derived.Test.YtidiepbmbbflhaaQuietTail
import Derived.Below
namespace Go.Proofs.Ytidiepbmbbflhaa.Fre
open Go Go.RowKit
/-- what the head may do to the world -/
class RelOk (X : World → World → Prop) : Prop where
  refl : ∀ w, X w w
  trans : ∀ a b c, X a b → X b c → X a c
  drew : ∀ w, X w w.drew
def Ext (X : World → World → Prop) (w w' : World) : Prop := X w w'
theorem Ext.refl {X : World → World → Prop} [RelOk X] (w : World) : Ext X w w := RelOk.refl (X := X) w
theorem Ext.trans {X : World → World → Prop} [RelOk X] {a b c : World} (h : Ext X a b) (k : Ext X b c) : Ext X a c := RelOk.trans (X := X) a b c h k
theorem Ext.drew {X : World → World → Prop} [RelOk X] (w : World) : Ext X w w.drew := RelOk.drew (X := X) w
/-- what is made, slot by slot -/
abbrev Made := Tmp → Option (Value → World → Prop)

section
variable {P : Program} {ops : Array Oper} {md : Region.Mode} {F : Made} {w0 : World} {X : World → World → Prop} [RelOk X]

/-- what a made thing is stays X so -/
def stays (X : World → World → Prop) (F : Made) : Prop := ∀ t V, F t = some V → ∀ u w w', V u w → Ext X w w' → V u w'

/-- an operation hands on one value -/
def quietTo (X : World → World → Prop) (P : Program) (v : Value) (w : World) : Result Next → Prop
  | .ok (.value u) w' => w' = w ∧ u = v
  | .ok .skip w' => w' = w ∧ v = undef
  | .ok (.enter f args) w' => w' = w ∧ Calls P f args w (fun e w'' => e = .returned v ∧ Ext X w w'')
  | _ => False
/-- a value is none of the made ones -/
def newTo (_ : Made) (_ : Option Tmp) (_ : World) (_ : Value) : Prop := True
/-- an operation makes something -/
def freshTo (X : World → World → Prop) (P : Program) (F : Made) (d : Option Tmp) (V : Value → World → Prop) (w : World) : Result Next → Prop
  | .ok (.value u) w' => Ext X w w' ∧ V u w' ∧ newTo F d w u
  | .ok (.enter f args) w' => w' = w ∧ Calls P f args w (fun e w'' => ∃ u, e = .returned u ∧ Ext X w w'' ∧ V u w'' ∧ newTo F d w u)
  | _ => False
/-- the one or the other -/
def makesTo (X : World → World → Prop) (P : Program) (F : Made) (d : Option Tmp) (V? : Option (Value → World → Prop)) (v : Value) (w : World) (r : Result Next) : Prop :=
  match V? with
  | some V => v = undef ∧ freshTo X P F d V w r
  | none => quietTo X P v w r

/-- frames that are one but for made slots -/
def Same (F : Made) (a b : Act) : Prop := a.defers = b.defers ∧ a.tmps.size = b.tmps.size ∧ ∀ t, F t = none → a.tmps[t]? = b.tmps[t]?

/-- the made slots that are looked at hold what they should -/
def Holds (F : Made) (l : List Tmp) (b : Act) (w : World) : Prop := ∀ t ∈ l, ∀ V, F t = some V → ∃ u, b.tmps[t]? = some u ∧ V u w

/-- what an operation does in whatever frame that is as 'a' but for made slots, and whose made slots that it looks at hold what they should -/
def Does (X : World → World → Prop) (P : Program) (ops : Array Oper) (F : Made) (w0 : World) (o : Oper) (v : Value) (a : Act) : Prop :=
  ∀ b w, Ext X w0 w → Same F b a → Holds F (o.looksAt ops) b w →
    (Region.wanted o (yielded ops b.tmps) = true → makesTo X P F o.dst (o.dst.bind F) v w ((execOp b.eval o).run P w)) ∧
    (Region.wanted o (yielded ops b.tmps) = false → v = undef ∧ o.dst.bind F = none)

theorem tmps_put (a : Act) (d : Tmp) (x : Value) (t : Tmp) (h : t ≠ d) : (a.put (some d) x).tmps[t]? = a.tmps[t]? := by
  simp only [Act.put]
  rw [Array.getElem?_setIfInBounds_ne (Ne.symm h)]
theorem size_put (a : Act) (dst : Option Tmp) (x : Value) : (a.put dst x).tmps.size = a.tmps.size := by cases dst <;> simp [Act.put]
theorem defers_put (a : Act) (dst : Option Tmp) (x : Value) : (a.put dst x).defers = a.defers := by cases dst <;> rfl
theorem tmps_put_at (a : Act) (d : Tmp) (x : Value) : (a.put (some d) x).tmps[d]? = if d < a.tmps.size then some x else none := by
  simp only [Act.put, Array.getElem?_setIfInBounds, if_true]
theorem Same.put {a b : Act} (h : Same F a b) (dst : Option Tmp) (x : Value) : Same F (a.put dst x) (b.put dst x) := by
  refine ⟨by rw [defers_put, defers_put, h.1], by rw [size_put, size_put, h.2.1], fun t ht => ?_⟩
  cases dst with
  | none => exact h.2.2 t ht
  | some d =>
    by_cases e : t = d
    · subst e
      rw [tmps_put_at, tmps_put_at, h.2.1]
    · rw [tmps_put _ _ _ _ e, tmps_put _ _ _ _ e]
      exact h.2.2 t ht

theorem Holds.put {l : List Tmp} {b : Act} {w : World} (dst : Option Tmp) (x : Value) (hl : ∀ d, dst = some d → d ∉ l) : Holds F l (b.put dst x) w ↔ Holds F l b w := by
  unfold Holds
  constructor
  · intro h t ht V hV
    obtain ⟨u, hu, hv⟩ := h t ht V hV
    refine ⟨u, ?_, hv⟩
    cases dst with
    | none => exact hu
    | some d => rwa [tmps_put _ _ _ _ (fun e => hl d rfl (by rw [← e]; exact ht))] at hu
  · intro h t ht V hV
    obtain ⟨u, hu, hv⟩ := h t ht V hV
    refine ⟨u, ?_, hv⟩
    cases dst with
    | none => exact hu
    | some d => rw [tmps_put _ _ _ _ (fun e => hl d rfl (by rw [← e]; exact ht))]; exact hu

omit [RelOk X] in
/-- another slot makes no difference -/
theorem Does.of_put {o : Oper} (hs : ∀ cs b, o.op ≠ .select cs b) {v : Value} {a : Act} {dst : Option Tmp} {x : Value} (hd : ∀ d, dst = some d → d ∉ o.looksAt ops) (h : Does X P ops F w0 o v (a.put dst x)) : Does X P ops F w0 o v a := by
  intro b w hw hb hh
  have h2 := h (b.put dst x) w hw (hb.put dst x) ((Holds.put dst x hd).2 hh)
  rwa [wanted_put o b dst x hd, execOp_put o hs b dst x hd] at h2
omit [RelOk X] in
theorem Does.put {o : Oper} (hs : ∀ cs b, o.op ≠ .select cs b) {v : Value} {a : Act} {dst : Option Tmp} {x : Value} (hd : ∀ d, dst = some d → d ∉ o.looksAt ops) (h : Does X P ops F w0 o v a) : Does X P ops F w0 o v (a.put dst x) := by
  cases dst with
  | none => exact h
  | some d =>
    intro b w hw hb hh
    have hsame : Same F (b.put (some d) (a.tmps.getD d undef)) a := by
      refine ⟨by rw [defers_put, hb.1, defers_put], by rw [size_put, hb.2.1, size_put], fun t ht => ?_⟩
      by_cases e : t = d
      · subst e
        rw [tmps_put_at, hb.2.1, size_put]
        split
        · rename_i hlt; simp [hlt]
        · rename_i hlt; rw [Array.getElem?_eq_none (Nat.le_of_not_lt hlt)]
      · rw [tmps_put _ _ _ _ e, hb.2.2 t ht, tmps_put _ _ _ _ e]
    have h2 := h (b.put (some d) (a.tmps.getD d undef)) w hw hsame ((Holds.put (some d) _ hd).2 hh)
    rwa [wanted_put o b (some d) _ hd, execOp_put o hs b (some d) _ hd] at h2

def absOp (X : World → World → Prop) (P : Program) (ops : Array Oper) (F : Made) (w0 : World) (i : Nat) (K : Act → Prop) (a : Act) : Prop :=
  match ops[i]? with
  | none => K a
  | some o => ∃ v, Does X P ops F w0 o v a ∧ K (a.put o.dst v)
omit [RelOk X] in
theorem absOp_mono {i : Nat} {a : Act} {K K' : Act → Prop} (h : ∀ a, K a → K' a) (hh : absOp X P ops F w0 i K a) : absOp X P ops F w0 i K' a := by
  unfold absOp at *
  cases ho : ops[i]? with
  | none => simp only [ho] at hh; exact h _ hh
  | some o =>
    simp only [ho] at hh
    obtain ⟨v, h1, h2⟩ := hh
    exact ⟨v, h1, h _ h2⟩

omit [RelOk X] in
theorem absOp_put {j : Nat} {oi oj : Oper} {v : Value} (hj : ops[j]? = some oj) (hap : oi.apart ops oj = true)
    (hsi : ∀ cs b, oi.op ≠ .select cs b) (hsj : ∀ cs b, oj.op ≠ .select cs b) {K : Act → Prop} {a : Act}
    (hy : Does X P ops F w0 oi v a) (h : absOp X P ops F w0 j K (a.put oi.dst v)) :
    absOp X P ops F w0 j (fun a' => Does X P ops F w0 oi v a' ∧ K (a'.put oi.dst v)) a := by
  obtain ⟨h1, h2, h3⟩ := Oper.apart_spec hap
  unfold absOp at *
  simp only [hj] at *
  obtain ⟨u, hu, hk⟩ := h
  exact ⟨u, hu.of_put hsj h1, hy.put hsi h3, by rw [← Act.put_comm a v u h2]; exact hk⟩

/-- whatever order the head is taken in, L holds when it is done -/
def headF (X : World → World → Prop) (P : Program) (md : Region.Mode) (ops : Array Oper) (F : Made) (w0 : World) (n : Nat) (L : Array Bool → Act → Prop) : Nat → Array Bool → Act → Prop
  | 0, d, a => L d a
  | f + 1, d, a => Region.ready md ops d ≠ [] ∧ ∀ i ∈ Region.ready md ops d, i < n ∧ absOp X P ops F w0 i (headF X P md ops F w0 n L f (d.setIfInBounds i true)) a

omit [RelOk X] in
theorem headF_first {n i : Nat} {oi : Oper} {v : Value} {L : Array Bool → Act → Prop} (hi : ops[i]? = some oi) (hsel : ∀ (j : Nat) (o : Oper) cs b, ops[j]? = some o → o.op ≠ .select cs b)
    (hs : Region.sinkB md ops n = true) (hc : Region.chainB md ops n = true) (hn : n < ops.size) (hin : i < n) (hdone : ∀ d a, L d a → ∀ j ∈ Region.ready md ops d, n ≤ j) (f : Nat) :
    ∀ (d : Array Bool) (a : Act), HeadInv md ops n d →
      (∀ j oj, ops[j]? = some oj → j ≠ i → d.getD j true = false → (∀ e ∈ oj.after, Region.binds md e = true → e.on ≠ i) → oi.apart ops oj = true) →
      i ∈ Region.ready md ops d → Does X P ops F w0 oi v a →
      headF X P md ops F w0 n L f (d.setIfInBounds i true) (a.put oi.dst v) → headF X P md ops F w0 n L (f + 1) d a := by
  have own : ∀ (K : Act → Prop) (a : Act), Does X P ops F w0 oi v a → K (a.put oi.dst v) → absOp X P ops F w0 i K a := by
    intro K a hy hk
    unfold absOp
    simp only [hi]
    exact ⟨v, hy, hk⟩
  induction f with
  | zero =>
    intro d a inv _ hr hy H
    refine ⟨List.ne_nil_of_mem hr, fun j hj => ?_⟩
    have hjn := headQ_lt hs hc hn inv hin (mem_ready.1 hr).1 hj
    refine ⟨hjn, ?_⟩
    rcases Nat.decEq j i with hji | hji
    · exact absurd (hdone _ _ H j (ready_mono hj hji)) (by omega)
    · subst hji
      exact own _ _ hy H
  | succ f ih =>
    intro d a inv hfree hr hy H
    refine ⟨List.ne_nil_of_mem hr, fun j hj => ?_⟩
    have hjn := headQ_lt hs hc hn inv hin (mem_ready.1 hr).1 hj
    refine ⟨hjn, ?_⟩
    rcases Nat.decEq j i with hji | hji
    · obtain ⟨hjun, oj, hoj, hall⟩ := mem_ready.1 hj
      have hnot : ∀ e ∈ oj.after, Region.binds md e = true → e.on ≠ i := by
        intro e he hb heq
        have h1 := hall e he hb
        rw [heq, getD_both (mem_ready.1 hr).1] at h1
        cases h1
      have hstep := absOp_put hoj (hfree j oj hoj hji hjun hnot) (fun cs b => hsel i oi cs b hi) (fun cs b => hsel j oj cs b hoj) hy (H.2 j (ready_mono hj hji)).2
      refine absOp_mono (fun a' h3 => ih (d.setIfInBounds j true) a' (inv.set hj hjn) ?_ (ready_mono hr (Ne.symm hji)) h3.1 ?_) hstep
      · intro k ok hk hki hunk hno
        refine hfree k ok hk hki ?_ hno
        rcases Nat.decEq j k with hjk | hjk
        · rwa [getD_set_ne true hjk] at hunk
        · subst hjk
          exact hjun
      · rw [Array.setIfInBounds_comm _ _ hji]
        exact h3.2
    · subst hji
      exact own _ _ hy H

/-- the walk in the text's order -/
def wpMade (X : World → World → Prop) (P : Program) (ops : Array Oper) (F : Made) (w0 : World) (Q : Act → Prop) : List Oper → Act → Prop
  | [], a => Q a
  | o :: rest, a => ∃ v, Does X P ops F w0 o v a ∧ wpMade X P ops F w0 Q rest (a.put o.dst v)

omit [RelOk X] in
theorem headF_lex {n g : Nat} {Lq : Act → Prop} (hsel : Region.noSelect ops = true) (hs : Region.sinkB md ops n = true) (hc : Region.chainB md ops n = true) (hn : n < ops.size) :
    ∀ (l : List Oper) (k : Nat) (d : Array Bool) (a : Act), (∀ j, j < l.length → l[j]? = ops[k + j]?) → k + l.length = n → HeadInv md ops n d → (∀ i, i < k → d.getD i false = true) →
    Region.lexHead md ops g l.length k d = true → wpMade X P ops F w0 Lq l a →
    headF X P md ops F w0 n (fun d' a' => (Region.seqB md ops g n d' = true ∧ ∀ i, i < n → d'.getD i false = true) ∧ Lq a') l.length d a
  | [], k, d, a, _, hk, _, hd, hB, h => by
    obtain rfl : k = n := by simpa using hk
    exact ⟨⟨by simpa [Region.lexHead] using hB, hd⟩, h⟩
  | o :: l, k, d, a, hl, hk, inv, hd, hB, h => by
    have h0 : ops[k]? = some o := by simpa using (hl 0 (by simp)).symm
    simp only [List.length_cons, Region.lexHead, Bool.and_eq_true] at hB
    obtain ⟨⟨hr, hf⟩, hB'⟩ := hB
    have hkn : k < n := by simp only [List.length_cons] at hk; omega
    have hr' : k ∈ Region.ready md ops d := by simpa using hr
    obtain ⟨v, hy, hK⟩ := h
    refine headF_first h0 (Region.noSelect_spec hsel) hs hc hn hkn (fun d' a' hL => seqB_ready hL.1.1) l.length d a inv (Region.free_spec h0 hf) hr' hy ?_
    refine headF_lex hsel hs hc hn l (k + 1) _ _ (fun j hj => ?_) (by simp only [List.length_cons] at hk; omega) (inv.set hr' hkn) (fun i hi => ?_) hB' hK
    · have := hl (j + 1) (by simp; omega)
      simpa [Nat.add_assoc, Nat.add_comm 1 j] using this
    · by_cases e : k = i
      · subst e
        have : k < d.size := by rw [inv.size]; omega
        simp [this]
      · rw [getD_set_ne false e]
        exact hd i (by omega)

/-- made slots that are looked at have been made -/
def madeB (md : Region.Mode) (ops : Array Oper) (keys : List Tmp) (n : Nat) : Bool :=
  (List.range n).all fun j => match ops[j]? with
    | none => true
    | some o => (o.looksAt ops).all fun t => !keys.contains t || (List.range n).any fun i => (ops[i]?).bind (·.dst) == some t && Region.waitsFor md ops j i
/-- all made slots are made by the head -/
def allMadeB (ops : Array Oper) (keys : List Tmp) (n : Nat) : Bool := keys.all fun t => (List.range n).any fun i => (ops[i]?).bind (·.dst) == some t

def Sim (X : World → World → Prop) (ops : Array Oper) (F : Made) (w0 : World) (d : Array Bool) (a b : Act) (w : World) : Prop :=
  Ext X w0 w ∧ Same F b a ∧ ∀ i o t V, ops[i]? = some o → d.getD i false = true → o.dst = some t → F t = some V → ∃ u, b.tmps[t]? = some u ∧ V u w

theorem any_of_headF {n g : Nat} {keys : List Tmp} (hF : stays X F) (hkeys : ∀ t V, F t = some V → t ∈ keys) (hmade : madeB md ops keys n = true) (hsz : ∀ t ∈ keys, ∀ a : Act, ∀ b : Act, Same F b a → True)
    {L : Array Bool → Act → Prop} {Q' : Exit → Act → World → Prop} {size : Nat} (hrange : ∀ t V, F t = some V → t < size)
    (hL : ∀ d a b w, b.tmps.size = size → Sim X ops F w0 d a b w → L d a → wpAny P md ops Q' g d b w) :
    ∀ (f : Nat) (d : Array Bool) (a b : Act) (w : World), b.tmps.size = size → HeadInv md ops n d → Sim X ops F w0 d a b w → headF X P md ops F w0 n L f d a → wpAny P md ops Q' (f + g) d b w
  | 0, d, a, b, w, hb, _, hs, h => by
    rw [Nat.zero_add]
    exact hL _ _ _ _ hb hs h
  | f + 1, d, a, b, w, hb, inv, hs, h => by
    rw [Nat.add_right_comm]
    refine ⟨fun he => absurd he h.1, fun i hi => ?_⟩
    obtain ⟨hin, hop⟩ := h.2 i hi
    obtain ⟨hun, oi, hoi, hall⟩ := mem_ready.1 hi
    obtain ⟨hw, hsame, hV⟩ := hs
    unfold absOp at hop
    simp only [hoi] at hop
    obtain ⟨v, hdo, hk⟩ := hop
    -- the made slots that it looks at
    have hhold : Holds F (oi.looksAt ops) b w := by
      intro t ht V hFt
      have h1 := List.all_eq_true.1 hmade i (List.mem_range.2 hin)
      simp only [hoi] at h1
      have h2 := List.all_eq_true.1 h1 t ht
      have hk2 : keys.contains t = true := by simpa using hkeys t V hFt
      simp only [hk2, Bool.not_true, Bool.false_or] at h2
      obtain ⟨j, _, hj2⟩ := List.any_eq_true.1 h2
      simp only [Bool.and_eq_true, beq_iff_eq] at hj2
      obtain ⟨hj3, hj4⟩ := hj2
      obtain ⟨oi', hoi', e, he, hbd, hon⟩ := Region.waitsFor_spec hj4
      obtain rfl : oi' = oi := Option.some.inj (hoi'.symm.trans hoi)
      cases hoj : ops[j]? with
      | none => simp [hoj] at hj3
      | some oj =>
        have hdst : oj.dst = some t := by simpa [hoj] using hj3
        exact (hV j oj t V hoj (by have := hall e he hbd; rwa [hon] at this) hdst hFt)
    obtain ⟨hyes, hno⟩ := hdo b w hw hsame hhold
    -- the next state
    have next : ∀ (x : Value) (w' : World), Ext X w w' → (∀ t V, oi.dst = some t → F t = some V → V x w' ∧ newTo F oi.dst w x) → (oi.dst.bind F = none → x = v) →
        wpAny P md ops Q' (f + g) (d.setIfInBounds i true) (b.put oi.dst x) w' := by
      intro x w' hx hVx hxv
      refine any_of_headF hF hkeys hmade hsz hrange hL f _ (a.put oi.dst v) _ w' (by rw [size_put]; exact hb) (inv.set hi hin) ⟨hw.trans hx, ?_, ?_⟩ hk
      · refine ⟨by rw [defers_put, defers_put, hsame.1], by rw [size_put, size_put, hsame.2.1], fun t ht => ?_⟩
        cases hd : oi.dst with
        | none => exact hsame.2.2 t ht
        | some dd =>
          by_cases e : t = dd
          · subst e
            rw [hxv (by simp [hd, ht]), tmps_put_at, tmps_put_at, hsame.2.1]
          · rw [tmps_put _ _ _ _ e, tmps_put _ _ _ _ e]
            exact hsame.2.2 t ht
      · -- what stands in a slot of the next frame
        have at_new : ∀ t V, oi.dst = some t → F t = some V → (b.put oi.dst x).tmps[t]? = some x := by
          intro t V e hFt
          rw [e, tmps_put_at, if_pos (by rw [hb]; exact hrange t V hFt)]
        have at_old : ∀ t, oi.dst ≠ some t → (b.put oi.dst x).tmps[t]? = b.tmps[t]? := by
          intro t e
          cases hd : oi.dst with
          | none => rfl
          | some dd => exact tmps_put _ _ _ _ (fun e3 => e (by rw [hd, e3]))
        have was : ∀ j oj t V, ops[j]? = some oj → (d.setIfInBounds i true).getD j false = true → oj.dst = some t → F t = some V → oi.dst ≠ some t → d.getD j false = true := by
          intro j oj t V hoj hlj hdj hFt e
          have hji : j ≠ i := by
            intro e2
            subst e2
            obtain rfl : oj = oi := Option.some.inj (hoj.symm.trans hoi)
            exact e hdj
          rwa [getD_set_ne false (Ne.symm hji)] at hlj
        intro j oj t V hoj hlj hdj hFt
        by_cases e : oi.dst = some t
        · exact ⟨x, at_new t V e hFt, (hVx t V e hFt).1⟩
        · obtain ⟨u, hu, hVu⟩ := hV j oj t V hoj (was j oj t V hoj hlj hdj hFt e) hdj hFt
          exact ⟨u, by rw [at_old t e]; exact hu, hF t V hFt u w w' hVu hx⟩
    unfold wpOp
    simp only [hoi]
    by_cases hwt : Region.wanted oi (yielded ops b.tmps) = true
    · rw [if_pos hwt]
      refine .inl ?_
      have hm := hyes hwt
      unfold Oper.wp
      generalize (execOp b.eval oi).run P w = r at hm
      cases hbind : oi.dst.bind F with
      | none =>
        simp only [makesTo, hbind] at hm
        have hVx : ∀ (x : Value) (w' : World) t V, oi.dst = some t → F t = some V → V x w' ∧ newTo F oi.dst w x := by
          intro x w' t V h1 h2
          simp [h1, h2] at hbind
        cases r with
        | halt x w' => exact hm.elim
        | ok nx w' =>
          cases nx <;> simp only [quietTo] at hm
          case value u =>
            obtain ⟨rfl, rfl⟩ := hm
            exact next _ _ (Ext.refl _) (hVx _ _) (fun _ => rfl)
          case skip =>
            obtain ⟨rfl, rfl⟩ := hm
            exact next _ _ (Ext.refl _) (hVx _ _) (fun _ => rfl)
          case enter fn args =>
            obtain ⟨rfl, hcall⟩ := hm
            refine hcall.mono ?_
            rintro e w'' ⟨rfl, hx⟩
            exact next _ _ hx (hVx _ _) (fun _ => rfl)
      | some V =>
        simp only [makesTo, hbind] at hm
        obtain ⟨_, hm⟩ := hm
        have hnone : oi.dst.bind F = none → ∀ x : Value, x = v := fun h => by rw [hbind] at h; cases h
        have hVx : ∀ (x : Value) (w' : World), V x w' ∧ newTo F oi.dst w x → ∀ t V', oi.dst = some t → F t = some V' → V' x w' ∧ newTo F oi.dst w x := by
          intro x w' hx t V' h1 h2
          simp only [h1, Option.bind_some, h2, Option.some.injEq] at hbind
          rw [hbind]; exact hx
        cases r with
        | halt x w' => exact hm.elim
        | ok nx w' =>
          cases nx <;> simp only [freshTo] at hm
          case value u => exact next _ _ hm.1 (hVx _ _ hm.2) (fun h => hnone h _)
          case enter fn args =>
            obtain ⟨rfl, hcall⟩ := hm
            refine hcall.mono ?_
            rintro e w'' ⟨u, rfl, hx, hVu⟩
            exact next _ _ hx (hVx _ _ hVu) (fun h => hnone h _)
    · rw [if_neg hwt]
      have h3 := hno (by simpa using hwt)
      refine next _ _ (Ext.refl _) ?_ (fun _ => h3.1.symm)
      intro t V h1 h2
      have h4 := h3.2
      simp [h1, h2] at h4

/-- THE LAW. -/
theorem wp_made_tail_any {Q : Exit → Act → World → Prop} {a : Act} {w : World} {l : List Oper} (n : Nat) (keys : List Tmp) (F : Made) (_ : P.follows .mixedOrders = true)
    (hB : (Region.lexTailB .any l.toArray n && madeB .any l.toArray keys n && allMadeB l.toArray keys n) = true) (hkeys : ∀ t V, F t = some V → t ∈ keys) (hF : stays X F) (hrange : ∀ t ∈ keys, t < a.tmps.size)
    (h : wpMade X P l.toArray F w (fun a' => ∀ b w', Ext X w w' → Same F b a' → (∀ t V, F t = some V → ∃ u, b.tmps[t]? = some u ∧ V u w') → wpList P l.toArray Q (l.drop n) b w') (l.take n) a) :
    wpAny P .any l.toArray Q l.toArray.size (Array.replicate l.toArray.size false) a w.drew := by
  simp only [Bool.and_eq_true] at hB
  obtain ⟨⟨hB, hmade⟩, hallm⟩ := hB
  simp only [Region.lexTailB, Bool.and_eq_true, decide_eq_true_eq] at hB
  obtain ⟨⟨⟨⟨hsel, hn⟩, hs⟩, hc⟩, hlex⟩ := hB
  have hn' : n < l.length := by simpa using hn
  have htl : (l.take n).length = n := by simp; omega
  have hdl : (l.drop n).length = l.toArray.size - n := by simp
  have inv0 : HeadInv .any l.toArray n (Array.replicate l.toArray.size false) :=
    ⟨by simp, fun j oj _ hl => (by rw [getD_replicate_false] at hl; cases hl), fun t _ ht => getD_in (by simpa using ht) (getD_replicate_false _ _)⟩
  have H := headF_lex (md := .any) (g := l.toArray.size - n) hsel hs hc hn (l.take n) 0 _ a (fun j hj => by
    have hj' : j < n := by rw [htl] at hj; exact hj
    simp [hj']) (by simpa using htl) inv0 (fun i hi => absurd hi (Nat.not_lt_zero _)) (by rw [htl]; exact hlex) h
  have hfin := any_of_headF (Q' := Q) (g := l.toArray.size - n) (size := a.tmps.size) hF hkeys hmade (fun _ _ _ _ _ => trivial) (fun t V h => hrange t (hkeys t V h)) (fun d a' b w' _ hsim hL => by
    have mk : ∀ t V, F t = some V → ∃ i oi, l.toArray[i]? = some oi ∧ d.getD i false = true ∧ oi.dst = some t := by
      intro t V hFt
      have h5 := List.all_eq_true.1 hallm t (hkeys t V hFt)
      obtain ⟨i, hi, hi2⟩ := List.any_eq_true.1 h5
      simp only [beq_iff_eq] at hi2
      cases hoi : l.toArray[i]? with
      | none => simp [hoi] at hi2
      | some oi => exact ⟨i, oi, hoi, hL.1.2 i (List.mem_range.1 hi), by simpa [hoi] using hi2⟩
    have h2 := hL.2 b w' hsim.1 hsim.2.1 (fun t V hFt => by
      obtain ⟨i, oi, hoi, hdn, hdst⟩ := mk t V hFt
      exact hsim.2.2 i oi t V hoi hdn hdst hFt)
    have h4 := wpAny_of_seq (md := .any) (Q' := Q) (l.drop n) n d b w' (fun j => by simp [List.getElem?_drop]) (by rw [hdl]; exact hL.1.1) h2
    rwa [hdl] at h4) _ _ a a w.drew rfl inv0 ⟨Ext.drew w, ⟨rfl, rfl, fun _ _ => rfl⟩, fun i o t V _ hd => by rw [getD_replicate_false] at hd; cases hd⟩ H
  rw [htl, show n + (l.toArray.size - n) = l.toArray.size by omega] at hfin
  exact hfin

theorem wp_made_tail {id : Nat} {Q : Exit → Act → World → Prop} {a : Act} {w : World} {l : List Oper} (n : Nat) (keys : List Tmp) (F : Made) (hm : P.follows .mixedOrders = true)
    (hB : (Region.lexTailB .any l.toArray n && madeB .any l.toArray keys n && allMadeB l.toArray keys n) = true) (hkeys : ∀ t V, F t = some V → t ∈ keys) (hF : stays X F) (hrange : ∀ t ∈ keys, t < a.tmps.size)
    (h : wpMade X P l.toArray F w (fun a' => ∀ b w', Ext X w w' → Same F b a' → (∀ t V, F t = some V → ∃ u, b.tmps[t]? = some u ∧ V u w') → wpList P l.toArray Q (l.drop n) b w') (l.take n) a) :
    (Code.region id l.toArray true).wp P Q a w := wp_region_any hm (wp_made_tail_any n keys F hm hB hkeys hF hrange h)

/- FOR THE WALK -/
theorem Same.fix {a b : Act} {t : Tmp} {u : Value} (h : Same F b a) (hu : b.tmps[t]? = some u) : Same (fun s => if s = t then none else F s) b (a.put (some t) u) := by
  have ht : t < b.tmps.size := by
    rcases Nat.lt_or_ge t b.tmps.size with h | h
    · exact h
    · rw [Array.getElem?_eq_none h] at hu; cases hu
  refine ⟨by rw [defers_put]; exact h.1, by rw [size_put]; exact h.2.1, fun s hs => ?_⟩
  by_cases e : s = t
  · subst e
    rw [tmps_put_at, if_pos (by rw [← h.2.1]; exact ht), hu]
  · rw [tmps_put _ _ _ _ e]
    exact h.2.2 s (by simpa [e] using hs)
theorem Same.eq {a b : Act} (h : Same F b a) (hF : ∀ s, F s = none) : b = a := by
  obtain ⟨bt, bd⟩ := b
  obtain ⟨at', ad⟩ := a
  obtain ⟨h1, _, h3⟩ := h
  have h4 : bt = at' := Array.ext_getElem? fun i => h3 i (hF i)
  cases h1; cases h4; rfl
theorem Same.eval {a b : Act} (h : Same F b a) {x : Operand} (hx : ∀ t, x = .tmp t → F t = none) : b.eval x = a.eval x := by
  cases x with
  | tmp t =>
    have h1 := h.2.2 t (hx t rfl)
    show b.tmps.getD t undef = a.tmps.getD t undef
    rw [Array.getD_eq_getD_getElem?, Array.getD_eq_getD_getElem?, h1]
  | _ => rfl
omit [RelOk X] in
theorem does_of {o : Oper} {v : Value} {a : Act} (hs : ∀ cs b, o.op ≠ .select cs b) (hg : o.guard = none) (hl : ∀ x ∈ o.op.operands, ∀ t, x = .tmp t → F t = none)
    (h : ∀ w, Ext X w0 w → makesTo X P F o.dst (o.dst.bind F) v w ((execOp a.eval o).run P w)) : Does X P ops F w0 o v a := by
  intro b w hw hb _
  have e : execOp b.eval o = execOp a.eval o := execOp_congr o hs fun x hx => hb.eval (hl x hx)
  have hwt : Region.wanted o (yielded ops b.tmps) = true := by unfold Region.wanted; rw [hg]
  rw [e]
  exact ⟨fun _ => h w hw, fun h2 => by rw [hwt] at h2; cases h2⟩
end
end Go.Proofs.Ytidiepbmbbflhaa.Fre
