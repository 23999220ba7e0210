/- FreMade's law, where what an operation may do to the world is told by the slot that it writes. Printed by gen/two.py. What class.add needs: bytes.Equal; the class of a text; what adding tells, plain, case for case. spencekit.DrvsOf; spencelaw19.great. Derivations as an argument, opened. An append in a drawn region, wherever it stands: the row that it turns is one of one's own (law Two.wp_made). A struct built of parts of many cells: the parts take the places of the zero ones. spencelaw19.named. class.add. -/
import Derived.Test.YtidiepbmbbflhaaMG5
import Derived.Test.YtidiepbmbbflhaaBase3
import Derived.Test.YtidiepbmbbflhaaGrow
import Derived.Test.YtidiepbmbbflhaaMG3
import Derived.Test.YtidiepbmbbflhaaMG2
import Derived.Test.YtidiepbmbbflhaaMG4
import Derived.Test.YtidiepbmbbflhaaBuild
section
namespace Go.Proofs.Ytidiepbmbbflhaa.Two
open Go Go.RowKit
/-- slot by slot, what a made thing is -/
abbrev MadeL := List (Tmp × (Value → World → Prop))
def madeBy (L : MadeL) : Made := fun t => (L.find? (fun p => p.1 == t)).map (·.2)
/-- what is made stays X so, and lies somewhere -/
structure MadeOk (Y : Option Tmp → World → World → Prop) (ex : List (Tmp × Tmp)) (t : Tmp) (V : Value → World → Prop) : Prop where
  stays : ∀ d, d ≠ some t → (∀ s, (t, s) ∈ ex → d ≠ some s) → ∀ u w w', V u w → Y d w w' → V u w'
theorem madeBy_mem {L : MadeL} {t : Tmp} {V : Value → World → Prop} (h : madeBy L t = some V) : (t, V) ∈ L := by
  unfold madeBy at h
  cases hf : L.find? (fun p => p.1 == t) with
  | none => rw [hf] at h; cases h
  | some p =>
    rw [hf] at h
    obtain rfl := Option.some.inj h
    have h1 := List.mem_of_find?_eq_some hf
    have h2 := List.find?_some hf
    simp only [beq_iff_eq] at h2
    obtain ⟨a, b⟩ := p
    subst h2
    exact h1
theorem madeBy_cons (t : Tmp) (V : Value → World → Prop) (L : MadeL) (s : Tmp) : madeBy ((t, V) :: L) s = if t = s then some V else madeBy L s := by
  unfold madeBy
  by_cases h : t = s
  · simp [h]
  · simp [h]
theorem madeBy_look : ∀ {L : MadeL} {t : Tmp} {V : Value → World → Prop}, (L.map (·.1)).Nodup → (t, V) ∈ L → madeBy L t = some V
  | [], _, _, _, hm => by cases hm
  | (t', V') :: L, t, V, hn, hm => by
    simp only [List.map_cons, List.nodup_cons] at hn
    rw [madeBy_cons]
    rcases List.mem_cons.1 hm with hm | hm
    · injection hm with e1 e2
      subst e1 e2
      rw [if_pos rfl]
    · rw [if_neg (fun e => hn.1 (List.mem_map.2 ⟨_, hm, e.symm⟩))]
      exact madeBy_look hn.2 hm
theorem madeBy_none {L : MadeL} {t : Tmp} (h : (L.map (·.1)).contains t = false) : madeBy L t = none := by
  cases hm : madeBy L t with
  | none => rfl
  | some V =>
    have h1 := madeBy_mem hm
    have h2 : (L.map (·.1)).contains t = true := by
      rw [List.contains_iff_mem]
      exact List.mem_map.2 ⟨_, h1, rfl⟩
    rw [h2] at h; cases h
section
variable {P : Program} {ops : Array Oper} {L : MadeL} {w0 : World} {rest : List Oper} {o : Oper} {a : Act} {Q : Act → Prop} {X : World → World → Prop} {Y : Option Tmp → World → World → Prop} [RelOk X] [RelY X Y]
omit [RelOk X] [RelY X Y] in
theorem stays_by {ex : List (Tmp × Tmp)} (hL : ∀ p ∈ L, MadeOk Y ex p.1 p.2) : stays Y ex (madeBy L) := fun _ _ hV d hd he u w w' hu hw => (hL _ (madeBy_mem hV)).stays d hd he u w w' hu hw
/-- an operation that looks at no made slot but t, and is no select -/
def looksB (keys : List Tmp) (ops : Array Oper) (o : Oper) : Bool := (match o.op with | .select _ _ => false | _ => true) && (o.looksAt ops).all fun s => !keys.contains s
theorem looksB_sel {keys : List Tmp} (h : looksB keys ops o = true) : ∀ cs b, o.op ≠ .select cs b := by
  intro cs b e
  unfold looksB at h
  rw [e] at h
  cases h
theorem looksB_opd {keys : List Tmp} (h : looksB keys ops o = true) {x : Operand} (hx : x ∈ o.op.operands) {t : Tmp} (e : x = .tmp t) : keys.contains t = false := by
  simp only [looksB, Bool.and_eq_true] at h
  have h2 := List.all_eq_true.1 h.2 t (by
    unfold Oper.looksAt
    exact List.mem_append_left _ (List.mem_filterMap.2 ⟨x, by simpa using hx, by rw [e]⟩))
  simpa using h2
theorem looksB_guard {keys : List Tmp} (h : looksB keys ops o = true) {g : Nat} {y : Bool} (hg : o.guard = some (g, y)) {t : Tmp} (ht : (ops[g]?).bind (·.dst) = some t) : keys.contains t = false := by
  simp only [looksB, Bool.and_eq_true] at h
  have h2 := List.all_eq_true.1 h.2 t (by
    unfold Oper.looksAt
    refine List.mem_append_right _ ?_
    rw [hg]
    simp [ht])
  simpa using h2
theorem wanted_same {F : Made} {b : Act} (hb : Same F b a) (hg : ∀ g x, o.guard = some (g, x) → ∀ t, (ops[g]?).bind (·.dst) = some t → F t = none) : Region.wanted o (yielded ops b.tmps) = Region.wanted o (yielded ops a.tmps) := by
  unfold Region.wanted
  cases hgd : o.guard with
  | none => rfl
  | some p =>
    obtain ⟨g, x⟩ := p
    simp only
    unfold yielded
    cases ht : (ops[g]?).bind (·.dst) with
    | none => rfl
    | some t => simp only [Option.bind_some, hb.2.2 t (hg g x hgd t ht)]
theorem looksB_wanted {b : Act} (hB : looksB (L.map (·.1)) ops o = true) (hb : Same (madeBy L) b a) : Region.wanted o (yielded ops b.tmps) = Region.wanted o (yielded ops a.tmps) :=
  wanted_same hb fun _ _ hg _ ht => madeBy_none (looksB_guard hB hg ht)
theorem looksB_exec {b : Act} (hB : looksB (L.map (·.1)) ops o = true) (hb : Same (madeBy L) b a) : execOp b.eval o = execOp a.eval o :=
  execOp_congr o (looksB_sel hB) fun _ hx => hb.eval fun _ e => madeBy_none (looksB_opd hB hx e)

omit [RelOk X] [RelY X Y] in
/-- an operation that hands on a value -/
theorem made_val (v : Value) (hB : looksB (L.map (·.1)) ops o = true) (hw : Region.wanted o (yielded ops a.tmps) = true) (hd : o.dst.bind (madeBy L) = none)
    (hrun : ∀ w, Ext X w0 w → (execOp a.eval o).run P w = .ok (.value v) w) (h : wpMade X Y P ops (madeBy L) w0 Q rest (a.put o.dst v)) : wpMade X Y P ops (madeBy L) w0 Q (o :: rest) a := by
  refine ⟨v, fun b w hx hb _ => ⟨fun _ => ?_, fun h2 => ?_⟩, h⟩
  · rw [hd, looksB_exec hB hb, hrun w hx]
    exact ⟨rfl, rfl⟩
  · rw [looksB_wanted hB hb, hw] at h2; cases h2
omit [RelOk X] [RelY X Y] in
/-- an operation that is not wanted -/
theorem made_skip (hB : looksB (L.map (·.1)) ops o = true) (hw : Region.wanted o (yielded ops a.tmps) = false) (hd : o.dst.bind (madeBy L) = none)
    (h : wpMade X Y P ops (madeBy L) w0 Q rest (a.put o.dst undef)) : wpMade X Y P ops (madeBy L) w0 Q (o :: rest) a := by
  refine ⟨undef, fun b w hx hb _ => ⟨fun h2 => ?_, fun _ => ⟨rfl, hd⟩⟩, h⟩
  rw [looksB_wanted hB hb, hw] at h2; cases h2
omit [RelOk X] [RelY X Y] in
/-- a call that makes at most memory, and hands on a value -/
theorem made_call (v : Value) (f : Nat) (args : Array Value) (hB : looksB (L.map (·.1)) ops o = true) (hw : Region.wanted o (yielded ops a.tmps) = true) (hd : o.dst.bind (madeBy L) = none)
    (hrun : ∀ w, (execOp a.eval o).run P w = .ok (.enter f args) w) (hc : ∀ w, Ext X w0 w → Calls P f args w fun e w' => e = .returned v ∧ Y o.dst w w')
    (h : wpMade X Y P ops (madeBy L) w0 Q rest (a.put o.dst v)) : wpMade X Y P ops (madeBy L) w0 Q (o :: rest) a := by
  refine ⟨v, fun b w hx hb _ => ⟨fun _ => ?_, fun h2 => ?_⟩, h⟩
  · rw [hd, looksB_exec hB hb, hrun w]
    exact ⟨rfl, hc w hx⟩
  · rw [looksB_wanted hB hb, hw] at h2; cases h2
omit [RelOk X] [RelY X Y] in
/-- an operation that makes something -/
theorem made_new (t : Tmp) (V : Value → World → Prop) (hB : looksB (L.map (·.1)) ops o = true) (hw : Region.wanted o (yielded ops a.tmps) = true) (hd : o.dst = some t) (hV : madeBy L t = some V)
    (hrun : ∀ w, Ext X w0 w → ∃ u w', (execOp a.eval o).run P w = .ok (.value u) w' ∧ Y o.dst w w' ∧ V u w')
    (h : wpMade X Y P ops (madeBy L) w0 Q rest (a.put o.dst undef)) : wpMade X Y P ops (madeBy L) w0 Q (o :: rest) a := by
  refine ⟨undef, fun b w hx hb _ => ⟨fun _ => ?_, fun h2 => ?_⟩, h⟩
  · obtain ⟨u, w', h1, h2, h3⟩ := hrun w hx
    rw [hd, Option.bind_some, hV, looksB_exec hB hb, h1]
    exact ⟨rfl, hd ▸ h2, h3⟩
  · rw [looksB_wanted hB hb, hw] at h2; cases h2
omit [RelOk X] [RelY X Y] in
/-- a call that makes something -/
theorem made_newcall (t : Tmp) (V : Value → World → Prop) (f : Nat) (args : Array Value) (hB : looksB (L.map (·.1)) ops o = true) (hw : Region.wanted o (yielded ops a.tmps) = true) (hd : o.dst = some t) (hV : madeBy L t = some V)
    (hrun : ∀ w, (execOp a.eval o).run P w = .ok (.enter f args) w) (hc : ∀ w, Ext X w0 w → Calls P f args w fun e w' => ∃ u, e = .returned u ∧ Y o.dst w w' ∧ V u w')
    (h : wpMade X Y P ops (madeBy L) w0 Q rest (a.put o.dst undef)) : wpMade X Y P ops (madeBy L) w0 Q (o :: rest) a := by
  refine ⟨undef, fun b w hx hb _ => ⟨fun _ => ?_, fun h2 => ?_⟩, h⟩
  · rw [hd, Option.bind_some, hV, looksB_exec hB hb, hrun w]
    refine ⟨rfl, rfl, (hc w hx).mono ?_⟩
    rintro e w' ⟨u, h1, h2, h3⟩
    exact ⟨u, h1, hd ▸ h2, h3⟩
  · rw [looksB_wanted hB hb, hw] at h2; cases h2

/-- the same, of an operation that looks at one made slot -/
def looksB1 (s : Tmp) (keys : List Tmp) (ops : Array Oper) (o : Oper) : Bool := (match o.op with | .select _ _ => false | _ => true) && (o.op.operands.toList.all fun x => match x with | .tmp t => t == s || !keys.contains t | _ => true) &&
  (match o.guard with | some (g, _) => ((ops[g]?).bind (·.dst)).toList.all fun t => !keys.contains t | none => true) && (o.looksAt ops).contains s
theorem looksB1_wanted {s : Tmp} {b : Act} (hB : looksB1 s (L.map (·.1)) ops o = true) (hb : Same (madeBy L) b a) : Region.wanted o (yielded ops b.tmps) = Region.wanted o (yielded ops a.tmps) := by
  refine wanted_same hb fun g _ hg t ht => madeBy_none ?_
  simp only [looksB1, Bool.and_eq_true] at hB
  have h := hB.1.2
  rw [hg] at h
  simpa [ht] using h
theorem looksB1_exec {s : Tmp} {u : Value} {b : Act} (hB : looksB1 s (L.map (·.1)) ops o = true) (hb : Same (madeBy L) b a) (hu : b.tmps[s]? = some u) : execOp b.eval o = execOp (a.put (some s) u).eval o := by
  simp only [looksB1, Bool.and_eq_true] at hB
  refine execOp_congr o ?_ fun x hx => ?_
  · intro cs d e
    have h := hB.1.1.1
    rw [e] at h
    cases h
  · refine (hb.fix hu).eval fun t e => ?_
    have h := List.all_eq_true.1 hB.1.1.2 x (by simpa using hx)
    rw [e] at h
    simp only [Bool.or_eq_true, beq_iff_eq, Bool.not_eq_true'] at h
    rcases h with h | h
    · rw [if_pos h]
    · split
      · rfl
      · exact madeBy_none h
theorem looksB1_holds {s : Tmp} {V : Value → World → Prop} {b : Act} {w : World} (hB : looksB1 s (L.map (·.1)) ops o = true) (hV : madeBy L s = some V) (hh : Holds (madeBy L) (o.looksAt ops) b w) : ∃ u, b.tmps[s]? = some u ∧ V u w := by
  simp only [looksB1, Bool.and_eq_true] at hB
  exact hh s (by simpa using hB.2) V hV
omit [RelOk X] [RelY X Y] in
theorem made_val1 (s : Tmp) (V : Value → World → Prop) (v : Value) (hB : looksB1 s (L.map (·.1)) ops o = true) (hV : madeBy L s = some V) (hw : Region.wanted o (yielded ops a.tmps) = true) (hd : o.dst.bind (madeBy L) = none)
    (hrun : ∀ u w, Ext X w0 w → V u w → (execOp (a.put (some s) u).eval o).run P w = .ok (.value v) w) (h : wpMade X Y P ops (madeBy L) w0 Q rest (a.put o.dst v)) : wpMade X Y P ops (madeBy L) w0 Q (o :: rest) a := by
  refine ⟨v, fun b w hx hb hh => ⟨fun _ => ?_, fun h2 => ?_⟩, h⟩
  · obtain ⟨u, hu, hVu⟩ := looksB1_holds hB hV hh
    rw [hd, looksB1_exec hB hb hu, hrun u w hx hVu]
    exact ⟨rfl, rfl⟩
  · rw [looksB1_wanted hB hb, hw] at h2; cases h2
omit [RelOk X] [RelY X Y] in
theorem made_call1 (s : Tmp) (V : Value → World → Prop) (v : Value) (f : Nat) (args : Value → Array Value) (hB : looksB1 s (L.map (·.1)) ops o = true) (hV : madeBy L s = some V) (hw : Region.wanted o (yielded ops a.tmps) = true) (hd : o.dst.bind (madeBy L) = none)
    (hrun : ∀ u w, (execOp (a.put (some s) u).eval o).run P w = .ok (.enter f (args u)) w) (hc : ∀ u w, Ext X w0 w → V u w → Calls P f (args u) w fun e w' => e = .returned v ∧ Y o.dst w w')
    (h : wpMade X Y P ops (madeBy L) w0 Q rest (a.put o.dst v)) : wpMade X Y P ops (madeBy L) w0 Q (o :: rest) a := by
  refine ⟨v, fun b w hx hb hh => ⟨fun _ => ?_, fun h2 => ?_⟩, h⟩
  · obtain ⟨u, hu, hVu⟩ := looksB1_holds hB hV hh
    rw [hd, looksB1_exec hB hb hu, hrun u w]
    exact ⟨rfl, hc u w hx hVu⟩
  · rw [looksB1_wanted hB hb, hw] at h2; cases h2
omit [RelOk X] [RelY X Y] in
/-- what is made out of one made thing -/
theorem made_new1 (s : Tmp) (V : Value → World → Prop) (t : Tmp) (V' : Value → World → Prop) (hB : looksB1 s (L.map (·.1)) ops o = true) (hV : madeBy L s = some V) (hw : Region.wanted o (yielded ops a.tmps) = true) (hd : o.dst = some t) (hV' : madeBy L t = some V')
    (hrun : ∀ u w, Ext X w0 w → V u w → ∃ u' w', (execOp (a.put (some s) u).eval o).run P w = .ok (.value u') w' ∧ Y o.dst w w' ∧ V' u' w')
    (h : wpMade X Y P ops (madeBy L) w0 Q rest (a.put o.dst undef)) : wpMade X Y P ops (madeBy L) w0 Q (o :: rest) a := by
  refine ⟨undef, fun b w hx hb hh => ⟨fun _ => ?_, fun h2 => ?_⟩, h⟩
  · obtain ⟨u, hu, hVu⟩ := looksB1_holds hB hV hh
    obtain ⟨u', w', h1, h2, h3⟩ := hrun u w hx hVu
    rw [hd, Option.bind_some, hV', looksB1_exec hB hb hu, h1]
    exact ⟨rfl, hd ▸ h2, h3⟩
  · rw [looksB1_wanted hB hb, hw] at h2; cases h2

/-- the end: the made things, one by one, in their slots -/
def ended : MadeL → World → Act → (Act → Prop) → Prop
  | [], _, a, K => K a
  | (t, V) :: L, w, a, K => ∀ u, V u w → ended L w (a.put (some t) u) K
theorem ended_elim (K : Act → Prop) (w : World) : ∀ (L : MadeL) (a b : Act), Same (madeBy L) b a → (L.map (·.1)).Nodup → (∀ t V, (t, V) ∈ L → ∃ u, b.tmps[t]? = some u ∧ V u w) → ended L w a K → K b
  | [], a, b, hs, _, _, h => by
    obtain rfl := hs.eq (fun _ => rfl)
    exact h
  | (t, V) :: L, a, b, hs, hn, hh, h => by
    obtain ⟨u, hu, hVu⟩ := hh t V (by simp)
    have h2 := h u hVu
    simp only [List.map_cons, List.nodup_cons] at hn
    refine ended_elim K w L _ b ?_ hn.2 (fun s V' hm => hh s V' (by simp [hm])) h2
    have h3 := hs.fix hu
    refine ⟨h3.1, h3.2.1, fun s hs' => h3.2.2 s ?_⟩
    show (if s = t then none else madeBy ((t, V) :: L) s) = none
    split
    · rfl
    · rename_i hne
      rw [madeBy_cons, if_neg (Ne.symm hne)]
      exact hs'
/-- THE LAW -/
theorem wp_made_any {Q : Exit → Act → World → Prop} {a : Act} {w : World} {l : List Oper} (n : Nat) (ex : List (Tmp × Tmp)) (hex : exB .any l.toArray ex = true) (L : MadeL) (hm : P.follows .mixedOrders = true)
    (hB : (Region.lexTailB .any l.toArray n && madeB .any l.toArray (L.map (·.1)) n && allMadeB l.toArray (L.map (·.1)) n) = true) (hL : ∀ p ∈ L, MadeOk Y ex p.1 p.2) (hn : (L.map (·.1)).Nodup) (hrange : ∀ t ∈ L.map (·.1), t < a.tmps.size)
    (h : wpMade X Y P l.toArray (madeBy L) w (fun a' => ∀ w', Ext X w w' → ended L w' a' fun b => wpList P l.toArray Q (l.drop n) b w') (l.take n) a) :
    wpAny P .any l.toArray Q l.toArray.size (Array.replicate l.toArray.size false) a w.drew := by
  refine wp_made_tail_any (X := X) n (L.map (·.1)) ex hex (madeBy L) hm hB (fun t V hV => List.mem_map.2 ⟨_, madeBy_mem hV, rfl⟩) (stays_by hL) hrange ?_
  have e : ∀ (rest : List Oper) (a : Act), wpMade X Y P l.toArray (madeBy L) w (fun a' => ∀ w', Ext X w w' → ended L w' a' fun b => wpList P l.toArray Q (l.drop n) b w') rest a →
      wpMade X Y P l.toArray (madeBy L) w (fun a' => ∀ b w', Ext X w w' → Same (madeBy L) b a' → (∀ t V, madeBy L t = some V → ∃ u, b.tmps[t]? = some u ∧ V u w') → wpList P l.toArray Q (l.drop n) b w') rest a := by
    intro rest
    induction rest with
    | nil =>
      intro a h b w' hx hs hh
      exact ended_elim _ w' L a b hs hn (fun t V hm => hh t V (madeBy_look hn hm)) (h w' hx)
    | cons o rest ih =>
      intro a h
      obtain ⟨v, h1, h2⟩ := h
      exact ⟨v, h1, ih _ h2⟩
  exact e _ _ h

theorem wp_made {id : Nat} {Q : Exit → Act → World → Prop} {a : Act} {w : World} {l : List Oper} (n : Nat) (ex : List (Tmp × Tmp)) (hex : exB .any l.toArray ex = true) (L : MadeL) (hm : P.follows .mixedOrders = true)
    (hB : (Region.lexTailB .any l.toArray n && madeB .any l.toArray (L.map (·.1)) n && allMadeB l.toArray (L.map (·.1)) n) = true) (hL : ∀ p ∈ L, MadeOk Y ex p.1 p.2) (hn : (L.map (·.1)).Nodup) (hrange : ∀ t ∈ L.map (·.1), t < a.tmps.size)
    (h : wpMade X Y P l.toArray (madeBy L) w (fun a' => ∀ w', Ext X w w' → ended L w' a' fun b => wpList P l.toArray Q (l.drop n) b w') (l.take n) a) :
    (Code.region id l.toArray true).wp P Q a w := wp_region_any hm (wp_made_any n ex hex L hm hB hL hn hrange h)

end
section
variable {P : Program} {ops : Array Oper} {L : MadeL} {w0 : World} {rest : List Oper} {o : Oper} {a : Act} {Q : Act → Prop} {X : World → World → Prop} {Y : Option Tmp → World → World → Prop} [RelOk X] [RelY X Y]
def looksB2 (s r : Tmp) (keys : List Tmp) (ops : Array Oper) (o : Oper) : Bool := (match o.op with | .select _ _ => false | _ => true) && (o.op.operands.toList.all fun x => match x with | .tmp t => t == s || t == r || !keys.contains t | _ => true) &&
  (match o.guard with | some (g, _) => ((ops[g]?).bind (·.dst)).toList.all fun t => !keys.contains t | none => true) && (o.looksAt ops).contains s && (o.looksAt ops).contains r
theorem looksB2_wanted {s r : Tmp} {b : Act} (hB : looksB2 s r (L.map (·.1)) ops o = true) (hb : Same (madeBy L) b a) : Region.wanted o (yielded ops b.tmps) = Region.wanted o (yielded ops a.tmps) := by
  refine wanted_same hb fun g _ hg t ht => madeBy_none ?_
  simp only [looksB2, Bool.and_eq_true] at hB
  have h := hB.1.1.2
  rw [hg] at h
  simpa [ht] using h
theorem looksB2_exec {s r : Tmp} {u v : Value} {b : Act} (hB : looksB2 s r (L.map (·.1)) ops o = true) (hb : Same (madeBy L) b a) (hu : b.tmps[s]? = some u) (hv : b.tmps[r]? = some v) : execOp b.eval o = execOp ((a.put (some s) u).put (some r) v).eval o := by
  simp only [looksB2, Bool.and_eq_true] at hB
  refine execOp_congr o ?_ fun x hx => ?_
  · intro cs d e
    have h := hB.1.1.1.1
    rw [e] at h
    cases h
  · refine ((hb.fix hu).fix hv).eval fun t e => ?_
    have h := List.all_eq_true.1 hB.1.1.1.2 x (by simpa using hx)
    rw [e] at h
    simp only [Bool.or_eq_true, beq_iff_eq, Bool.not_eq_true'] at h
    rcases h with (h | h) | h
    · split
      · rfl
      · first | rfl | rw [if_pos h]
    · rw [if_pos h]
    · split
      · rfl
      · split
        · rfl
        · exact madeBy_none h
theorem looksB2_holds {s r : Tmp} {V V2 : Value → World → Prop} {b : Act} {w : World} (hB : looksB2 s r (L.map (·.1)) ops o = true) (hV : madeBy L s = some V) (hV2 : madeBy L r = some V2) (hh : Holds (madeBy L) (o.looksAt ops) b w) : (∃ u, b.tmps[s]? = some u ∧ V u w) ∧ ∃ u, b.tmps[r]? = some u ∧ V2 u w := by
  simp only [looksB2, Bool.and_eq_true] at hB
  exact ⟨hh s (by simpa using hB.1.2) V hV, hh r (by simpa using hB.2) V2 hV2⟩
omit [RelOk X] [RelY X Y] in
/-- what is made out of two made things -/
theorem made_new2 (s r : Tmp) (V V2 : Value → World → Prop) (t : Tmp) (V' : Value → World → Prop) (hB : looksB2 s r (L.map (·.1)) ops o = true) (hV : madeBy L s = some V) (hV2 : madeBy L r = some V2) (hw : Region.wanted o (yielded ops a.tmps) = true) (hd : o.dst = some t) (hV' : madeBy L t = some V')
    (hrun : ∀ u v w, Ext X w0 w → V u w → V2 v w → ∃ u' w', (execOp ((a.put (some s) u).put (some r) v).eval o).run P w = .ok (.value u') w' ∧ Y o.dst w w' ∧ V' u' w')
    (h : wpMade X Y P ops (madeBy L) w0 Q rest (a.put o.dst undef)) : wpMade X Y P ops (madeBy L) w0 Q (o :: rest) a := by
  refine ⟨undef, fun b w hx hb hh => ⟨fun _ => ?_, fun h2 => ?_⟩, h⟩
  · obtain ⟨⟨u, hu, hVu⟩, v, hv, hVv⟩ := looksB2_holds hB hV hV2 hh
    obtain ⟨u', w', h1, h2, h3⟩ := hrun u v w hx hVu hVv
    rw [hd, Option.bind_some, hV', looksB2_exec hB hb hu hv, h1]
    exact ⟨rfl, hd ▸ h2, h3⟩
  · rw [looksB2_wanted hB hb, hw] at h2; cases h2
end
section
variable {P : Program} {ops : Array Oper} {md : Region.Mode} {F : Made} {w0 : World} {X : World → World → Prop} {Y : Option Tmp → World → World → Prop} [RelOk X] [RelY X Y]
theorem all_lt {n j : Nat} {d : Array Bool} (hn : n = ops.size) (hj : j ∈ Region.ready md ops d) : j < n := by
  obtain ⟨_, oj, hoj, _⟩ := mem_ready.1 hj
  rw [hn]
  exact (Array.getElem?_eq_some_iff.1 hoj).1
omit [RelOk X] [RelY X Y] in
theorem headF_firstA {n i : Nat} {oi : Oper} {v : Value} {L : Array Bool → Act → Prop} (hi : ops[i]? = some oi) (hsel : ∀ (j : Nat) (o : Oper) cs b, ops[j]? = some o → o.op ≠ .select cs b)
    (hn : n = ops.size) (hin : i < n) (hdone : ∀ d a, L d a → ∀ j ∈ Region.ready md ops d, n ≤ j) (f : Nat) :
    ∀ (d : Array Bool) (a : Act), HeadInv md ops n d →
      (∀ j oj, ops[j]? = some oj → j ≠ i → d.getD j true = false → (∀ e ∈ oj.after, Region.binds md e = true → e.on ≠ i) → oi.apart ops oj = true) →
      i ∈ Region.ready md ops d → Does X Y P ops F w0 oi v a →
      headF X Y P md ops F w0 n L f (d.setIfInBounds i true) (a.put oi.dst v) → headF X Y P md ops F w0 n L (f + 1) d a := by
  have own : ∀ (K : Act → Prop) (a : Act), Does X Y P ops F w0 oi v a → K (a.put oi.dst v) → absOp X Y P ops F w0 i K a := by
    intro K a hy hk
    unfold absOp
    simp only [hi]
    exact ⟨v, hy, hk⟩
  induction f with
  | zero =>
    intro d a inv _ hr hy H
    refine ⟨List.ne_nil_of_mem hr, fun j hj => ?_⟩
    have hjn := all_lt hn hj
    refine ⟨hjn, ?_⟩
    rcases Nat.decEq j i with hji | hji
    · exact absurd (hdone _ _ H j (ready_mono hj hji)) (by omega)
    · subst hji
      exact own _ _ hy H
  | succ f ih =>
    intro d a inv hfree hr hy H
    refine ⟨List.ne_nil_of_mem hr, fun j hj => ?_⟩
    have hjn := all_lt hn hj
    refine ⟨hjn, ?_⟩
    rcases Nat.decEq j i with hji | hji
    · obtain ⟨hjun, oj, hoj, hall⟩ := mem_ready.1 hj
      have hnot : ∀ e ∈ oj.after, Region.binds md e = true → e.on ≠ i := by
        intro e he hb heq
        have h1 := hall e he hb
        rw [heq, getD_both (mem_ready.1 hr).1] at h1
        cases h1
      have hstep := absOp_put hoj (hfree j oj hoj hji hjun hnot) (fun cs b => hsel i oi cs b hi) (fun cs b => hsel j oj cs b hoj) hy (H.2 j (ready_mono hj hji)).2
      refine absOp_mono (fun a' h3 => ih (d.setIfInBounds j true) a' (inv.set hj hjn) ?_ (ready_mono hr (Ne.symm hji)) h3.1 ?_) hstep
      · intro k ok hk hki hunk hno
        refine hfree k ok hk hki ?_ hno
        rcases Nat.decEq j k with hjk | hjk
        · rwa [getD_set_ne true hjk] at hunk
        · subst hjk
          exact hjun
      · rw [Array.setIfInBounds_comm _ _ hji]
        exact h3.2
    · subst hji
      exact own _ _ hy H

omit [RelOk X] [RelY X Y] in
theorem headF_lexA {n g : Nat} {Lq : Act → Prop} (hsel : Region.noSelect ops = true) (hn : n = ops.size) :
    ∀ (l : List Oper) (k : Nat) (d : Array Bool) (a : Act), (∀ j, j < l.length → l[j]? = ops[k + j]?) → k + l.length = n → HeadInv md ops n d → (∀ i, i < k → d.getD i false = true) →
    Region.lexHead md ops g l.length k d = true → wpMade X Y P ops F w0 Lq l a →
    headF X Y P md ops F w0 n (fun d' a' => (Region.seqB md ops g n d' = true ∧ ∀ i, i < n → d'.getD i false = true) ∧ Lq a') l.length d a
  | [], k, d, a, _, hk, _, hd, hB, h => by
    obtain rfl : k = n := by simpa using hk
    exact ⟨⟨by simpa [Region.lexHead] using hB, hd⟩, h⟩
  | o :: l, k, d, a, hl, hk, inv, hd, hB, h => by
    have h0 : ops[k]? = some o := by simpa using (hl 0 (by simp)).symm
    simp only [List.length_cons, Region.lexHead, Bool.and_eq_true] at hB
    obtain ⟨⟨hr, hf⟩, hB'⟩ := hB
    have hkn : k < n := by simp only [List.length_cons] at hk; omega
    have hr' : k ∈ Region.ready md ops d := by simpa using hr
    obtain ⟨v, hy, hK⟩ := h
    refine headF_firstA h0 (Region.noSelect_spec hsel) hn hkn (fun d' a' hL => seqB_ready hL.1.1) l.length d a inv (Region.free_spec h0 hf) hr' hy ?_
    refine headF_lexA hsel hn l (k + 1) _ _ (fun j hj => ?_) (by simp only [List.length_cons] at hk; omega) (inv.set hr' hkn) (fun i hi => ?_) hB' hK
    · have := hl (j + 1) (by simp; omega)
      simpa [Nat.add_assoc, Nat.add_comm 1 j] using this
    · by_cases e : k = i
      · subst e
        have : k < d.size := by rw [inv.size]; omega
        simp [this]
      · rw [getD_set_ne false e]
        exact hd i (by omega)

/-- THE LAW. -/
theorem wp_made_tailA {id : Nat} {Q : Exit → Act → World → Prop} {a : Act} {w : World} {l : List Oper} (ex : List (Tmp × Tmp)) (hex : exB .any l.toArray ex = true) (keys : List Tmp) (F : Made) (hm : P.follows .mixedOrders = true)
    (hB : (Region.noSelect l.toArray && Region.lexHead .any l.toArray 0 l.length 0 (Array.replicate l.toArray.size false) && madeB .any l.toArray keys l.length && allMadeB l.toArray keys l.length) = true) (hkeys : ∀ t V, F t = some V → t ∈ keys) (hF : stays Y ex F) (hrange : ∀ t ∈ keys, t < a.tmps.size)
    (h : wpMade X Y P l.toArray F w (fun a' => ∀ b w', Ext X w w' → Same F b a' → (∀ t V, F t = some V → ∃ u, b.tmps[t]? = some u ∧ V u w') → Q .normal b w') l a) :
    (Code.region id l.toArray true).wp P Q a w := by
  simp only [Bool.and_eq_true] at hB
  obtain ⟨⟨⟨hsel, hlex⟩, hmade⟩, hallm⟩ := hB
  have inv0 : HeadInv .any l.toArray l.length (Array.replicate l.toArray.size false) :=
    ⟨by simp, fun j oj _ hl => (by rw [getD_replicate_false] at hl; cases hl), fun t ht ht' => absurd ht' (by simp; omega)⟩
  have H := headF_lexA (md := .any) (g := 0) (n := l.length) hsel (by simp) l 0 _ a (fun j hj => by simp) (by simp) inv0 (fun i hi => absurd hi (Nat.not_lt_zero _)) hlex h
  refine wp_region_any hm ?_
  have hfin := any_of_headF (Q' := Q) (g := 0) (size := a.tmps.size) ex hex hF hkeys hmade (fun _ _ _ _ _ => trivial) (fun t V h => hrange t (hkeys t V h)) (fun d a' b w' _ hsim hL => by
    have mk : ∀ t V, F t = some V → ∃ i oi, l.toArray[i]? = some oi ∧ d.getD i false = true ∧ oi.dst = some t := by
      intro t V hFt
      have h5 := List.all_eq_true.1 hallm t (hkeys t V hFt)
      obtain ⟨i, hi, hi2⟩ := List.any_eq_true.1 h5
      simp only [beq_iff_eq] at hi2
      cases hoi : l.toArray[i]? with
      | none => simp [hoi] at hi2
      | some oi => exact ⟨i, oi, hoi, hL.1.2 i (List.mem_range.1 hi), by simpa [hoi] using hi2⟩
    have h2 := hL.2 b w' hsim.1 hsim.2.1 (fun t V hFt => by
      obtain ⟨i, oi, hoi, hdn, hdst⟩ := mk t V hFt
      exact hsim.2.2 i oi t V hoi hdn hdst hFt)
    exact ⟨by simpa [Region.seqB] using hL.1.1, h2⟩) _ _ a a w.drew rfl inv0 ⟨Ext.drew w, ⟨rfl, rfl, fun _ _ => rfl⟩, fun i o t V _ hd => by rw [getD_replicate_false] at hd; cases hd⟩ H
  rw [show l.length + 0 = l.toArray.size by simp] at hfin
  exact hfin

end
section
variable {P : Program} {ops : Array Oper} {L : MadeL} {w0 : World} {X : World → World → Prop} {Y : Option Tmp → World → World → Prop} [RelOk X] [RelY X Y]
/-- THE LAW -/
theorem wp_madeA {id : Nat} {Q : Exit → Act → World → Prop} {a : Act} {w : World} {l : List Oper} (ex : List (Tmp × Tmp)) (hex : exB .any l.toArray ex = true) (L : MadeL) (hm : P.follows .mixedOrders = true)
    (hB : (Region.noSelect l.toArray && Region.lexHead .any l.toArray 0 l.length 0 (Array.replicate l.toArray.size false) && madeB .any l.toArray (L.map (·.1)) l.length && allMadeB l.toArray (L.map (·.1)) l.length) = true) (hL : ∀ p ∈ L, MadeOk Y ex p.1 p.2) (hn : (L.map (·.1)).Nodup) (hrange : ∀ t ∈ L.map (·.1), t < a.tmps.size)
    (h : wpMade X Y P l.toArray (madeBy L) w (fun a' => ∀ w', Ext X w w' → ended L w' a' fun b => Q .normal b w') l a) :
    (Code.region id l.toArray true).wp P Q a w := by
  refine wp_made_tailA (X := X) ex hex (L.map (·.1)) (madeBy L) hm hB (fun t V hV => List.mem_map.2 ⟨_, madeBy_mem hV, rfl⟩) (stays_by hL) hrange ?_
  have e : ∀ (rest : List Oper) (a : Act), wpMade X Y P l.toArray (madeBy L) w (fun a' => ∀ w', Ext X w w' → ended L w' a' fun b => Q .normal b w') rest a →
      wpMade X Y P l.toArray (madeBy L) w (fun a' => ∀ b w', Ext X w w' → Same (madeBy L) b a' → (∀ t V, madeBy L t = some V → ∃ u, b.tmps[t]? = some u ∧ V u w') → Q .normal b w') rest a := by
    intro rest
    induction rest with
    | nil =>
      intro a h b w' hx hs hh
      exact ended_elim _ w' L a b hs hn (fun t V hm => hh t V (madeBy_look hn hm)) (h w' hx)
    | cons o rest ih =>
      intro a h
      obtain ⟨v, h1, h2⟩ := h
      exact ⟨v, h1, ih _ h2⟩
  exact e _ _ h

end

/-! one operation may turn a row -/
/-- all stays but the blocks that are told, and K stays so -/
structure GX (G : Option Tmp → Option Nat) (K : World → Prop) (w w' : World) : Prop where
  os : w'.os = w.os
  tape : w'.tape = w.tape
  output : w'.output = w.output
  size : w.heap.size ≤ w'.heap.size
  block : ∀ k, k < w.heap.size → (∀ d, G d ≠ some k) → w'.heap[k]? = w.heap[k]?
  keep : K w → K w'
def GY (G : Option Tmp → Option Nat) (K : World → Prop) (d : Option Tmp) (w w' : World) : Prop := w.grownBy w' (G d) ∧ (K w → K w')
class KeptOk (K : World → Prop) : Prop where
  below : ∀ w w', Below w.heap.size w w' → K w → K w'
instance (G : Option Tmp → Option Nat) (K : World → Prop) [KeptOk K] : RelOk (GX G K) where
  refl := fun _ => ⟨rfl, rfl, rfl, Nat.le_refl _, fun _ _ _ => rfl, id⟩
  trans := fun _ _ _ h k => ⟨k.os.trans h.os, k.tape.trans h.tape, k.output.trans h.output, Nat.le_trans h.size k.size, fun i hi hg => (k.block i (Nat.lt_of_lt_of_le hi h.size) hg).trans (h.block i hi hg), fun x => k.keep (h.keep x)⟩
  drew := fun w => ⟨rfl, rfl, rfl, Nat.le_refl _, fun _ _ _ => rfl, KeptOk.below w w.drew (Below.refl _ w).drew⟩
instance (G : Option Tmp → Option Nat) (K : World → Prop) : RelY (GX G K) (GY G K) where
  sub := fun d _ _ h => ⟨h.1.os, h.1.tape, h.1.output, h.1.size, fun k hk hg => h.1.block k hk fun e => hg d e.symm, h.2⟩
  refl := fun _ w => ⟨World.grownBy.refl w _, id⟩
/-- the operation that writes slot t may turn block r, no other one turns any -/
def G1 (t : Tmp) (r : Option Nat) (d : Option Tmp) : Option Nat := if d = some t then r else none
theorem GX.grown {t : Tmp} {r : Option Nat} {K : World → Prop} {w w' : World} (h : GX (G1 t r) K w w') : w.grownBy w' r :=
  ⟨h.os, h.tape, h.output, h.size, fun k hk hne => h.block k hk fun d => by
    unfold G1
    split
    · exact fun e => hne e.symm
    · exact fun e => by cases e⟩
theorem GY.of_below {t : Tmp} {r : Option Nat} {K : World → Prop} [KeptOk K] {d : Option Tmp} {w w' : World} (h : Below w.heap.size w w') : GY (G1 t r) K d w w' := ⟨⟨h.os, h.tape, h.output, h.size, fun k hk _ => h.block k hk⟩, KeptOk.below w w' h⟩
theorem GY.of_grown {t : Tmp} {r : Option Nat} {K : World → Prop} {w w' : World} (h : w.grownBy w' r) (hk : K w → K w') : GY (G1 t r) K (some t) w w' := by
  unfold GY G1
  rw [if_pos rfl]
  exact ⟨h, hk⟩
theorem GY.below {t : Tmp} {r : Option Nat} {K : World → Prop} {d : Option Tmp} {w w' : World} (h : GY (G1 t r) K d w w') (hd : d ≠ some t) : Below w.heap.size w w' := by
  unfold GY G1 at h
  rw [if_neg hd] at h
  exact ⟨h.1.os, h.1.tape, h.1.output, h.1.size, fun k hk => h.1.block k hk fun e => by cases e⟩
/-- a row stays what it was -/
def RowK (B : Nat) (ty : TypeId) (s : Nat) (u : Value) (n : Nat) (xs : List Value) (w : World) : Prop := w.ownsRow B ty s u n xs
instance (B : Nat) (ty : TypeId) (s : Nat) (u : Value) (n : Nat) (xs : List Value) : KeptOk (RowK B ty s u n xs) where
  below := fun w _ hb h => owned_keepN (w := w) h fun _ _ hl => hb.block _ hl
/-- what is so of things that were made behind the turned row stays so -/
theorem madeOk_new {ex : List (Tmp × Tmp)} {t s : Tmp} {r : Option Nat} {K : World → Prop} {V : Value → World → Prop} (h : ∀ u w w', V u w → w.grownBy w' r → V u w') : MadeOk (GY (G1 t r) K) ex s V := ⟨fun d _ _ u w w' hV hy => h u w w' hV (by
    obtain ⟨hy, _⟩ := hy
    unfold G1 at hy
    split at hy
    · exact hy
    · exact ⟨hy.os, hy.tape, hy.output, hy.size, fun k hk _ => hy.block k hk fun e => by cases e⟩)⟩
/-- what is so of the turned row stays so -/
theorem madeOk_turn {ex : List (Tmp × Tmp)} {t : Tmp} {r : Option Nat} {K : World → Prop} {V : Value → World → Prop} (h : ∀ u w w', V u w → Below w.heap.size w w' → V u w') : MadeOk (GY (G1 t r) K) ex t V := ⟨fun _ hd _ u w w' hV hy => h u w w' hV (hy.below hd)⟩
/-- the same of what is written behind the operation that turned the row -/
theorem madeOk_behind {t s : Tmp} {r : Option Nat} {K : World → Prop} {ex : List (Tmp × Tmp)} (hs : (s, t) ∈ ex) {V : Value → World → Prop} (h : ∀ u w w', V u w → Below w.heap.size w w' → V u w') : MadeOk (GY (G1 t r) K) ex s V := ⟨fun _ _ he u w w' hV hy => h u w w' hV (hy.below (he t hs))⟩
end Go.Proofs.Ytidiepbmbbflhaa.Two
end
section
namespace Go.Proofs.Ytidiepbmbbflhaa
open Go Go.RowKit Go.Maps
set_option maxRecDepth 100000
section
variable {w0 w w' : World} {L : List Ent}
theorem Mem.alike (h : Mem w0 w L) : Alike w0.heap.size w0 w := fun _ hb => h.old hb
theorem Mem.lay {α : Type} {M : Lay α} {cs : List Value} {x : α} (h : Mem w0 w L) (hx : M.At w0 w0.heap.size cs x) : M.At w w.heap.size cs x := M.widen (M.alike hx h.alike) h.below.size
theorem Mem.drv {d : Drv} {v1 v2 : Value} (h : Mem w0 w L) (hx : DrvAt w0 w0.heap.size d v1 v2) : DrvAt w w.heap.size d v1 v2 := hx.alike9 h.below
/-- the memory but for a row that something turns -/
theorem Mem.away {B n s : Nat} {t : TypeId} {u : Value} {xs : List Value} (h : Mem w0 w L) (i : Nat) (hi : L[i]? = some (ownE B t s u n xs)) (hg : w.grownBy w' u.ownBlock) : Mem w0 w' (L.set i Ent.no) :=
  h.upd i hi hg (fun _ hb => hb) (fun _ _ _ _ => trivial) trivial fun _ hf => False.elim hf
end
/-- bytes in a block -/
def bytE (g : Nat) (s : ByteArray) : Ent := ⟨fun b => b = g, fun w => BytesOf w g s⟩
theorem BytesOf.lt {w : World} {g : Nat} {s : ByteArray} (h : BytesOf w g s) : g < w.heap.size := by
  obtain ⟨⟨cs, fz, h1⟩, _⟩ := h
  rcases Nat.lt_or_ge g w.heap.size with h2 | h2
  · exact h2
  · rw [Array.getElem?_eq_none h2] at h1; cases h1
theorem bytE_ok (g : Nat) (s : ByteArray) : (bytE g s).Ok := fun w w' h hk => by
  have hb := hk g rfl (BytesOf.lt h)
  exact ⟨by rw [hb]; exact h.1, fun j hj => (World.cell?_of_block hb).trans (h.2 j hj)⟩
theorem byt_made {w w' : World} {g : Nat} {s : ByteArray} (h : BytesOf w' g s) (h1 : w.heap.size ≤ g) (h2 : g < w'.heap.size) (hb : Below w.heap.size w w') : Mem w w' [bytE g s] :=
  (Mem.start w).new hb (bytE_ok _ _) h fun b hf => by have e : b = g := hf; omega
theorem BytesOf.text {w : World} {g cap : Nat} {s : ByteArray} (h : BytesOf w g s) : (convert 32 9 (.slice (some ⟨g, 0, none⟩) s.size cap)).run Try.prog w = .ok (.string s) w := by
  have h0 := run_convert_bytes_back (P := Try.prog) w 32 9 5 ⟨g, 0, none⟩ cap s.data.toList Try.underlying32 Try.underlying5 Try.underlying9 fun k hk => by
    have hk' : k < s.data.toList.length := hk
    rw [Addr.add_mid, Nat.zero_add, h.2 k (by simpa using hk')]
    simp [List.getD, List.getElem?_eq_getElem hk']
  simpa using h0
theorem ofW_any (w : World) (r g cap : Nat) (s : ByteArray) (hb : Blk w r 32 #[.slice (some ⟨g, 0, none⟩) s.size cap]) (ht : BytesOf w g s) (hc : s.size ≤ cap) (c : Hsh) (hcc : ofB [99, 108, 97, 115, 115] [s.data.toList] = c) (hs : s.size ≤ 2000) :
    Calls Try.prog 38 #[.string ⟨#[99, 108, 97, 115, 115]⟩, .slice (some ⟨r, 0, none⟩) 1 1] w fun e w' => e = .returned (.agg (bv c).toArray) ∧ Below w.heap.size w w' := by
  have hp : PartsAt w w.heap.size (.slice (some ⟨r, 0, none⟩) 1 1) [s.data.toList] := by
    refine ⟨_, 1, rfl, Nat.le_refl _, fun _ => ⟨r, 0, rfl, hb.lt, fun j hj => ?_⟩⟩
    have hj0 : j = 0 := by simp at hj; omega
    subst hj0
    exact ⟨_, hb.cell 0, (TB.of_text (base := 0) hc ht.lt (s := s) ht).bytes⟩
  have h := of_any ⟨#[99, 108, 97, 115, 115]⟩ [99, 108, 97, 115, 115] rfl (by decide) [s.data.toList] (by simpa using Nat.le_trans hs (by decide)) (by show 1 ≤ 1000000000; decide) _ w w.heap.size (Nat.le_refl _) hp
  rwa [hcc] at h
set_option maxHeartbeats 1000000 in
theorem bytesEq_any (w : World) (g1 g2 c1 c2 : Nat) (s1 s2 : ByteArray) (h1 : BytesOf w g1 s1) (h2 : BytesOf w g2 s2) (b : Bool) (hb : decide (s1 = s2) = b) :
    Calls Try.prog 39 #[.slice (some ⟨g1, 0, none⟩) s1.size c1, .slice (some ⟨g2, 0, none⟩) s2.size c2] w fun e w' => e = .returned (.bool b) ∧ Below w.heap.size w w' := by
  have H1 := hide h1
  have H2 := hide h2
  have HB := hide hb
  clear h1 h2 hb
  go_enter Try.func39, Try.ntmps39
  go_wp2_with (first | ((with_reducible refine at_slot 6 ?_); (refine wpList_value (o := ⟨some 6, _, _, _, _, _⟩) rfl (.string s1) w (exec_convert (o := ⟨some 6, _, _, _, _, _⟩) 32 9 (.tmp 5) rfl _ rfl _ H1.out.text) ?_)) | ((with_reducible refine at_slot 8 ?_); (refine wpList_value (o := ⟨some 8, _, _, _, _, _⟩) rfl (.string s2) w (exec_convert (o := ⟨some 8, _, _, _, _, _⟩) 32 9 (.tmp 7) rfl _ rfl _ H2.out.text) ?_)))
  go_ret
  refine ⟨?_, Below.refl _ _⟩
  have e : (s1.toList == s2.toList) = b := by
    rw [← HB.out, ByteArray.toList_eq, ByteArray.toList_eq, Bool.eq_iff_iff, beq_iff_eq, decide_eq_true_iff]
    exact ⟨bytes_ext, fun h => by rw [h]⟩
  show Ending.returned (.bool (s1.toList == s2.toList)) = _
  rw [e]
section
variable {hof : Drv → Hsh} {l : List Itm} {d : Drv}
theorem addP_2 (h : tabP hof l = false) : addP hof l d = ([], zeroH, 2) := by
  unfold addP
  rw [h]
  rfl
theorem addP_put (h : tabP hof l = true) (hp : ¬ putE d = 0) : addP hof l d = ([], zeroH, putE d) := by
  unfold addP
  rw [if_pos h, if_neg hp]
theorem addP_5 (h : tabP hof l = true) (hp : putE d = 0) {c : Hsh} (hc : c ∈ clsP d.2.1) (hn : (findI l c).isSome = false) : addP hof l d = ([], zeroH, 5) := by
  unfold addP
  rw [if_pos h, if_pos hp, if_neg (fun h9 => by have := List.all_eq_true.1 h9 c hc; rw [hn] at this; cases this)]
theorem addP_14 (h : tabP hof l = true) (hp : putE d = 0) (hc : ∀ c ∈ clsP d.2.1, (findI l c).isSome = true) {x : Itm} {c : Hsh} (e : hof d = c) (hf : findI l c = some x) (ht : ¬ textP x.2 = textP d) : addP hof l d = ([], zeroH, 14) := by
  subst e
  unfold addP
  rw [if_pos h, if_pos hp, if_pos (List.all_eq_true.2 hc), hf]
  exact if_neg ht
theorem addP_old (h : tabP hof l = true) (hp : putE d = 0) (hc : ∀ c ∈ clsP d.2.1, (findI l c).isSome = true) {x : Itm} {c : Hsh} (e : hof d = c) (hf : findI l c = some x) (ht : textP x.2 = textP d) : addP hof l d = (l, c, 0) := by
  subst e
  unfold addP
  rw [if_pos h, if_pos hp, if_pos (List.all_eq_true.2 hc), hf]
  exact if_pos ht
theorem addP_new (h : tabP hof l = true) (hp : putE d = 0) (hc : ∀ c ∈ clsP d.2.1, (findI l c).isSome = true) {c : Hsh} (e : hof d = c) (hf : findI l c = none) : addP hof l d = (l ++ [(c, d)], c, 0) := by
  subst e
  unfold addP
  rw [if_pos h, if_pos hp, if_pos (List.all_eq_true.2 hc), hf]
theorem tab_put (h : tabP hof l = true) {x : Itm} (hx : x ∈ l) : putE x.2 = 0 := by
  obtain ⟨i, hi⟩ := List.getElem?_of_mem hx
  have := (Dr.rightP_at (tab_right h) (i := i) (x := itP x) (by rw [List.getElem?_map, hi]; rfl)).1
  exact of_decide_eq_true this
end
/-! contracts, as things in memory -/
theorem tableB (w : World) (l : List Itm) (A : Option Addr) (cap : Nat) (h : itmsLay.At w w.heap.size [.slice A l.length cap] l) (hl : ∀ x ∈ l, x.2.2.1.length ≤ 1000000) (b : Bool) (hb : tabP hofP l = b) :
    Calls Try.prog 10 #[.slice A l.length cap] w fun e w' => e = .returned (.bool b) ∧ Below w.heap.size w w' := hb ▸ table_any w l A cap h hl
theorem own_made {w w' : World} {t : TypeId} {s k : Nat} {u : Value} {xs : List Value} (h : w'.ownsRow w.heap.size t s u k xs) (hb : Below w.heap.size w w') : Mem w w' [ownE w.heap.size t s u k xs] :=
  (Mem.start w).new hb (ownE_ok _ _ _ _ _ _) h fun _ hf => owned_ltN h hf
theorem classesM (w : World) (d : Drv) (v1 v2 : Value) (h : DrvAt w w.heap.size d v1 v2) (hl : d.2.1.length ≤ 1000000) :
    Calls Try.prog 34 #[.agg (dC d v1 v2).toArray] w fun e w' => ∃ A cap, e = .returned (.slice A (clsP d.2.1).length cap) ∧ Mem w w' [ownE w.heap.size 27 20 (.slice A (clsP d.2.1).length cap) (clsP d.2.1).length ((clsP d.2.1).flatMap bv)] :=
  (classes_any w d v1 v2 h hl).mono fun _ _ ⟨_, h1, h2, h3⟩ => by
    obtain ⟨A, cap, rfl⟩ := own_len h2
    exact ⟨A, cap, h1, own_made h2 h3⟩
theorem findM (w : World) (l : List Itm) (v : Value) (h : itmsLay.At w w.heap.size [v] l) (c : Hsh) (hc : okH c) (hl : ∀ x ∈ l, x.2.2.1.length ≤ 1000000 ∧ x.2.2.2.length ≤ 1000000) (d : Drv) (hd : findD l c = d) (b : Bool) (hb : (findI l c).isSome = b) :
    Calls Try.prog 9 #[v, .agg (bv c).toArray] w fun e w' => ∃ u1 u2, e = .returned (.tuple #[.agg (dC d u1 u2).toArray, .bool b]) ∧ u1.oneCell' = true ∧ u2.oneCell' = true ∧ Mem w w' [drvE w.heap.size d u1 u2] :=
  (find_any w l v h c hc hl).mono fun _ _ ⟨u1, u2, h1, h2, h3⟩ => by
    subst hd hb
    exact ⟨u1, u2, h1, (OwnDrv.ones h2).1, (OwnDrv.ones h2).2, drv_made h2 h3⟩
theorem ownedM (w : World) (d : Drv) (v1 v2 : Value) (h : DrvAt w w.heap.size d v1 v2) (hl : d.2.1.length ≤ 1000000 ∧ d.2.2.length ≤ 1000000) :
    Calls Try.prog 40 #[.agg (dC d v1 v2).toArray] w fun e w' => ∃ u1 u2, e = .returned (.agg (dC d u1 u2).toArray) ∧ OwnDrv w' w.heap.size d u1 u2 ∧ Below w.heap.size w w' := ownedC_any w d v1 v2 h hl
/-- what adding tells: a table in memory of its own and a class; or an error that is thrown -/
def AddQ (w : World) (r : List Itm × Hsh × Int) (e : Ending) (w' : World) : Prop :=
  if r.2.2 = 0 then ∃ u ls, e = .returned (.tuple #[u, .agg (bv r.2.1).toArray]) ∧ ls.map (·.1) = r.1 ∧ Mem w w' (itmsL w.heap.size u ls) else e = .panicked [{ v := thrown r.2.2, recovered := false }] ∧ Below w.heap.size w w'
theorem AddQ.no {w w' : World} {r : List Itm × Hsh × Int} {k : Int} {l : List Itm} {h : Hsh} (hr : r = (l, h, k)) (hk : k ≠ 0) {e : Ending} (he : e = .panicked [{ v := thrown k, recovered := false }]) (hb : Below w.heap.size w w') : AddQ w r e w' := by
  subst hr
  unfold AddQ
  rw [if_neg hk]
  exact ⟨he, hb⟩
theorem AddQ.yes {w w' : World} {r : List Itm × Hsh × Int} {l : List Itm} {h : Hsh} (hr : r = (l, h, 0)) {e : Ending} {u : Value} {ls : List ItmV} (he : e = .returned (.tuple #[u, .agg (bv h).toArray])) (hl : ls.map (·.1) = l) (hm : Mem w w' (itmsL w.heap.size u ls)) : AddQ w r e w' := by
  subst hr
  unfold AddQ
  rw [if_pos rfl]
  exact ⟨u, ls, he, hl, hm⟩
end Go.Proofs.Ytidiepbmbbflhaa
end
section
namespace Go.Proofs.Ytidiepbmbbflhaa
open Go Go.RowKit Go.Maps
set_option maxRecDepth 100000
def drvsLay : Lay (List Drv) := Lay.slice 22 drvLay
theorem drvsLay_opens : drvsLay.Opens Try.prog := opens_slice drvLay_opens (by decide) Try.underlying22 (by kernel_rfl)
theorem sz_drv : (Try.prog.info? 34).map (·.size) = some 3 := by kernel_rfl
set_option maxHeartbeats 1000000 in
theorem drvsOf_any (w : World) (most : Nat) (hmo : most ≤ 1000000) (l : List Drv) (A : Option Addr) (cap : Nat) (h : drvsLay.At w w.heap.size [.slice A l.length cap] l) (hl : ∀ x ∈ l, LightD x) :
    Calls Try.prog 6 #[.slice A l.length cap, .int .i64 (most : Int)] w fun e w' => e = .returned (.int .i64 (cntF (drvOfP most) most 0 l : Int)) ∧ Below w.heap.size w w' := by
  obtain ⟨A', cap', e, _, hcm9, _, hA⟩ := slice_open h
  injection e with e1 e2 e3
  subst e1 e3
  have k9 : (l.length : Int) ≤ 9223372036854775807 := by simp only [maxLen] at hcm9; omega
  have HA := hide hA
  have HL := hide hl
  clear hA h e2 hl hcm9
  have H0 := hide (Mem.start w)
  go_enter Try.func6, Try.ntmps6
  go_wp2_with fail
  go_loopw [5, 6] (fun xn xi wr => ∃ (n j : Nat), j ≤ l.length ∧ n ≤ 600000000000000 ∧ xn = .int .i64 (n : Int) ∧ xi = .int .i64 (j : Int) ∧ cntF (drvOfP most) most 0 l = cntF (drvOfP most) most n (l.drop j) ∧ Mem w wr []) (fun _ xi _ => l.length - (intOf xi).toNat)
  case atStart => exact ⟨0, 0, by omega, by omega, rfl, rfl, rfl, H0.out⟩
  case round =>
    obtain ⟨wo, rfl⟩ : ∃ wo, wo = wr := ⟨_, rfl⟩
    obtain ⟨n, j, hj, hn, rfl, rfl, hcn, hm⟩ := hrel
    have HM := hide hm
    have HC := hide hcn
    clear hm hcn
    have j0 : (0 : Int) ≤ (j : Int) := by omega
    have n0 : (0 : Int) ≤ (n : Int) := by omega
    have n9 : (n : Int) ≤ 600000000000000 := by omega
    by_cases hj2 : j < l.length
    · have j1 : (j : Int) < (l.length : Int) := by omega
      by_cases hn3 : n ≤ most
      · have n3 : (n : Int) ≤ (most : Int) := by omega
        obtain ⟨x, hx⟩ : ∃ x, l[j]? = some x := ⟨_, List.getElem?_eq_getElem (by omega)⟩
        obtain ⟨b, off, rfl, hltb, hE⟩ := HA.out (by omega)
        obtain ⟨cs, hrx, hatx⟩ := hE j x hx
        clear hE
        obtain ⟨q1, q2, rfl, hxd⟩ := drvLay_at.1 hatx
        obtain ⟨ho1, ho2⟩ := hxd.ones
        have hlx := HL.out x (List.mem_of_getElem? hx)
        have hbd := drvOfP_bd most hlx
        have hst := cntF_step (f := (drvOfP most)) (most := most) hx hn3
        have HST := hide hst
        have HX := hide (And.intro hrx (And.intro hltb hxd))
        have HXL := hide hlx
        clear hrx hltb hxd hatx hx hlx
        clear hst
        go_wp2_with (first | ((with_reducible refine at_slot 21 ?_); (refine wpList_value (o := ⟨some 21, _, _, _, _, _⟩) rfl (.pointer (some ⟨b, off + j * 3, none⟩)) wo (exec_idxO (o := ⟨some 21, _, _, _, _, _⟩) 22 34 (.tmp 19) (.tmp 20) rfl b off l.length cap j rfl rfl hj2 3 Try.underlying22 sz_drv wo) ?_)) | ((with_reducible refine at_slot 22 ?_); (refine wpList_value (o := ⟨some 22, _, _, _, _, _⟩) rfl (.agg (dC x q1 q2).toArray) wo (exec_load_mid (o := ⟨some 22, _, _, _, _, _⟩) 34 (.tmp 21) rfl b (off + j * 3) rfl (dC x q1 q2) _ wo (Mem.range HM.out HX.out.1 HX.out.2.1) Try.underlying34 rfl (dC_szl x q1 q2)) ?_)))
        refine (drvOfM_any wo most hmo x q1 q2 (Mem.drv HM.out HX.out.2.2) HXL.out).mono ?_
        rintro e w1 ⟨rfl, hb⟩
        dsimp only
        have H1 := hide (Mem.call HM.out hb)
        clear hb
        go_wp2_with fail
        go_roundw
        case rel => exact ⟨n + drvOfP most x, j + 1, by omega, by omega, by go_num, by go_num, by rw [HC.out]; exact HST.out, H1.out⟩
        case measure => simp [intOf]; omega
      · have n3 : ¬ (n : Int) ≤ (most : Int) := by omega
        have hfin : cntF (drvOfP most) most 0 l = n := by rw [HC.out]; exact cntF_stop hn3
        have HF := hide hfin
        clear hfin
        go_wp2_with fail
        go_ret
        exact ⟨by rw [HF.out]; rfl, Mem.below HM.out⟩
    · obtain rfl : j = l.length := by omega
      have hfin : cntF (drvOfP most) most 0 l = n := by rw [HC.out, List.drop_length]; rfl
      have HF := hide hfin
      clear hfin
      go_wp2_with fail
      go_ret
      exact ⟨by rw [HF.out]; rfl, Mem.below HM.out⟩
set_option maxHeartbeats 1000000 in
theorem great19_any (w : World) (l : List Itm) (A : Option Addr) (cap : Nat) (h : itmsLay.At w w.heap.size [.slice A l.length cap] l) (hl : ∀ x ∈ l, LightD x.2) :
    Calls Try.prog 13 #[.slice A l.length cap] w fun e w' => e = .returned (.bool (decide (1500 < cntF (fun x : Itm => drvOfP 1500 x.2) 1500 0 l))) ∧ Below w.heap.size w w' := by
  obtain ⟨A', cap', e, _, hcm9, _, hA⟩ := slice_open h
  injection e with e1 e2 e3
  subst e1 e3
  have k9 : (l.length : Int) ≤ 9223372036854775807 := by simp only [maxLen] at hcm9; omega
  have HA := hide hA
  have HL := hide hl
  clear hA h e2 hl hcm9
  have H0 := hide (Mem.start w)
  go_enter Try.func13, Try.ntmps13
  go_wp2_with fail
  go_loopw [3, 4] (fun xn xi wr => ∃ (n j : Nat), j ≤ l.length ∧ n ≤ 600000000000000 ∧ xn = .int .i64 (n : Int) ∧ xi = .int .i64 (j : Int) ∧ cntF (fun x : Itm => drvOfP 1500 x.2) 1500 0 l = cntF (fun x : Itm => drvOfP 1500 x.2) 1500 n (l.drop j) ∧ Mem w wr []) (fun _ xi _ => l.length - (intOf xi).toNat)
  case atStart => exact ⟨0, 0, by omega, by omega, rfl, rfl, rfl, H0.out⟩
  case round =>
    obtain ⟨wo, rfl⟩ : ∃ wo, wo = wr := ⟨_, rfl⟩
    obtain ⟨n, j, hj, hn, rfl, rfl, hcn, hm⟩ := hrel
    have HM := hide hm
    have HC := hide hcn
    clear hm hcn
    have j0 : (0 : Int) ≤ (j : Int) := by omega
    have n0 : (0 : Int) ≤ (n : Int) := by omega
    have n9 : (n : Int) ≤ 600000000000000 := by omega
    by_cases hj2 : j < l.length
    · have j1 : (j : Int) < (l.length : Int) := by omega
      by_cases hn3 : n ≤ 1500
      · have n3 : (n : Int) ≤ (1500 : Int) := by omega
        obtain ⟨x, hx⟩ : ∃ x, l[j]? = some x := ⟨_, List.getElem?_eq_getElem (by omega)⟩
        obtain ⟨b, off, rfl, hltb, hE⟩ := HA.out (by omega)
        obtain ⟨cs, hrx, hatx⟩ := hE j x hx
        clear hE
        obtain ⟨q1, q2, rfl, hxo, hxd⟩ := itmLay_at.1 hatx
        obtain ⟨ho1, ho2⟩ := hxd.ones
        have hlx := HL.out x (List.mem_of_getElem? hx)
        have hbd := drvOfP_bd 1500 hlx
        have hst := cntF_step (f := (fun x : Itm => drvOfP 1500 x.2)) (most := 1500) hx hn3
        have HST := hide hst
        have HX := hide (And.intro hrx (And.intro hltb hxd))
        have HXL := hide hlx
        clear hrx hltb hxd hatx hx hlx
        clear hst
        go_wp2_with (first | ((with_reducible refine at_slot 18 ?_); (refine wpList_value (o := ⟨some 18, _, _, _, _, _⟩) rfl (.pointer (some ⟨b, off + j * 23, none⟩)) wo (exec_idxO (o := ⟨some 18, _, _, _, _, _⟩) 25 43 (.tmp 16) (.tmp 17) rfl b off l.length cap j rfl rfl hj2 23 Try.underlying25 sz_itm wo) ?_)) | ((with_reducible refine at_slot 20 ?_); (refine wpList_value (o := ⟨some 20, _, _, _, _, _⟩) rfl (.agg (dC x.2 q1 q2).toArray) wo (exec_load_mid (o := ⟨some 20, _, _, _, _, _⟩) 34 (.tmp 19) rfl b (off + j * 23 + 20) rfl (dC x.2 q1 q2) _ wo (item_drv9 hxo (Mem.range HM.out HX.out.1 HX.out.2.1)) Try.underlying34 rfl (dC_szl x.2 q1 q2)) ?_)))
        refine (drvOfM_any wo 1500 (by omega) x.2 q1 q2 (Mem.drv HM.out HX.out.2.2) HXL.out).mono ?_
        rintro e w1 ⟨rfl, hb⟩
        dsimp only
        have H1 := hide (Mem.call HM.out hb)
        clear hb
        go_wp2_with fail
        go_roundw
        case rel => exact ⟨n + drvOfP 1500 x.2, j + 1, by omega, by omega, by go_num, by go_num, by rw [HC.out]; exact HST.out, H1.out⟩
        case measure => simp [intOf]; omega
      · have n3 : ¬ (n : Int) ≤ (1500 : Int) := by omega
        have hfin : cntF (fun x : Itm => drvOfP 1500 x.2) 1500 0 l = n := by rw [HC.out]; exact cntF_stop hn3
        have HF := hide hfin
        clear hfin
        cases hgr : decide ((n : Int) > 1500)
        · have hgn : ¬ (n : Int) > 1500 := of_decide_eq_false hgr
          clear hgr
          go_wp2_with fail
          go_ret
          exact ⟨by rw [HF.out, decide_eq_false (by omega)]; rfl, Mem.below HM.out⟩
        · have hgn : (n : Int) > 1500 := of_decide_eq_true hgr
          clear hgr
          go_wp2_with fail
          go_ret
          exact ⟨by rw [HF.out, decide_eq_true (by omega)]; rfl, Mem.below HM.out⟩
    · obtain rfl : j = l.length := by omega
      have hfin : cntF (fun x : Itm => drvOfP 1500 x.2) 1500 0 l = n := by rw [HC.out, List.drop_length]; rfl
      have HF := hide hfin
      clear hfin
      cases hgr : decide ((n : Int) > 1500)
      · have hgn : ¬ (n : Int) > 1500 := of_decide_eq_false hgr
        clear hgr
        go_wp2_with fail
        go_ret
        exact ⟨by rw [HF.out, decide_eq_false (by omega)]; rfl, Mem.below HM.out⟩
      · have hgn : (n : Int) > 1500 := of_decide_eq_true hgr
        clear hgr
        go_wp2_with fail
        go_ret
        exact ⟨by rw [HF.out, decide_eq_true (by omega)]; rfl, Mem.below HM.out⟩
end Go.Proofs.Ytidiepbmbbflhaa
end
section
namespace Go.Proofs.Ytidiepbmbbflhaa
open Go Go.ChangeShapes Go.WideShapes Go.ChangeAt Go.RowKit
set_option maxRecDepth 100000
theorem drvLay_opensW : drvLay.OpensW Try.prog reachBytes LightD where
  cells := drvLay_opens.cells
  op := fun {H enc w sp hd fuel cs y} h => by
    have hs := opensW_str (P := Try.prog) (M := reachBytes) Try.underlying9 cells_str
    have hp := opensW_struct (t := 68) (f := fun p : Pth => (p.1, p.2, ())) (fun b => (b.1, b.2.1)) (fun _ => rfl) (opensW_cons (hashLay_opens.w reachBytes) (opensW_cons hs opensW_nil)) Try.underlying68 (by kernel_rfl) (by kernel_rfl)
    have hi := opensW_struct (t := 70) (f := fun x : Inp => (x.1, x.2.1, x.2.2, ())) (fun b => (b.1, b.2.1, b.2.2.1)) (fun _ => rfl) (opensW_cons hp (opensW_cons (hashLay_opens.w reachBytes) (opensW_cons ((opens_bool (P := Try.prog) Try.underlying4 (by kernel_rfl)).w reachBytes) opensW_nil))) Try.underlying70 (by kernel_rfl) (by kernel_rfl)
    have hn := opensW_struct (t := 72) (f := fun x : Nam => (x.1, x.2, ())) (fun b => (b.1, b.2.1)) (fun _ => rfl) (opensW_cons hs (opensW_cons hi opensW_nil)) Try.underlying72 (by kernel_rfl) (by kernel_rfl)
    have hns := opensW_slice (t := 31) hn (by decide) Try.underlying31 (by kernel_rfl)
    have hb := opensW_slice (t := 32) ((opens_int (P := Try.prog) Try.underlying5 cells_u8).w reachBytes) (by decide) Try.underlying32 (by kernel_rfl)
    have hdr := opensW_struct (t := 34) (f := fun d : Drv => (d.1, d.2.1, d.2.2, ())) (fun b => (b.1, b.2.1, b.2.2.1)) (fun _ => rfl) (opensW_cons hs (opensW_cons hns (opensW_cons hb opensW_nil))) Try.underlying34 (by kernel_rfl) (by kernel_rfl)
    obtain ⟨x, hx, hk⟩ := hdr.op h
    refine ⟨x, hx, fun hw => ?_⟩
    obtain ⟨h1, ⟨h2, h3⟩, ⟨h4, _⟩, _⟩ := hk hw
    have e1 : Try.prog.bytesOf namLay.t = 80 := by kernel_rfl
    have e2 : Try.prog.bytesOf (Lay.int 5 .u8).t = 1 := by kernel_rfl
    have hR : reachBytes ≤ 140737488355328 := by decide
    have h1 : x.1.size ≤ reachBytes := h1
    have h2 : x.2.1.length * Try.prog.bytesOf namLay.t ≤ reachBytes := h2
    have h4 : x.2.2.length * Try.prog.bytesOf (Lay.int 5 .u8).t ≤ reachBytes := h4
    rw [e1] at h2
    rw [e2] at h4
    refine ⟨by omega, by omega, by omega, fun n hn => ?_⟩
    obtain ⟨h5, ⟨⟨_, h6, _⟩, _⟩, _⟩ := h3 n hn
    have h5 : n.1.size ≤ reachBytes := h5
    have h6 : n.2.1.2.size ≤ reachBytes := h6
    exact ⟨by omega, by omega⟩
theorem open_drvs {H : Type} {enc : TypeId × Value → H} {w : World} {r : Reach} {b0 : Nat} {hd : Bool} {u : Value} {d : DataW H} {ps : List MemPlace}
    (hval : Value.okWide Try.prog w r b0 22 u) (h : DataW.Trod enc Try.prog w 0 (fun _ => true) hd 22 u d ps) (hsz : ∀ n ∈ d.weights Try.prog 22, n ≤ reachBytes) :
    ∃ (l : List Drv) (A : Option Addr) (cap : Nat), u = .slice A l.length cap ∧ drvsLay.At w w.heap.size [.slice A l.length cap] l ∧ ∀ x ∈ l, LightD x := by
  obtain ⟨a0, len, cap, rfl⟩ := okWide_slice Try.underlying22 hval
  obtain ⟨fuel, hf⟩ := h
  have ho := opensW_slice (t := 22) drvLay_opensW (by decide) Try.underlying22 (by kernel_rfl)
  obtain ⟨l, hk, hs⟩ := ho.op hf
  obtain ⟨A, cp, e, _⟩ := slice_open hk
  injection e with e1 e2 e3
  subst e1 e2 e3
  exact ⟨l, _, _, rfl, hk, (hs hsz).2⟩
end Go.Proofs.Ytidiepbmbbflhaa
end
section
namespace Go.Proofs.Ytidiepbmbbflhaa
open Go Go.RowKit
section
variable {w0 w w1 W : World} {L : List Ent}
/-- the memory but for a row that something turns -/
theorem Mem.away2 {B n s : Nat} {t : TypeId} {u : Value} {xs : List Value} (h : Mem w0 w L) (i : Nat) (hi : L[i]? = some (ownE B t s u n xs)) (hg : w.grownBy w1 u.ownBlock) : Mem w0 w1 (L.set i Ent.no) :=
  h.upd i hi hg (fun _ hb => hb) (fun _ _ _ _ => trivial) trivial fun _ hf => False.elim hf
/-- a row that has grown: in its place, or in a new one -/
def GrownR (B base : Nat) (ty : TypeId) (s : Nat) (u0 : Value) (k : Nat) (xs : List Value) (u : Value) (w : World) : Prop := w.ownsRow base ty s u k xs ∧ ∀ b, u.ownBlock = some b → u0.ownBlock = some b ∨ B ≤ b
theorem grownR_keep {B base s k : Nat} {ty : TypeId} {u0 u : Value} {xs : List Value} {w w' : World} (h : GrownR B base ty s u0 k xs u w) (hb : Below w.heap.size w w') : GrownR B base ty s u0 k xs u w' := ⟨owned_keepN h.1 fun _ _ hl => hb.block _ hl, h.2⟩
theorem grownR_new {P : Program} {ρ : Operand → Value} {o : Oper} (x y : Operand) (st ty : TypeId) (ho : o.op = .call { callee := .builtin .append, args := #[x, y], argTypes := #[st, st] }) {t : Tmp} {base s bytes n : Nat} {z u0 : Value} {xs news : List Value} (hst : P.underlying st = some (.slice ty)) (hinf : (P.info? ty).map (fun i => (i.zero, i.size, i.bytes)) = some (some z, s, bytes)) (hzs : z.cells.size = s) (hs0 : 0 < s)
    (hm : Mem w0 w L) (i : Nat) (hi : L[i]? = some (ownE base ty s u0 n xs)) (hbs : base ≤ w.heap.size) (hW : Two.GX (Two.G1 t u0.ownBlock) (Two.RowK base ty s u0 n xs) w W) {ad : Addr} {m c : Nat} (hm0 : 0 < m) (hx : ρ x = u0) (hy : ρ y = .slice (some ad) m c) (hsr : SrcN W s (some ad) m c news) (h63 : n + m ≤ maxLen) (hby : (n + m) * bytes ≤ 140737488355328) :
    ∃ u' w', (execOp ρ o).run P W = .ok (.value u') w' ∧ Two.GY (Two.G1 t u0.ownBlock) (Two.RowK base ty s u0 n xs) (some t) W w' ∧ GrownR w.heap.size base ty s u0 (n + m) (xs ++ news) u' w' := by
  have hown : W.ownsRow base ty s u0 n xs := hW.keep (hm.own i hi)
  obtain ⟨inm, hih, hq0, hq1, hq2⟩ := info_parts hinf
  obtain ⟨v', w', k1, k2, k3, k4⟩ := run_appG (P := P) base st o.type ty inm _ s bytes hst hih hq0 hq1 hq2 hzs hs0 u0 n _ hown ad m c _ hsr.len (hsr.cells _ rfl) hsr.one hm0 h63 hby (Nat.le_trans hbs hW.size)
  refine ⟨v', w', ?_, Two.GY.of_grown k3 fun _ => ?_, k2, fun b hb => ?_⟩
  · unfold execOp
    simp only [ho, resolve, invoke, builtin, Sem.run_bind, Sem.run_pure, Result.andThen_ok, List.map_toArray, List.map_cons, List.map_nil, hx, hy, k1]
  · rcases k4 with ⟨g, cap, e1, e2⟩ | ⟨_, hb⟩
    · rw [e2] at k2
      have h9 := own_cutN k2 (Nat.le_add_right n m)
      rw [List.take_append_of_le_length (by rw [hown.1]; exact Nat.le_refl _), List.take_of_length_le (by rw [hown.1]; exact Nat.le_refl _)] at h9
      rw [e1]
      exact h9
    · exact owned_keepN hown fun _ _ hl => hb.block _ hl
  · rcases k4 with ⟨g, cap, e1, e2⟩ | ⟨e1, _⟩
    · rw [e2] at hb
      rw [e1]
      exact .inl hb
    · rw [e1] at hb
      have := Option.some.inj hb
      have := hW.size
      exact .inr (by omega)
theorem grownR_mem {t : Tmp} {base s n k : Nat} {ty : TypeId} {u0 u : Value} {xs ys : List Value} {K : World → Prop} (hm : Mem w0 w L) (i : Nat) (hi : L[i]? = some (ownE base ty s u0 n xs)) (hx : Two.GX (Two.G1 t u0.ownBlock) K w w1) (hr : GrownR w.heap.size base ty s u0 k ys u w1) : Mem w0 w1 (L.set i (ownE base ty s u k ys)) :=
  hm.upd i hi hx.grown (fun _ h => h) (ownE_ok _ _ _ _ _ _) hr.1 fun b hb => (hr.2 b hb).imp id fun h => ⟨h, (owned_ltN hr.1 hb).2⟩
/-- a row of one thing that a region makes -/
def OneR (B : Nat) (ty : TypeId) (cs : List Value) (u : Value) (w : World) : Prop := ∃ r, u = .slice (some ⟨r, 0, none⟩) 1 1 ∧ B ≤ r ∧ Blk w r ty cs.toArray
theorem oneR_ok (B : Nat) (ty : TypeId) (cs : List Value) : Fre.MadeOk Bel (OneR B ty cs) := ⟨fun _ _ _ ⟨r, h1, h0, h2⟩ hx => ⟨r, h1, h0, h2.below hx h2.lt⟩⟩
theorem oneR_two {B : Nat} {ty : TypeId} {cs : List Value} {u : Value} {r : Option Nat} {w w' : World} (h : OneR B ty cs u w) (hg : w.grownBy w' r) (hr : ∀ b, r = some b → b < B) : OneR B ty cs u w' := by
  obtain ⟨g, h1, h0, h2⟩ := h
  exact ⟨g, h1, h0, (hg.block g h2.lt fun e => by have := hr g e.symm; omega).trans h2⟩
theorem oneR_new {P : Program} {ρ : Operand → Value} {o : Oper} (st ty : TypeId) (x : Operand) (ho : o.op = .buildSlice st 1 #[(0, x)]) {n : Nat} {z : Value} {cs : List Value} {v : Value} (hx : ρ x = v) (hv : v.cells = cs.toArray) (hst : P.underlying st = some (.slice ty)) (hs : (P.info? ty).map (·.size) = some n) (hn : 0 < n) (h24 : n ≤ 16777216) (hz : ∀ w, (zeroValue ty).run P w = .ok z w) (hl : cs.length = n) {B : Nat} (W : World) (hB : B ≤ W.heap.size) :
    ∃ u w', (execOp ρ o).run P W = .ok (.value u) w' ∧ Below W.heap.size W w' ∧ OneR B ty cs u w' :=
  ⟨_, _, exec_buildSliceP (v := v) st x ho hx hst hs hn h24 hz (by rw [hv, List.size_toArray]; exact hl) W, (Below.refl _ W).alloc (Nat.le_refl _) _, _, rfl, hB, by rw [hv]; exact Blk.new _ _ _⟩
theorem OneR.src {n : Nat} {ty : TypeId} {cs : List Value} {r : Nat} {w : World} (h : Blk w r ty cs.toArray) (hl : cs.length = n) (h1 : ∀ v ∈ cs, v.oneCell' = true) : SrcN w n (some ⟨r, 0, none⟩) 1 1 cs := hl ▸ box_src h h1
end
end Go.Proofs.Ytidiepbmbbflhaa
end
section
namespace Go.Proofs.Ytidiepbmbbflhaa
open Go Go.RowKit
def setSegs : List (List Value) → List (Nat × Value) → List (List Value)
  | segs, [] => segs
  | segs, (i, v) :: r => setSegs (segs.set i v.cells.toList) r
theorem flatten_cut : ∀ (segs : List (List Value)) (i : Nat) (s l : List Value), segs[i]? = some s → (segs.set i l).flatten = segs.flatten.take ((segs.take i).map (·.length)).sum ++ l ++ segs.flatten.drop (((segs.take i).map (·.length)).sum + s.length)
  | [], i, s, l, h => by simp at h
  | x :: segs, 0, s, l, h => by
    simp only [List.getElem?_cons_zero, Option.some.injEq] at h
    subst h
    simp
  | x :: segs, i + 1, s, l, h => by
    rw [List.getElem?_cons_succ] at h
    have ih := flatten_cut segs i s l h
    rw [List.set_cons_succ, List.flatten_cons, ih, List.take_succ_cons, List.map_cons, List.sum_cons, List.flatten_cons]
    rw [List.take_append, List.drop_append]
    have e1 : x.length + ((segs.take i).map (·.length)).sum - x.length = ((segs.take i).map (·.length)).sum := by omega
    have e2 : x.length + ((segs.take i).map (·.length)).sum + s.length - x.length = ((segs.take i).map (·.length)).sum + s.length := by omega
    have e3 : x.drop (x.length + ((segs.take i).map (·.length)).sum + s.length) = [] := List.drop_eq_nil_of_le (by omega)
    have e4 : x.take (x.length + ((segs.take i).map (·.length)).sum) = x := List.take_of_length_le (by omega)
    rw [e1, e2, e3, e4, List.nil_append]
    simp only [List.append_assoc]
theorem flatten_le : ∀ (segs : List (List Value)) (i : Nat) (s : List Value), segs[i]? = some s → ((segs.take i).map (·.length)).sum + s.length ≤ segs.flatten.length
  | [], i, s, h => by simp at h
  | x :: segs, 0, s, h => by
    simp only [List.getElem?_cons_zero, Option.some.injEq] at h
    subst h
    simp
  | x :: segs, i + 1, s, h => by
    rw [List.getElem?_cons_succ] at h
    have ih := flatten_le segs i s h
    rw [List.take_succ_cons, List.map_cons, List.sum_cons, List.flatten_cons, List.length_append]
    omega
theorem fill_segs {place : Nat → Option (Nat × Nat)} (lens : List Nat) (hp : ∀ (i n : Nat), lens[i]? = some n → place i = some ((lens.take i).sum, n)) :
    ∀ (parts : List (Nat × Value)) (segs : List (List Value)), segs.map (·.length) = lens → (∀ p ∈ parts, lens[p.1]? = some p.2.cells.size) → Instr.fill place segs.flatten.toArray parts = some (setSegs segs parts).flatten.toArray
  | [], segs, _, _ => by unfold Instr.fill setSegs; rfl
  | (i, v) :: r, segs, hl, hs => by
    have h1 := hs (i, v) (by simp)
    have h2 : ∃ s, segs[i]? = some s ∧ s.length = v.cells.size := by
      rw [← hl, List.getElem?_map] at h1
      cases hq : segs[i]? with
      | none => rw [hq] at h1; cases h1
      | some s => rw [hq] at h1; exact ⟨s, rfl, Option.some.inj h1⟩
    obtain ⟨s, hsi, hsl⟩ := h2
    have hoff : ((segs.take i).map (·.length)).sum = (lens.take i).sum := by rw [← hl, List.map_take]
    have hcut := flatten_cut segs i s v.cells.toList hsi
    have hle : (lens.take i).sum + v.cells.size ≤ segs.flatten.length := by
      have h3 := flatten_le segs i s hsi
      rw [hoff] at h3
      omega
    rw [fill_part place _ i v r (lens.take i).sum (hp i _ h1) (by simpa using hle)]
    have e : (segs.flatten.toArray.toList.take (lens.take i).sum ++ v.cells.toList ++ segs.flatten.toArray.toList.drop ((lens.take i).sum + v.cells.size)) = (segs.set i v.cells.toList).flatten := by
      rw [hcut, hoff, hsl]
    rw [e]
    have hl2 : (segs.set i v.cells.toList).map (·.length) = lens := by
      rw [List.map_set, hl]
      have : lens.set i v.cells.toList.length = lens := by
        apply List.ext_getElem?
        intro k
        rw [List.getElem?_set]
        split
        · rename_i e2
          subst e2
          have := (List.getElem?_eq_some_iff.1 h1).1
          rw [if_pos this, h1]
          simp
        · rfl
      exact this
    have := fill_segs lens hp r (segs.set i v.cells.toList) hl2 (fun p hpm => hs p (by simp [hpm]))
    rw [this, setSegs]
/-- a struct built: zs, the zero fields; lens, their sizes -/
theorem exec_buildSeg {P : Program} {ρ : Operand → Value} {o : Oper} (t : TypeId) (xs : Array (Nat × Operand)) (ho : o.op = .build t xs) {fields : Array Field} {places : Array (Nat × Nat)} (zs : List (List Value)) (lens : List Nat) (hlz : zs.map (·.length) = lens) (ht : P.underlying t = some (.struct fields)) (hz : ∀ w, (zeroValue t).run P w = .ok (.agg zs.flatten.toArray) w)
    (hpl : ∀ w, (fields.mapM fun f => do pure (f.offset, ← sizeOf f.type) : Sem (Array (Nat × Nat))).run P w = .ok places w) (hpp : (lens.zipIdx.map fun p => ((lens.take p.2).sum, p.1)) = places.toList) (parts : List (Nat × Value)) (hx : (xs.map fun (i, x) => (i, ρ x)) = parts.toArray) (hs : ∀ p ∈ parts, lens[p.1]? = some p.2.cells.size) {cs : List Value} (hcs : (setSegs zs parts).flatten = cs) (w : World) :
    (execOp ρ o).run P w = .ok (.value (.agg cs.toArray)) w := by
  subst hcs
  refine exec_buildN t xs ho ht hz hpl parts hx ?_ w
  refine fill_segs lens (fun i n hi => ?_) parts zs hlz hs
  have h1 : places.toList[i]? = some ((lens.take i).sum, n) := by
    rw [← hpp, List.getElem?_map, List.getElem?_zipIdx, hi]
    simp
  simpa using h1
end Go.Proofs.Ytidiepbmbbflhaa
end
section
namespace Go.Proofs.Ytidiepbmbbflhaa
open Go Go.RowKit Go.Maps
set_option maxRecDepth 100000
/-- the j'th input of a derivation of classes -/
def namH (j : Nat) (h : Hsh) : Nam := (⟨#[UInt8.ofNat (97 + j)]⟩, (List.replicate 20 0, ⟨#[]⟩), h, true)
def ndsH (hs : List Hsh) : List Nam := hs.zipIdx.map fun p => namH p.2 p.1
/-- a derivation of a name, of classes -/
def namedP (s : ByteArray) (hs : List Hsh) : Drv := (s, ndsH hs, [])
/-- its name alone -/
def nameO (s : ByteArray) : Drv := (s, [], [])
theorem namH_ok (j : Nat) {h : Hsh} (hh : okH h) : okN (namH j h) := ⟨by show 1 ≤ maxLen; decide, ⟨rfl, by show 0 ≤ maxLen; decide⟩, hh⟩
theorem ndsH_len (hs : List Hsh) : (ndsH hs).length = hs.length := by simp [ndsH]
theorem ndsH_step {hs : List Hsh} {j : Nat} {h : Hsh} (hh : hs[j]? = some h) : (ndsH (hs.take (j + 1))).flatMap nC = (ndsH (hs.take j)).flatMap nC ++ nC (namH j h) := by
  have hl : (hs.take j).length = j := by
    rw [List.length_take]
    have := (List.getElem?_eq_some_iff.1 hh).1
    omega
  unfold ndsH
  rw [List.take_add_one, hh]
  simp only [Option.toList_some, List.zipIdx_append, hl, List.map_append, List.flatMap_append]
  simp
theorem ndsH_ok {hs : List Hsh} (h : ∀ x ∈ hs, okH x) : ∀ x ∈ ndsH hs, okN x := fun x hx => by
  obtain ⟨p, hp, rfl⟩ := List.mem_map.1 hx
  exact namH_ok _ (h _ (List.mem_of_getElem? (List.mk_mem_zipIdx_iff_getElem?.1 hp)))
theorem exec_inpH {ρ : Operand → Value} {o : Oper} (x y : Operand) (ho : o.op = .build 70 #[(1, x), (2, y)]) {h : Hsh} (hh : okH h) (h1 : ρ x = .agg (bv h).toArray) (h2 : ρ y = .bool true) (w : World) :
    (execOp ρ o).run Try.prog w = .ok (.value (.agg (iC ((List.replicate 20 0, ⟨#[]⟩), h, true)).toArray)) w :=
  exec_buildSeg 70 _ ho [pC (List.replicate 20 0, ⟨#[]⟩), bv (List.replicate 20 0), [.bool false]] [21, 20, 1] rfl (places := #[(0, 21), (21, 20), (41, 1)]) Try.underlying70 (fun w => by kernel_rfl) (fun w => by kernel_rfl) rfl [(1, .agg (bv h).toArray), (2, .bool true)] (by simp [h1, h2]) (fun p hp => by
    simp only [List.mem_cons, List.not_mem_nil, or_false] at hp
    rcases hp with rfl | rfl
    · simp only [Value.cells, List.size_toArray, bvL]
      rw [show h.length = 20 from hh]
      rfl
    · rfl) (by simp [setSegs, Value.cells, iC]) w
theorem exec_namH {ρ : Operand → Value} {o : Oper} (x y : Operand) (ho : o.op = .build 72 #[(0, x), (1, y)]) {j : Nat} {h : Hsh} (hh : okH h) (h1 : ρ x = .string ⟨#[UInt8.ofNat (97 + j)]⟩) (h2 : ρ y = .agg (iC ((List.replicate 20 0, ⟨#[]⟩), h, true)).toArray) (w : World) :
    (execOp ρ o).run Try.prog w = .ok (.value (.agg (nC (namH j h)).toArray)) w := by
  refine Eq.trans (exec_build2 72 x y ho (n1 := 1) (n2 := 42) (z := .agg zcN) h1 h2 Try.underlying72 (fun w => by kernel_rfl) (by kernel_rfl) (fun w => by kernel_rfl) (by rfl) (by simp [Value.cells, iC, pC, bvL]; rw [show h.length = 20 from hh]) w) ?_
  simp [Value.cells, nC, namH]
theorem oneG {run : Value → World → Prop} {V : Value → World → Prop} {W : World} {t : Tmp} {r : Option Nat} {K : World → Prop} [Two.KeptOk K] {d : Option Tmp} (h : ∃ u w', run u w' ∧ Below W.heap.size W w' ∧ V u w') : ∃ u w', run u w' ∧ Two.GY (Two.G1 t r) K d W w' ∧ V u w' := by
  obtain ⟨u, w', h1, h2, h3⟩ := h
  exact ⟨u, w', h1, Two.GY.of_below h2, h3⟩
theorem oneR_text {B : Nat} {u : Value} {W : World} {j : Nat} (hj : 97 + j < 256) (h : OneR B 5 [.int .u8 ((97 + j : Nat) : Int)] u W) : (convert 32 9 u).run Try.prog W = .ok (.string ⟨#[UInt8.ofNat (97 + j)]⟩) W := by
  obtain ⟨r, rfl, _, hb⟩ := h
  have e : ((UInt8.ofNat (97 + j)).toNat : Int) = ((97 + j : Nat) : Int) := by
    rw [UInt8.toNat_ofNat', Nat.mod_eq_of_lt (by omega)]
  refine run_convert_bytes_back (P := Try.prog) W 32 9 5 ⟨r, 0, none⟩ 1 [UInt8.ofNat (97 + j)] Try.underlying32 Try.underlying5 Try.underlying9 fun k hk => ?_
  have hk0 : k = 0 := by simp at hk; omega
  subst hk0
  rw [Addr.add_mid, Nat.zero_add]
  show W.cell? ⟨r, 0, none⟩ = some (.int .u8 ((UInt8.ofNat (97 + j)).toNat : Int))
  rw [e]
  exact hb.cell 0
theorem named_mem {w w' : World} {u : Value} (s : ByteArray) (hs : List Hsh) (hso : s.size ≤ maxLen) (hho : ∀ h ∈ hs, okH h) (hm : Mem w w' [ownE w.heap.size 72 43 u hs.length ((ndsH (hs.take hs.length)).flatMap nC)]) : Mem w w' [drvE w.heap.size (namedP s hs) u (.slice none 0 0)] := by
  have h1 := hm.own 0 rfl
  rw [List.take_length] at h1
  refine hm.refit (e' := drvE w.heap.size (namedP s hs) u (.slice none 0 0)) 0 rfl (drvE_ok _ _ _ _) ⟨hso, ndsH_ok hho, (fun x hx => by cases hx), (show w'.ownsRow _ _ _ _ (ndsH hs).length _ by rw [ndsH_len]; exact h1), World.ownsRow_nil _ _ _ _⟩ fun b hf => ?_
  rcases hf with hf | hf
  · exact hf
  · cases hf
set_option maxHeartbeats 2000000 in
theorem named_any (w : World) (s : ByteArray) (hso : s.size ≤ maxLen) (hs : List Hsh) (A : Option Addr) (cap : Nat) (h : hashesLay.At w w.heap.size [.slice A hs.length cap] hs) (hl9 : hs.length ≤ 100) :
    Calls Try.prog 16 #[.string s, .slice A hs.length cap] w fun e w' => ∃ u, e = .returned (.agg (dC (namedP s hs) u (.slice none 0 0)).toArray) ∧ u.oneCell' = true ∧ Mem w w' [drvE w.heap.size (namedP s hs) u (.slice none 0 0)] := by
  have hho9 : ∀ h ∈ hs, okH h := fun x hx => by
    obtain ⟨cs, hat⟩ := slice_allD h hx
    exact (hashLay_at.1 hat).2
  obtain ⟨A', cap', e, _, _, _, hA⟩ := slice_open h
  injection e with e1 e2 e3
  subst e1 e3
  have HA := hide hA
  clear hA h e2
  have H0 := hide (Mem.start w)
  go_enter Try.func16, Try.ntmps16
  go_wp2_with (first | ((with_reducible refine at_slot 4 ?_); (refine wpList_newZ (o := ⟨some 4, _, _, _, _, _⟩) rfl 34 zcD (by kernel_rfl) ?_); intro w1 hn; have H1 := hide (Mem.new1 H0.out hn); clear hn; simp only [Act.put, List.setIfInBounds_toArray, List.set_cons_zero, List.set_cons_succ]) | ((with_reducible refine at_slot 8 ?_); (refine wpList_value (o := ⟨some 8, _, _, _, _, _⟩) rfl (.agg (dC (nameO s) (.slice none 0 0) (.slice none 0 0)).toArray) w1 (by kernel_rfl) ?_)) | ((with_reducible refine at_slot 5 ?_); (refine wpList_newZ (o := ⟨some 5, _, _, _, _, _⟩) rfl 34 zcD (by kernel_rfl) ?_); intro w2 hn; have H2 := hide (Mem.new1 H1.out hn); clear hn; simp only [Act.put, List.setIfInBounds_toArray, List.set_cons_zero, List.set_cons_succ]) | ((with_reducible refine at_store 5 8 ?_); (with_reducible refine wpList_store_blkA (o := ⟨none, _, _, _, _, _⟩) rfl 34 (.tmp 5) (.tmp 8) rfl w1.heap.size zcD (dC (nameO s) (.slice none 0 0) (.slice none 0 0)).toArray 34 (Mem.blk H2.out 0 rfl) ?_ ?_ ?_ ?_ ?_ ?_); (exact (dC_sz (nameO s) (.slice none 0 0) (.slice none 0 0))); (exact sz_eq zcD_sz (dC_sz (nameO s) (.slice none 0 0) (.slice none 0 0))); (exact (dC_1 (nameO s) rfl rfl)); rfl; rfl; intro w3 hk hg; have H3 := hide (Mem.st H2.out 0 rfl hk hg); clear hk hg; simp only [Act.put, List.setIfInBounds_toArray, List.set_cons_zero, List.set_cons_succ]))
  go_loopw [6] (fun x6 wr => ∃ (j : Nat) (u : Value), j ≤ hs.length ∧ x6 = .int .i64 (j : Int) ∧ Mem w wr [ownE w.heap.size 72 43 u j ((ndsH (hs.take j)).flatMap nC), blkE w1.heap.size 34 (dC (nameO s) u (.slice none 0 0)).toArray, blkE w.heap.size 34 zcD]) (fun x6 _ => hs.length - (intOf x6).toNat)
  case atStart => exact ⟨0, _, by omega, rfl, (Mem.nilRow H3.out _ _ _).pick [0, 1, 2] (by decide) rfl⟩
  case round =>
    obtain ⟨wo, rfl⟩ : ∃ wo, wo = wr := ⟨_, rfl⟩
    obtain ⟨j, u, hj, rfl, hm⟩ := hrel
    have HM := hide hm
    have hu1 : u.oneCell' = true := by obtain ⟨A9, c9, e9⟩ := own_len (Mem.own hm 0 rfl); rw [e9]; rfl
    clear hm
    have j0 : (0 : Int) ≤ (j : Int) := by omega
    by_cases hj2 : j < hs.length
    · have j1 : (j : Int) < (hs.length : Int) := by omega
      obtain ⟨h, hh⟩ : ∃ h, hs[j]? = some h := ⟨_, List.getElem?_eq_getElem (by omega)⟩
      obtain ⟨b, off, rfl, hltb, hE⟩ := HA.out (by omega)
      obtain ⟨cs, hrh, hath⟩ := hE j h hh
      clear hE
      obtain ⟨rfl, hho⟩ := hashLay_at.1 hath
      have HX := hide (And.intro hrh (And.intro hltb hh))
      have hst := ndsH_step hh
      have HST := hide hst
      have hbr : ∀ b, u.ownBlock = some b → b < wo.heap.size := fun b hb => (owned_ltN (Mem.own HM.out 0 rfl) hb).2
      have hbs : w.heap.size ≤ wo.heap.size := (Mem.below HM.out).size
      clear hrh hltb hath hh hst
      go_wp2_with fail
      refine Two.wp_made (X := Two.GX (Two.G1 29 (u).ownBlock) (Two.RowK w.heap.size 72 43 u j ((ndsH (hs.take j)).flatMap nC))) (Y := Two.GY (Two.G1 29 (u).ownBlock) (Two.RowK w.heap.size 72 43 u j ((ndsH (hs.take j)).flatMap nC))) 15 [] (by kernel_rfl) [(20, OneR wo.heap.size 5 [.int .u8 ((97 + j : Nat) : Int)]), (28, OneR wo.heap.size 72 (nC (namH j h))), (29, GrownR wo.heap.size w.heap.size 72 43 u (j + 1) ((ndsH (hs.take (j + 1))).flatMap nC))] (by kernel_rfl) (by kernel_rfl) (by intro p hp; simp only [List.mem_cons, List.not_mem_nil, or_false] at hp; rcases hp with rfl | rfl | rfl; exact Two.madeOk_new (fun u w w' h hg => oneR_two h hg hbr); exact Two.madeOk_new (fun u w w' h hg => oneR_two h hg hbr); exact Two.madeOk_turn (fun u w w' h hb => grownR_keep h hb)) (by simp) (by simp) ?_
      simp only [List.take_succ_cons, List.take_zero, List.drop_succ_cons, List.drop_zero]
      refine Two.made_val (.pointer (some ⟨w1.heap.size, 1, none⟩)) (by kernel_rfl) (by kernel_rfl) (by kernel_rfl) (fun _ _ => by kernel_rfl) ?_
      simp only [Act.put, List.setIfInBounds_toArray, List.set_cons_zero, List.set_cons_succ]
      refine Two.made_val (u) (by kernel_rfl) (by kernel_rfl) (by kernel_rfl) (fun W9 hW9 => (exec_load_cell (o := ⟨some 16, _, _, _, _, _⟩) 31 (.tmp 15) rfl ⟨w1.heap.size, 1, none⟩ rfl _ _ W9 Try.underlying31 rfl (range_cell (dC_ins (Blk.range (Mem.blk (Mem.away HM.out 0 rfl (Two.GX.grown hW9)) 1 rfl)))))) ?_
      simp only [Act.put, List.setIfInBounds_toArray, List.set_cons_zero, List.set_cons_succ]
      refine Two.made_val (.int .i64 (j : Int)) (by kernel_rfl) (by kernel_rfl) (by kernel_rfl) (fun _ _ => by kernel_rfl) ?_
      simp only [Act.put, List.setIfInBounds_toArray, List.set_cons_zero, List.set_cons_succ]
      refine Two.made_val (.int .i64 ((97 + j : Nat) : Int)) (by kernel_rfl) (by kernel_rfl) (by kernel_rfl) (fun W9 hW9 => ?hs1) ?_
      case hs1 =>
        go_simp
        all_goals (rw [Go.IntWalk.i64_in _ (by omega)])
      simp only [Act.put, List.setIfInBounds_toArray, List.set_cons_zero, List.set_cons_succ]
      refine Two.made_val (.int .u8 ((97 + j : Nat) : Int)) (by kernel_rfl) (by kernel_rfl) (by kernel_rfl) (fun W9 hW9 => ?hs2) ?_
      case hs2 =>
        go_simp
        all_goals (rw [Go.IntWalk.u8_in _ (by omega)])
      simp only [Act.put, List.setIfInBounds_toArray, List.set_cons_zero, List.set_cons_succ]
      refine Two.made_new 20 _ (by kernel_rfl) (by kernel_rfl) rfl rfl (fun W hW => oneG (oneR_new (o := ⟨some 20, _, _, _, _, _⟩) 32 5 (.tmp 19) rfl (z := .int .u8 0) (cs := [.int .u8 ((97 + j : Nat) : Int)]) (v := .int .u8 ((97 + j : Nat) : Int)) rfl rfl Try.underlying32 (n := 1) (by kernel_rfl) (by decide) (by decide) (fun w => by kernel_rfl) rfl W (Two.GX.grown hW).size)) ?_
      simp only [Act.put, List.setIfInBounds_toArray, List.set_cons_zero, List.set_cons_succ]
      refine Two.made_val1 20 _ (.string ⟨#[UInt8.ofNat (97 + j)]⟩) (by kernel_rfl) rfl (by kernel_rfl) (by kernel_rfl) (fun u W hW hu => exec_convert (o := ⟨some 21, _, _, _, _, _⟩) 32 9 (.tmp 20) rfl u rfl _ (oneR_text (by omega) hu)) ?_
      simp only [Act.put, List.setIfInBounds_toArray, List.set_cons_zero, List.set_cons_succ]
      refine Two.made_val (.slice (some ⟨b, off, none⟩) hs.length cap) (by kernel_rfl) (by kernel_rfl) (by kernel_rfl) (fun _ _ => by kernel_rfl) ?_
      simp only [Act.put, List.setIfInBounds_toArray, List.set_cons_zero, List.set_cons_succ]
      refine Two.made_val (.int .i64 (j : Int)) (by kernel_rfl) (by kernel_rfl) (by kernel_rfl) (fun _ _ => by kernel_rfl) ?_
      simp only [Act.put, List.setIfInBounds_toArray, List.set_cons_zero, List.set_cons_succ]
      refine Two.made_val (.pointer (some ⟨b, off + j * 20, none⟩)) (by kernel_rfl) (by kernel_rfl) (by kernel_rfl) (fun W9 hW9 => (exec_idxO (o := ⟨some 24, _, _, _, _, _⟩) 45 27 (.tmp 22) (.tmp 23) rfl b off hs.length cap j rfl rfl hj2 20 Try.underlying45 sz_hashD W9)) ?_
      simp only [Act.put, List.setIfInBounds_toArray, List.set_cons_zero, List.set_cons_succ]
      refine Two.made_val (.agg (bv h).toArray) (by kernel_rfl) (by kernel_rfl) (by kernel_rfl) (fun W9 hW9 => (exec_load_mid (o := ⟨some 25, _, _, _, _, _⟩) 27 (.tmp 24) rfl b (off + j * 20) rfl (bv h) _ W9 (Mem.range (Mem.away HM.out 0 rfl (Two.GX.grown hW9)) HX.out.1 HX.out.2.1) Try.underlying27 rfl (hszL hho))) ?_
      simp only [Act.put, List.setIfInBounds_toArray, List.set_cons_zero, List.set_cons_succ]
      refine Two.made_val (.agg (iC ((List.replicate 20 0, ⟨#[]⟩), h, true)).toArray) (by kernel_rfl) (by kernel_rfl) (by kernel_rfl) (fun W9 hW9 => exec_inpH (o := ⟨some 26, _, _, _, _, _⟩) (.tmp 25) (.const (.bool true)) rfl hho rfl rfl W9) ?_
      simp only [Act.put, List.setIfInBounds_toArray, List.set_cons_zero, List.set_cons_succ]
      refine Two.made_val (.agg (nC (namH j h)).toArray) (by kernel_rfl) (by kernel_rfl) (by kernel_rfl) (fun W9 hW9 => exec_namH (o := ⟨some 27, _, _, _, _, _⟩) (.tmp 21) (.tmp 26) rfl hho rfl rfl W9) ?_
      simp only [Act.put, List.setIfInBounds_toArray, List.set_cons_zero, List.set_cons_succ]
      refine Two.made_new 28 _ (by kernel_rfl) (by kernel_rfl) rfl rfl (fun W hW => oneG (oneR_new (o := ⟨some 28, _, _, _, _, _⟩) 31 72 (.tmp 27) rfl (z := .agg zcN) (cs := nC (namH j h)) (v := .agg (nC (namH j h)).toArray) rfl rfl Try.underlying31 (n := 43) sz_namD (by decide) (by decide) (fun w => by kernel_rfl) (nC_len (namH_ok j hho)) W (Two.GX.grown hW).size)) ?_
      simp only [Act.put, List.setIfInBounds_toArray, List.set_cons_zero, List.set_cons_succ]
      refine Two.made_new1 28 _ 29 _ (by kernel_rfl) rfl (by kernel_rfl) rfl rfl (fun u1 W hW hu => by obtain ⟨r, rfl, _, hk⟩ := hu; rw [HST.out]; exact grownR_new (o := ⟨some 29, _, _, _, _, _⟩) (t := 29) (.tmp 16) (.tmp 28) 31 72 rfl Try.underlying31 info_namI rfl (by decide) HM.out 0 rfl hbs hW (by decide) rfl rfl (OneR.src hk (nC_len (namH_ok j hho)) (nC_one _)) (by simp only [maxLen]; omega) (by omega)) ?_
      simp only [Act.put, List.setIfInBounds_toArray, List.set_cons_zero, List.set_cons_succ]
      intro w4 hx
      dsimp only [Two.ended, List.drop]
      rintro u20 _ u28 _ u29 hr
      have H4 := hide (grownR_mem HM.out 0 rfl hx hr)
      have hu2 : u29.oneCell' = true := by obtain ⟨A9, c9, e9⟩ := own_len hr.1; rw [e9]; rfl
      clear hx hr
      go_wp2_with (((with_reducible refine at_store 30 29 ?_); (refine wpList_store1 (o := ⟨none, _, _, _, _, _⟩) rfl 31 (.tmp 30) (.tmp 29) rfl w1.heap.size (1) 34 (dC (nameO s) u (.slice none 0 0)).toArray (Mem.blk H4.out 1 rfl) (Nat.le_of_ble_eq_true rfl) (by kernel_rfl) (u29) hu2 rfl rfl ?_); intro w5 hk hg hz; have H5 := hide (Mem.st (cs' := (dC (nameO s) u29 (.slice none 0 0)).toArray) H4.out 1 rfl hk hg); clear hk hg hz; simp only [Act.put, List.setIfInBounds_toArray, List.set_cons_zero, List.set_cons_succ]))
      go_roundw
      case rel => exact ⟨j + 1, u29, by omega, by go_num, Mem.pick H5.out [0, 1, 2] (by decide) rfl⟩
      case measure => simp [intOf]; omega
    · obtain rfl : j = hs.length := by omega
      go_wp2_with (first | ((with_reducible refine at_slot 31 ?_); (refine wpList_value (o := ⟨some 31, _, _, _, _, _⟩) rfl (.agg (dC (nameO s) u (.slice none 0 0)).toArray) wo (exec_load_mid (o := ⟨some 31, _, _, _, _, _⟩) 34 (.tmp 5) rfl w1.heap.size (0) rfl (dC (nameO s) u (.slice none 0 0)) _ wo (Blk.range (Mem.blk HM.out 1 rfl)) Try.underlying34 rfl (dC_szl (nameO s) u (.slice none 0 0))) ?_)) | ((with_reducible refine at_store 4 31 ?_); (with_reducible refine wpList_store_blkA (o := ⟨none, _, _, _, _, _⟩) rfl 34 (.tmp 4) (.tmp 31) rfl w.heap.size zcD (dC (nameO s) u (.slice none 0 0)).toArray 34 (Mem.blk HM.out 2 rfl) ?_ ?_ ?_ ?_ ?_ ?_); (exact (dC_sz (nameO s) u (.slice none 0 0))); (exact sz_eq zcD_sz (dC_sz (nameO s) u (.slice none 0 0))); (exact (dC_1 (nameO s) hu1 rfl)); rfl; rfl; intro w6 hk hg; have H6 := hide (Mem.st HM.out 2 rfl hk hg); clear hk hg; simp only [Act.put, List.setIfInBounds_toArray, List.set_cons_zero, List.set_cons_succ]))
      refine bodyPost_ret (results_one (r1 := .cell 4 34) rfl ⟨⟨_, rfl, ld_agg (Blk.range (Mem.blk H6.out 2 rfl)) Try.underlying34 rfl (dC_szl _ _ _)⟩, trivial⟩) rfl ⟨u, rfl, hu1, named_mem s hs hso hho9 (Mem.pick H6.out [0] (by decide) rfl)⟩
end Go.Proofs.Ytidiepbmbbflhaa
end
section
namespace Go.Proofs.Ytidiepbmbbflhaa
open Go Go.RowKit Go.Maps
set_option maxRecDepth 100000
theorem DrvAt.okn9 {w : World} {B : Nat} {d : Drv} {v1 v2 : Value} (h : DrvAt w B d v1 v2) : ∀ x ∈ d.2.1, okN x := fun x hx => by
  obtain ⟨cs, hat⟩ := slice_allD h.ins hx
  exact (namLay_at.1 hat).2
theorem findD_no {l : List Itm} {c : Hsh} (h : findI l c = none) : findD l c = (⟨#[]⟩, [], []) := by
  unfold findD
  unfold findI at h
  rw [h]
  rfl
theorem exec_assign {P : Program} {ρ : Operand → Value} {o : Oper} (x : Operand) (ho : o.op = .assign x) {u : Value} (hx : ρ x = u) (w : World) : (execOp ρ o).run P w = .ok (.value u) w := by
  unfold execOp
  simp only [ho, hx, Sem.run_pure]
theorem OwnDrv.two {w w' : World} {B : Nat} {d : Drv} {u1 u2 : Value} {r : Option Nat} (h : OwnDrv w B d u1 u2) (hg : w.grownBy w' r) (hr : ∀ b, r = some b → b < B) : OwnDrv w' B d u1 u2 :=
  drvE_ok B d u1 u2 w w' h fun b hf hl => hg.block b hl fun e => by
    have h1 := (drvE_lt h hf).1
    have h2 := hr b e.symm
    omega
theorem drvU_two {w w' : World} {B : Nat} {d : Drv} {u : Value} {r : Option Nat} (h : DrvU B d u w) (hg : w.grownBy w' r) (hr : ∀ b, r = some b → b < B) : DrvU B d u w' := by
  obtain ⟨p, h1, h2⟩ := h
  exact ⟨p, h1, h2.two hg hr⟩
theorem itmU_two {w w' : World} {B : Nat} {x : Itm} {u : Value} {r : Option Nat} (h : ItmU B x u w) (hg : w.grownBy w' r) (hr : ∀ b, r = some b → b < B) : ItmU B x u w' := by
  obtain ⟨p, h1, h2⟩ := h
  exact ⟨p, h1, h2.two hg hr⟩
theorem rowU_two {w w' : World} {B : Nat} {x : Itm} {u : Value} {r : Option Nat} (h : RowU B x u w) (hg : w.grownBy w' r) (hr : ∀ b, r = some b → b < B) : RowU B x u w' := by
  obtain ⟨g, p, h1, h0, h2, h3⟩ := h
  exact ⟨g, p, h1, h0, (hg.block g h2.lt fun e => by have := hr g e.symm; omega).trans h2, h3.two hg hr⟩
theorem twoX {P : Prop} {run : Value → World → Prop} {V : Value → World → Prop} {W : World} {t : Tmp} {r : Option Nat} {K : World → Prop} [Two.KeptOk K] {d : Option Tmp} (h : ∃ u w', run u w' ∧ Fre.Ext Bel W w' ∧ V u w') (_ : P) : ∃ u w', run u w' ∧ Two.GY (Two.G1 t r) K d W w' ∧ V u w' := by
  obtain ⟨u, w', h1, h2, h3⟩ := h
  exact ⟨u, w', h1, Two.GY.of_below h2, h3⟩
abbrev RowT (B : Nat) (u : Value) (ls : List ItmV) : World → Prop := Two.RowK B 43 23 u ls.length (ls.flatMap tV)
/-- the row, an item longer -/
def GrownU (B base : Nat) (u0 : Value) (ls : List ItmV) (x : Itm) (u : Value) (w : World) : Prop := ∃ p : Value × Value, OwnDrv w B x.2 p.1 p.2 ∧ w.ownsRow base 43 23 u (ls ++ [(x, p)]).length ((ls ++ [(x, p)]).flatMap tV) ∧ ∀ b, u.ownBlock = some b → u0.ownBlock = some b ∨ B ≤ b
theorem grownU_keep {B base : Nat} {u0 : Value} {ls : List ItmV} {x : Itm} {u : Value} {w w' : World} (h : GrownU B base u0 ls x u w) (hb : Below w.heap.size w w') : GrownU B base u0 ls x u w' := by
  obtain ⟨p, h1, h2, h3⟩ := h
  exact ⟨p, h1.belo hb, owned_keepN h2 fun _ _ hl => hb.block _ hl, h3⟩
theorem grownU_new {ρ : Operand → Value} {o : Oper} (x y : Operand) (ho : o.op = .call { callee := .builtin .append, args := #[x, y], argTypes := #[25, 25] }) (hty : o.type = 25) {w0 w W : World} {L : List Ent} {t : Tmp} {base : Nat} {u0 u : Value} {ls : List ItmV} {z : Itm} (hm : Mem w0 w L) (i : Nat) (hi : L[i]? = some (ownE base 43 23 u0 ls.length (ls.flatMap tV))) (hbs : base ≤ w.heap.size)
    (hW : Two.GX (Two.G1 t u0.ownBlock) (RowT base u0 ls) w W) (hz : okH z.1) (hl : ls.length ≤ 1000000) (hx : ρ x = u0) (hy : ρ y = u) (hu : RowU w.heap.size z u W) :
    ∃ u' w', (execOp ρ o).run Try.prog W = .ok (.value u') w' ∧ Two.GY (Two.G1 t u0.ownBlock) (RowT base u0 ls) (some t) W w' ∧ GrownU w.heap.size base u0 ls z u' w' := by
  obtain ⟨r, p, rfl, hBr, hk, hd⟩ := hu
  have hown : W.ownsRow base 43 23 u0 ls.length (ls.flatMap tV) := hW.keep (hm.own i hi)
  have hsr := box_srcN (n := 23) (m := 1) hk (tC_len hz) (tC_one z (OwnDrv.ones hd).1 (OwnDrv.ones hd).2)
  obtain ⟨inm, hih, hq0, hq1, hq2⟩ := info_parts info_itm2
  obtain ⟨v', w', k1, k2, k3, k4⟩ := run_appG (P := Try.prog) base 25 25 43 inm _ 23 88 Try.underlying25 hih hq0 hq1 hq2 rfl (by decide) u0 ls.length _ hown ⟨r, 0, none⟩ 1 1 _ hsr.len (hsr.cells _ rfl) hsr.one (by decide) (by simp only [maxLen]; omega) (by omega) (Nat.le_trans hbs hW.size)
  refine ⟨v', w', ?_, Two.GY.of_grown k3 fun _ => ?_, p, hd.two k3 fun b hb => (owned_ltN (hm.own i hi) hb).2, by simpa [tV] using k2, fun b hb => ?_⟩
  · unfold execOp
    simp only [ho, hty, resolve, invoke, builtin, Sem.run_bind, Sem.run_pure, Result.andThen_ok, List.map_toArray, List.map_cons, List.map_nil, hx, hy, k1]
  · rcases k4 with ⟨g, cap, e1, e2⟩ | ⟨_, hb⟩
    · rw [e2] at k2
      have h9 := own_cutN k2 (Nat.le_add_right ls.length 1)
      rw [List.take_append_of_le_length (by rw [hown.1]; exact Nat.le_refl _), List.take_of_length_le (by rw [hown.1]; exact Nat.le_refl _)] at h9
      rw [e1]
      exact h9
    · exact owned_keepN hown fun _ _ hl => hb.block _ hl
  · rcases k4 with ⟨g, cap, e1, e2⟩ | ⟨e1, _⟩
    · rw [e2] at hb
      rw [e1]
      exact .inl hb
    · rw [e1] at hb
      have := Option.some.inj hb
      have := hW.size
      exact .inr (by omega)
theorem grown_mem {w0 w w1 : World} {L : List Ent} {t : Tmp} {base : Nat} {u0 u : Value} {ls : List ItmV} {z : Itm} {p : Value × Value} (hm : Mem w0 w L) (i : Nat) (hi : L[i]? = some (ownE base 43 23 u0 ls.length (ls.flatMap tV))) (hbs : base ≤ w.heap.size) (hx : Two.GX (Two.G1 t u0.ownBlock) (RowT base u0 ls) w w1)
    (ho : OwnDrv w1 w.heap.size z.2 p.1 p.2) (hr : w1.ownsRow base 43 23 u (ls ++ [(z, p)]).length ((ls ++ [(z, p)]).flatMap tV)) (hf : ∀ b, u.ownBlock = some b → u0.ownBlock = some b ∨ w.heap.size ≤ b) :
    Mem w0 w1 (drvE base z.2 p.1 p.2 :: L.set i (ownE base 43 23 u (ls ++ [(z, p)]).length ((ls ++ [(z, p)]).flatMap tV))) := by
  have h1 := hm.upd i hi hx.grown (fun _ h => h) (ownE_ok _ _ _ _ _ _) hr fun b hb => (hf b hb).imp id fun h => ⟨h, (owned_ltN hr hb).2⟩
  refine h1.cons (drvE_ok _ _ _ _) (ho.lower hbs) fun b hb => ?_
  have hlt := drvE_lt ho hb
  refine ⟨Nat.le_trans hm.below.size hlt.1, hlt.2, fun y hy hyF => ?_⟩
  rcases List.mem_or_eq_of_mem_set hy with hy | rfl
  · have := (hm.lo y hy b hyF).2
    omega
  · have hyF : u.ownBlock = some b := hyF
    rcases hb with hb | hb
    · rcases owned_formN ho.own1 with ⟨e, _⟩ | ⟨g, cap, cur, e, _, _, _, hk, _⟩
      · rw [e] at hb; cases hb
      · rw [e] at hb
        have e2 : g = b := Option.some.inj hb
        subst e2
        exact owned_neN hr hk (by decide) hyF
    · rcases owned_formN ho.own2 with ⟨e, _⟩ | ⟨g, cap, cur, e, _, _, _, hk, _⟩
      · rw [e] at hb; cases hb
      · rw [e] at hb
        have e2 : g = b := Option.some.inj hb
        subst e2
        exact owned_neN hr hk (by decide) hyF
set_option maxHeartbeats 4000000 in
theorem addW_any (w : World) (l : List Itm) (A : Option Addr) (cap : Nat) (h : itmsLay.At w w.heap.size [.slice A l.length cap] l) (hl : ∀ x ∈ l, x.2.2.1.length ≤ 1000000 ∧ x.2.2.2.length ≤ 1000000) (hn : l.length ≤ 1000000)
    (d : Drv) (v1 v2 : Value) (hd : DrvAt w w.heap.size d v1 v2) (hdl : d.2.1.length ≤ 1000000 ∧ d.2.2.length ≤ 1000000) (c : Hsh) (hc : hofP d = c) (r : List Itm × Hsh × Int) (hr : addP hofP l d = r) :
    Calls Try.prog 20 #[.slice A l.length cap, .agg (dC d v1 v2).toArray] w fun e w' => AddQ w r e w' := by
  have hcc : okH c := hc ▸ hofP_ok d
  obtain ⟨ho1, ho2⟩ := hd.ones
  have HAT := hide h
  have HL := hide hl
  have HD := hide hd
  have HC := hide hc
  have HR := hide hr
  clear h hl hd hc hr
  cases htb : tabP hofP l
  · have HTB := hide htb
    clear htb
    have H0 := hide (Mem.start w)
    go_enter Try.func20, Try.ntmps20
    go_wp2_with (first | ((with_reducible refine at_slot 3 ?_); (refine wpList_boxA (o := ⟨some 3, _, _, _, _, _⟩) rfl 34 (.tmp 1) rfl (dC d v1 v2).toArray rfl ?_); intro w1 hn; have H1 := hide (Mem.new1 H0.out hn); clear hn; simp only [Act.put, List.setIfInBounds_toArray, List.set_cons_zero, List.set_cons_succ]) | ((with_reducible refine at_slot 5 ?_); (refine wpList_newZ (o := ⟨some 5, _, _, _, _, _⟩) rfl 27 zcH (by kernel_rfl) ?_); intro w2 hn; have H2 := hide (Mem.new1 H1.out hn); clear hn; simp only [Act.put, List.setIfInBounds_toArray, List.set_cons_zero, List.set_cons_succ]))
    refine (tableB w2 l A cap (Mem.lay H2.out HAT.out) (fun x hx => (HL.out x hx).1) false HTB.out).mono ?_
    rintro e w3 ⟨rfl, hb⟩
    dsimp only
    have H3 := hide (Mem.call H2.out hb)
    clear hb
    go_wp2_with fail
    refine (must_no 2 w3).mono ?_
    rintro e wz ⟨rfl, hwz⟩
    rw [hwz]
    clear hwz
    dsimp only
    change bodyPost Try.prog Try.f20 _ _ _ _
    simp only [bodyPost]
    exact ⟨trivial, AddQ.no (HR.out.symm.trans (addP_2 HTB.out)) (by decide) rfl (Mem.below H3.out)⟩
  · have HTB := hide htb
    clear htb
    by_cases hp : putE d = 0
    · have HP := hide hp
      clear hp
      have hts : (textP d).size ≤ 2000 := text_small HP.out
      have hcl : (clsP d.2.1).length ≤ 1000000 := Nat.le_trans (clsP_le d.2.1) hdl.1
      have H0 := hide (Mem.start w)
      go_enter Try.func20, Try.ntmps20
      go_wp2_with (first | ((with_reducible refine at_slot 3 ?_); (refine wpList_boxA (o := ⟨some 3, _, _, _, _, _⟩) rfl 34 (.tmp 1) rfl (dC d v1 v2).toArray rfl ?_); intro w7 hn; have H7 := hide (Mem.new1 H0.out hn); clear hn; simp only [Act.put, List.setIfInBounds_toArray, List.set_cons_zero, List.set_cons_succ]) | ((with_reducible refine at_slot 5 ?_); (refine wpList_newZ (o := ⟨some 5, _, _, _, _, _⟩) rfl 27 zcH (by kernel_rfl) ?_); intro w8 hn; have H8 := hide (Mem.new1 H7.out hn); clear hn; simp only [Act.put, List.setIfInBounds_toArray, List.set_cons_zero, List.set_cons_succ]))
      refine (tableB w8 l A cap (Mem.lay H8.out HAT.out) (fun x hx => (HL.out x hx).1) true HTB.out).mono ?_
      rintro e w9 ⟨rfl, hb⟩
      dsimp only
      have H9 := hide (Mem.call H8.out hb)
      clear hb
      go_wp2_with fail
      refine (must_ok 2 w9).mono ?_
      rintro e wz ⟨rfl, hwz⟩
      rw [hwz]
      clear hwz
      dsimp only
      go_wp2_with (((with_reducible refine at_slot 18 ?_); (refine wpList_value (o := ⟨some 18, _, _, _, _, _⟩) rfl (.agg (dC d v1 v2).toArray) w9 (exec_load_mid (o := ⟨some 18, _, _, _, _, _⟩) 34 (.tmp 3) rfl w.heap.size (0) rfl (dC d v1 v2) _ w9 (Blk.range (Mem.blk H9.out 1 rfl)) Try.underlying34 rfl (dC_szl d v1 v2)) ?_)))
      refine (written_ok w9 d v1 v2 (Mem.drv H9.out HD.out) HP.out).mono ?_
      rintro e w10 ⟨g, cp, rfl, k1, k2, k3, k4, hb⟩
      dsimp only
      have H10 := hide (Mem.seq H9.out (byt_made k1 k3 k4 hb))
      clear k1 k3 k4 hb
      go_wp2_with (((with_reducible refine at_slot 21 ?_); (refine wpList_row1 (o := ⟨some 21, _, _, _, _, _⟩) rfl 88 (.tmp 20) rfl 32 1 (.slice none 0 0) (.slice (some ⟨g, 0, none⟩) (textP d).size cp) rfl Try.underlying88 (by kernel_rfl) (by decide) (by decide) (fun w => by kernel_rfl) rfl ?_); intro w11 hn; have H11 := hide (Mem.new1 H10.out hn); clear hn; simp only [Act.put, List.setIfInBounds_toArray, List.set_cons_zero, List.set_cons_succ]))
      refine (ofW_any w11 _ g cp (textP d) (Mem.blk H11.out 0 rfl) (Mem.get (e := bytE g (textP d)) H11.out 1 rfl) k2 c HC.out hts).mono ?_
      rintro e w12 ⟨rfl, hb⟩
      dsimp only
      have H12 := hide (Mem.call H11.out hb)
      clear hb
      go_wp2_with (first | ((with_reducible refine at_slot 7 ?_); (refine wpList_newZ (o := ⟨some 7, _, _, _, _, _⟩) rfl 27 zcH (by kernel_rfl) ?_); intro w13 hn; have H13 := hide (Mem.new1 H12.out hn); clear hn; simp only [Act.put, List.setIfInBounds_toArray, List.set_cons_zero, List.set_cons_succ]) | ((with_reducible refine at_store 7 22 ?_); (with_reducible refine wpList_store_blkA (o := ⟨none, _, _, _, _, _⟩) rfl 27 (.tmp 7) (.tmp 22) rfl w12.heap.size zcH (bv c).toArray 27 (Mem.blk H13.out 0 rfl) ?_ ?_ ?_ ?_ ?_ ?_); (exact (hszD hcc)); (exact sz_eq zcH_sz (hszD hcc)); (exact (bv_1 c)); rfl; rfl; intro w14 hk hg; have H14 := hide (Mem.st H13.out 0 rfl hk hg); clear hk hg; simp only [Act.put, List.setIfInBounds_toArray, List.set_cons_zero, List.set_cons_succ]) | ((with_reducible refine at_slot 23 ?_); (refine wpList_value (o := ⟨some 23, _, _, _, _, _⟩) rfl (.agg (dC d v1 v2).toArray) w14 (exec_load_mid (o := ⟨some 23, _, _, _, _, _⟩) 34 (.tmp 3) rfl w.heap.size (0) rfl (dC d v1 v2) _ w14 (Blk.range (Mem.blk H14.out 4 rfl)) Try.underlying34 rfl (dC_szl d v1 v2)) ?_)))
      refine (classesM w14 d v1 v2 (Mem.drv H14.out HD.out) hdl.1).mono ?_
      rintro e w15 ⟨A2, c2, rfl, hm⟩
      dsimp only
      have H15 := hide (Mem.seq H14.out hm)
      clear hm
      go_wp2_with fail
      go_loopw [26] (fun x26 wr => ∃ j : Nat, j ≤ (clsP d.2.1).length ∧ x26 = .int .i64 (j : Int) ∧ (∀ c ∈ (clsP d.2.1).take j, (findI l c).isSome = true) ∧ Mem w wr [ownE w14.heap.size 27 20 (.slice A2 (clsP d.2.1).length c2) (clsP d.2.1).length ((clsP d.2.1).flatMap bv), blkE w12.heap.size 27 (bv c).toArray, bytE g (textP d), blkE w7.heap.size 27 zcH, blkE w.heap.size 34 (dC d v1 v2).toArray]) (fun x26 _ => (clsP d.2.1).length - (intOf x26).toNat)
      case atStart => exact ⟨0, by omega, rfl, (fun c hc => by simp at hc), Mem.pick H15.out [0, 1, 3, 4, 5] (by decide) rfl⟩
      case round =>
        obtain ⟨wo, rfl⟩ : ∃ wo, wo = wr := ⟨_, rfl⟩
        obtain ⟨j, hj, rfl, hall, hm⟩ := hrel
        have HM := hide hm
        have HALL := hide hall
        clear hm hall
        have j0 : (0 : Int) ≤ (j : Int) := by omega
        by_cases hj2 : j < (clsP d.2.1).length
        · have j1 : (j : Int) < ((clsP d.2.1).length : Int) := by omega
          obtain ⟨z, hz⟩ : ∃ z, (clsP d.2.1)[j]? = some z := ⟨_, List.getElem?_eq_getElem hj2⟩
          obtain ⟨gq, cq, eq9, hgq⟩ := own_is (Mem.own HM.out 0 rfl) (by omega)
          injection eq9 with e1 _ e3
          subst e1 e3
          have hzo : okH z := cls_ok HD.out.okn9 z (List.mem_of_getElem? hz)
          have HZ := hide hz
          have HGQ := hide hgq
          clear hz hgq
          cases hfi : (findI l z).isSome
          · have HFI := hide hfi
            clear hfi
            go_wp2_with (first | ((with_reducible refine at_slot 28 ?_); (refine wpList_value (o := ⟨some 28, _, _, _, _, _⟩) rfl (.pointer (some ⟨gq, j * 20, none⟩)) wo (exec_idx0 45 27 (.tmp 24) (.tmp 26) rfl gq (clsP d.2.1).length c2 j rfl rfl hj2 20 Try.underlying45 sz_hashD wo) ?_)) | ((with_reducible refine at_slot 29 ?_); (refine wpList_value (o := ⟨some 29, _, _, _, _, _⟩) rfl (.agg (bv z).toArray) wo (exec_load_mid (o := ⟨some 29, _, _, _, _, _⟩) 27 (.tmp 28) rfl gq (j * 20) rfl (bv z) _ wo (own_at (f := bv) (by decide) (Mem.own HM.out 0 rfl) (fun x hx => by rw [bvL]; exact cls_ok HD.out.okn9 x hx) HZ.out) Try.underlying27 rfl (hszL hzo)) ?_)) | ((with_reducible refine at_slot 9 ?_); (refine wpList_newZ (o := ⟨some 9, _, _, _, _, _⟩) rfl 27 zcH (by kernel_rfl) ?_); intro w16 hn; have H16 := hide (Mem.new1 HM.out hn); clear hn; simp only [Act.put, List.setIfInBounds_toArray, List.set_cons_zero, List.set_cons_succ]) | ((with_reducible refine at_store 9 29 ?_); (with_reducible refine wpList_store_blkA (o := ⟨none, _, _, _, _, _⟩) rfl 27 (.tmp 9) (.tmp 29) rfl wo.heap.size zcH (bv z).toArray 27 (Mem.blk H16.out 0 rfl) ?_ ?_ ?_ ?_ ?_ ?_); (exact (hszD hzo)); (exact sz_eq zcH_sz (hszD hzo)); (exact (bv_1 z)); rfl; rfl; intro w17 hk hg; have H17 := hide (Mem.st H16.out 0 rfl hk hg); clear hk hg; simp only [Act.put, List.setIfInBounds_toArray, List.set_cons_zero, List.set_cons_succ]) | ((with_reducible refine at_slot 32 ?_); (refine wpList_value (o := ⟨some 32, _, _, _, _, _⟩) rfl (.agg (bv z).toArray) w17 (exec_load_mid (o := ⟨some 32, _, _, _, _, _⟩) 27 (.tmp 9) rfl wo.heap.size (0) rfl (bv z) _ w17 (Blk.range (Mem.blk H17.out 0 rfl)) Try.underlying27 rfl (hszL hzo)) ?_)))
            refine (findM w17 l _ (Mem.lay H17.out HAT.out) z hzo HL.out (findD l z) rfl false HFI.out).mono ?_
            rintro e w18 ⟨p1, p2, rfl, hp1, hp2, hm⟩
            dsimp only
            have H18 := hide (Mem.seq H17.out hm)
            clear hm
            go_wp2_with (first | ((with_reducible refine at_slot 10 ?_); (refine wpList_newZ (o := ⟨some 10, _, _, _, _, _⟩) rfl 34 zcD (by kernel_rfl) ?_); intro w19 hn; have H19 := hide (Mem.new1 H18.out hn); clear hn; simp only [Act.put, List.setIfInBounds_toArray, List.set_cons_zero, List.set_cons_succ]) | ((with_reducible refine at_store 10 34 ?_); (with_reducible refine wpList_store_blkA (o := ⟨none, _, _, _, _, _⟩) rfl 34 (.tmp 10) (.tmp 34) rfl w18.heap.size zcD (dC (findD l z) p1 p2).toArray 34 (Mem.blk H19.out 0 rfl) ?_ ?_ ?_ ?_ ?_ ?_); (exact (dC_sz (findD l z) p1 p2)); (exact sz_eq zcD_sz (dC_sz (findD l z) p1 p2)); (exact (dC_1 (findD l z) hp1 hp2)); rfl; rfl; intro w20 hk hg; have H20 := hide (Mem.st H19.out 0 rfl hk hg); clear hk hg; simp only [Act.put, List.setIfInBounds_toArray, List.set_cons_zero, List.set_cons_succ]))
            refine (must_no 5 w20).mono ?_
            rintro e wz ⟨rfl, hwz⟩
            rw [hwz]
            clear hwz
            dsimp only
            simp +zetaDelta only [Exit.then, Exit.inBlock]
            change bodyPost Try.prog Try.f20 _ _ _ _
            simp only [bodyPost]
            exact ⟨trivial, AddQ.no (HR.out.symm.trans (addP_5 HTB.out HP.out (List.mem_of_getElem? HZ.out) HFI.out)) (by decide) rfl (Mem.below H20.out)⟩
          · have HFI := hide hfi
            clear hfi
            go_wp2_with (first | ((with_reducible refine at_slot 28 ?_); (refine wpList_value (o := ⟨some 28, _, _, _, _, _⟩) rfl (.pointer (some ⟨gq, j * 20, none⟩)) wo (exec_idx0 45 27 (.tmp 24) (.tmp 26) rfl gq (clsP d.2.1).length c2 j rfl rfl hj2 20 Try.underlying45 sz_hashD wo) ?_)) | ((with_reducible refine at_slot 29 ?_); (refine wpList_value (o := ⟨some 29, _, _, _, _, _⟩) rfl (.agg (bv z).toArray) wo (exec_load_mid (o := ⟨some 29, _, _, _, _, _⟩) 27 (.tmp 28) rfl gq (j * 20) rfl (bv z) _ wo (own_at (f := bv) (by decide) (Mem.own HM.out 0 rfl) (fun x hx => by rw [bvL]; exact cls_ok HD.out.okn9 x hx) HZ.out) Try.underlying27 rfl (hszL hzo)) ?_)) | ((with_reducible refine at_slot 9 ?_); (refine wpList_newZ (o := ⟨some 9, _, _, _, _, _⟩) rfl 27 zcH (by kernel_rfl) ?_); intro w21 hn; have H21 := hide (Mem.new1 HM.out hn); clear hn; simp only [Act.put, List.setIfInBounds_toArray, List.set_cons_zero, List.set_cons_succ]) | ((with_reducible refine at_store 9 29 ?_); (with_reducible refine wpList_store_blkA (o := ⟨none, _, _, _, _, _⟩) rfl 27 (.tmp 9) (.tmp 29) rfl wo.heap.size zcH (bv z).toArray 27 (Mem.blk H21.out 0 rfl) ?_ ?_ ?_ ?_ ?_ ?_); (exact (hszD hzo)); (exact sz_eq zcH_sz (hszD hzo)); (exact (bv_1 z)); rfl; rfl; intro w22 hk hg; have H22 := hide (Mem.st H21.out 0 rfl hk hg); clear hk hg; simp only [Act.put, List.setIfInBounds_toArray, List.set_cons_zero, List.set_cons_succ]) | ((with_reducible refine at_slot 32 ?_); (refine wpList_value (o := ⟨some 32, _, _, _, _, _⟩) rfl (.agg (bv z).toArray) w22 (exec_load_mid (o := ⟨some 32, _, _, _, _, _⟩) 27 (.tmp 9) rfl wo.heap.size (0) rfl (bv z) _ w22 (Blk.range (Mem.blk H22.out 0 rfl)) Try.underlying27 rfl (hszL hzo)) ?_)))
            refine (findM w22 l _ (Mem.lay H22.out HAT.out) z hzo HL.out (findD l z) rfl true HFI.out).mono ?_
            rintro e w23 ⟨p1, p2, rfl, hp1, hp2, hm⟩
            dsimp only
            have H23 := hide (Mem.seq H22.out hm)
            clear hm
            go_wp2_with (first | ((with_reducible refine at_slot 10 ?_); (refine wpList_newZ (o := ⟨some 10, _, _, _, _, _⟩) rfl 34 zcD (by kernel_rfl) ?_); intro w24 hn; have H24 := hide (Mem.new1 H23.out hn); clear hn; simp only [Act.put, List.setIfInBounds_toArray, List.set_cons_zero, List.set_cons_succ]) | ((with_reducible refine at_store 10 34 ?_); (with_reducible refine wpList_store_blkA (o := ⟨none, _, _, _, _, _⟩) rfl 34 (.tmp 10) (.tmp 34) rfl w23.heap.size zcD (dC (findD l z) p1 p2).toArray 34 (Mem.blk H24.out 0 rfl) ?_ ?_ ?_ ?_ ?_ ?_); (exact (dC_sz (findD l z) p1 p2)); (exact sz_eq zcD_sz (dC_sz (findD l z) p1 p2)); (exact (dC_1 (findD l z) hp1 hp2)); rfl; rfl; intro w25 hk hg; have H25 := hide (Mem.st H24.out 0 rfl hk hg); clear hk hg; simp only [Act.put, List.setIfInBounds_toArray, List.set_cons_zero, List.set_cons_succ]))
            refine (must_ok 5 w25).mono ?_
            rintro e wz ⟨rfl, hwz⟩
            rw [hwz]
            clear hwz
            dsimp only
            go_wp2_with fail
            go_roundw
            case rel => exact ⟨j + 1, by omega, by go_num, (fun c hc => by rw [List.take_add_one, HZ.out] at hc; rcases List.mem_append.1 hc with hc | hc; exact HALL.out c hc; rw [show c = z from by simpa using hc]; exact HFI.out), Mem.pick H25.out [3, 4, 5, 6, 7] (by decide) rfl⟩
            case measure => simp [intOf]; omega
        · obtain rfl : j = (clsP d.2.1).length := by omega
          have hall : ∀ c ∈ clsP d.2.1, (findI l c).isSome = true := fun c hc => HALL.out c (by rw [List.take_length]; exact hc)
          have HA9 := hide hall
          clear hall
          cases hfo : findI l c
          · have HFO := hide hfo
            clear hfo
            go_wp2_with fail
            refine (copied_any wo l A cap (Mem.lay HM.out HAT.out) HL.out hn).mono ?_
            rintro e w40 ⟨u40, ls, rfl, hls, hm⟩
            dsimp only
            have H40 := hide (Mem.seq HM.out (itms_lower hm (Mem.below HM.out).size))
            have HLS := hide hls
            clear hm hls
            go_wp2_with (((with_reducible refine at_slot 43 ?_); (refine wpList_value (o := ⟨some 43, _, _, _, _, _⟩) rfl (.agg (bv c).toArray) w40 (exec_load_mid (o := ⟨some 43, _, _, _, _, _⟩) 27 (.tmp 7) rfl w12.heap.size (0) rfl (bv c) _ w40 (Blk.range (Mem.blk H40.out 3 rfl)) Try.underlying27 rfl (hszL hcc)) ?_)))
            refine (findM w40 l _ (Mem.lay H40.out HAT.out) c hcc HL.out ((⟨#[]⟩, [], [])) (findD_no HFO.out) false (by rw [HFO.out]; rfl)).mono ?_
            rintro e w41 ⟨p1, p2, rfl, hp1, hp2, hm⟩
            dsimp only
            have H41 := hide (Mem.seq H40.out hm)
            clear hm
            go_wp2_with (first | ((with_reducible refine at_slot 13 ?_); (refine wpList_newZ (o := ⟨some 13, _, _, _, _, _⟩) rfl 34 zcD (by kernel_rfl) ?_); intro w42 hn; have H42 := hide (Mem.new1 H41.out hn); clear hn; simp only [Act.put, List.setIfInBounds_toArray, List.set_cons_zero, List.set_cons_succ]) | ((with_reducible refine at_store 13 45 ?_); (with_reducible refine wpList_store_blkA (o := ⟨none, _, _, _, _, _⟩) rfl 34 (.tmp 13) (.tmp 45) rfl w41.heap.size zcD (dC ((⟨#[]⟩, [], [])) p1 p2).toArray 34 (Mem.blk H42.out 0 rfl) ?_ ?_ ?_ ?_ ?_ ?_); (exact (dC_sz ((⟨#[]⟩, [], [])) p1 p2)); (exact sz_eq zcD_sz (dC_sz ((⟨#[]⟩, [], [])) p1 p2)); (exact (dC_1 ((⟨#[]⟩, [], [])) hp1 hp2)); rfl; rfl; intro w43 hk hg; have H43 := hide (Mem.st H42.out 0 rfl hk hg); clear hk hg; simp only [Act.put, List.setIfInBounds_toArray, List.set_cons_zero, List.set_cons_succ]))
            have hls9 : ls.length ≤ 1000000 := by have := congrArg List.length HLS.out; rw [List.length_map] at this; omega
            have hrow : ∀ b, u40.ownBlock = some b → b < w43.heap.size := fun b hb => (owned_ltN (Mem.own H43.out 2 rfl) hb).2
            have hbs9 : w.heap.size ≤ w43.heap.size := (Mem.below H43.out).size
            refine Two.wp_made (X := Two.GX (Two.G1 61 (u40).ownBlock) (RowT w.heap.size u40 ls)) (Y := Two.GY (Two.G1 61 (u40).ownBlock) (RowT w.heap.size u40 ls)) 9 [(4, 61)] (by kernel_rfl) [(58, DrvU w43.heap.size d), (59, ItmU w43.heap.size (c, d)), (60, RowU w43.heap.size (c, d)), (61, GrownU w43.heap.size w.heap.size u40 ls (c, d)), (4, GrownU w43.heap.size w.heap.size u40 ls (c, d))] (by kernel_rfl) (by kernel_rfl) (by intro p hp; simp only [List.mem_cons, List.not_mem_nil, or_false] at hp; rcases hp with rfl | rfl | rfl | rfl | rfl; exact Two.madeOk_new (fun u w w' h hg => drvU_two h hg hrow); exact Two.madeOk_new (fun u w w' h hg => itmU_two h hg hrow); exact Two.madeOk_new (fun u w w' h hg => rowU_two h hg hrow); exact Two.madeOk_turn (fun u w w' h hb => grownU_keep h hb); exact Two.madeOk_behind (by simp) (fun u w w' h hb => grownU_keep h hb)) (by simp) (by simp) ?_
            simp only [List.take_succ_cons, List.take_zero, List.drop_succ_cons, List.drop_zero]
            refine Two.made_val (u40) (by kernel_rfl) (by kernel_rfl) (by kernel_rfl) (fun _ _ => by kernel_rfl) ?_
            simp only [Act.put, List.setIfInBounds_toArray, List.set_cons_zero, List.set_cons_succ]
            refine Two.made_val (.agg (bv c).toArray) (by kernel_rfl) (by kernel_rfl) (by kernel_rfl) (fun W9 hW9 => (exec_load_mid (o := ⟨some 56, _, _, _, _, _⟩) 27 (.tmp 7) rfl w12.heap.size (0) rfl (bv c) _ W9 (Blk.range (Mem.blk (Mem.away H43.out 2 rfl (Two.GX.grown hW9)) 5 rfl)) Try.underlying27 rfl (hszL hcc))) ?_
            simp only [Act.put, List.setIfInBounds_toArray, List.set_cons_zero, List.set_cons_succ]
            refine Two.made_val (.agg (dC d v1 v2).toArray) (by kernel_rfl) (by kernel_rfl) (by kernel_rfl) (fun W9 hW9 => (exec_load_mid (o := ⟨some 57, _, _, _, _, _⟩) 34 (.tmp 3) rfl w.heap.size (0) rfl (dC d v1 v2) _ W9 (Blk.range (Mem.blk (Mem.away H43.out 2 rfl (Two.GX.grown hW9)) 8 rfl)) Try.underlying34 rfl (dC_szl d v1 v2))) ?_
            simp only [Act.put, List.setIfInBounds_toArray, List.set_cons_zero, List.set_cons_succ]
            refine Two.made_newcall 58 _ 40 #[.agg (dC d v1 v2).toArray] (by kernel_rfl) (by kernel_rfl) rfl rfl (fun W => by kernel_rfl) (fun W hW => (ownedM W d v1 v2 (Mem.drv (Mem.away H43.out 2 rfl (Two.GX.grown hW)) HD.out) hdl).mono (fun e w' ⟨u1, u2, h1, h2, h3⟩ => ⟨_, h1, Two.GY.of_below h3, (u1, u2), rfl, h2.lower (Two.GX.grown hW).size⟩)) ?_
            simp only [Act.put, List.setIfInBounds_toArray, List.set_cons_zero, List.set_cons_succ]
            refine Two.made_new1 58 _ 59 _ (by kernel_rfl) rfl (by kernel_rfl) rfl rfl (fun u W hW hu => twoX (itmU_new (o := ⟨some 59, _, _, _, _, _⟩) (.tmp 56) (.tmp 58) rfl w43.heap.size hcc rfl rfl hu) trivial) ?_
            simp only [Act.put, List.setIfInBounds_toArray, List.set_cons_zero, List.set_cons_succ]
            refine Two.made_new1 59 _ 60 _ (by kernel_rfl) rfl (by kernel_rfl) rfl rfl (fun u W hW hu => twoX (rowU_new (o := ⟨some 60, _, _, _, _, _⟩) (.tmp 59) rfl w43.heap.size hcc rfl hu (Two.GX.grown hW).size) trivial) ?_
            simp only [Act.put, List.setIfInBounds_toArray, List.set_cons_zero, List.set_cons_succ]
            refine Two.made_new1 60 _ 61 _ (by kernel_rfl) rfl (by kernel_rfl) rfl rfl (fun u W hW hu => grownU_new (o := ⟨some 61, _, _, _, _, _⟩) (.tmp 55) (.tmp 60) rfl rfl H43.out 2 rfl hbs9 hW hcc hls9 rfl rfl hu) ?_
            simp only [Act.put, List.setIfInBounds_toArray, List.set_cons_zero, List.set_cons_succ]
            refine Two.made_val (.agg (bv c).toArray) (by kernel_rfl) (by kernel_rfl) (by kernel_rfl) (fun W9 hW9 => (exec_load_mid (o := ⟨some 62, _, _, _, _, _⟩) 27 (.tmp 7) rfl w12.heap.size (0) rfl (bv c) _ W9 (Blk.range (Mem.blk (Mem.away H43.out 2 rfl (Two.GX.grown hW9)) 5 rfl)) Try.underlying27 rfl (hszL hcc))) ?_
            simp only [Act.put, List.setIfInBounds_toArray, List.set_cons_zero, List.set_cons_succ]
            refine Two.made_new1 61 _ 4 _ (by kernel_rfl) rfl (by kernel_rfl) rfl rfl (fun u W hW hu => ⟨u, W, exec_assign (o := ⟨some 4, _, _, _, _, _⟩) (.tmp 61) rfl rfl W, ⟨World.grownBy.refl _ _, id⟩, hu⟩) ?_
            simp only [Act.put, List.setIfInBounds_toArray, List.set_cons_zero, List.set_cons_succ]
            intro w44 hx
            dsimp only [Two.ended, List.drop]
            rintro u58 _ u59 _ u60 _ u61 _ u4 ⟨p, ho, hr, hf⟩
            have H44 := hide (grown_mem H43.out 2 rfl hbs9 hx ho hr hf)
            clear hx ho hr hf
            go_wp2_with (((with_reducible refine at_store 5 62 ?_); (with_reducible refine wpList_store_blkA (o := ⟨none, _, _, _, _, _⟩) rfl 27 (.tmp 5) (.tmp 62) rfl w7.heap.size zcH (bv c).toArray 27 (Mem.blk H44.out 8 rfl) ?_ ?_ ?_ ?_ ?_ ?_); (exact (hszD hcc)); (exact sz_eq zcH_sz (hszD hcc)); (exact (bv_1 c)); rfl; rfl; intro w45 hk hg; have H45 := hide (Mem.st H44.out 8 rfl hk hg); clear hk hg; simp only [Act.put, List.setIfInBounds_toArray, List.set_cons_zero, List.set_cons_succ]))
            refine bodyPost_ret (results_two (r1 := .tmp 4) (r2 := .cell 5 27) rfl ⟨rfl, ⟨_, rfl, ld_agg (Blk.range (Mem.blk H45.out 8 rfl)) Try.underlying27 rfl (hszL hcc)⟩, trivial⟩) rfl (AddQ.yes (HR.out.symm.trans (addP_new HTB.out HP.out HA9.out HC.out HFO.out)) rfl (by rw [List.map_append, HLS.out]; rfl) (Mem.pick (Mem.push (x := ((c, d), p)) (f := drvV w.heap.size) (Mem.pick H45.out [0, 4, 3] (by decide) rfl) (drvV_ok _ _)) [1, 0] (by decide) rfl))
          · rename_i x
            have HFO := hide hfo
            have hxm : x ∈ l := (findI_some hfo).1
            have HXM := hide hxm
            have HPX := hide (tab_put HTB.out hxm)
            clear hfo hxm
            cases htt : decide (textP x.2 = textP d)
            · have HTT := hide htt
              clear htt
              go_wp2_with fail
              refine (copied_any wo l A cap (Mem.lay HM.out HAT.out) HL.out hn).mono ?_
              rintro e w26 ⟨u40, ls, rfl, hls, hm⟩
              dsimp only
              have H26 := hide (Mem.seq HM.out (itms_lower hm (Mem.below HM.out).size))
              have HLS := hide hls
              clear hm hls
              go_wp2_with (((with_reducible refine at_slot 43 ?_); (refine wpList_value (o := ⟨some 43, _, _, _, _, _⟩) rfl (.agg (bv c).toArray) w26 (exec_load_mid (o := ⟨some 43, _, _, _, _, _⟩) 27 (.tmp 7) rfl w12.heap.size (0) rfl (bv c) _ w26 (Blk.range (Mem.blk H26.out 3 rfl)) Try.underlying27 rfl (hszL hcc)) ?_)))
              refine (findM w26 l _ (Mem.lay H26.out HAT.out) c hcc HL.out (x.2) (findD_of HFO.out) true (by rw [HFO.out]; rfl)).mono ?_
              rintro e w27 ⟨p1, p2, rfl, hp1, hp2, hm⟩
              dsimp only
              have H27 := hide (Mem.seq H26.out hm)
              clear hm
              go_wp2_with (first | ((with_reducible refine at_slot 13 ?_); (refine wpList_newZ (o := ⟨some 13, _, _, _, _, _⟩) rfl 34 zcD (by kernel_rfl) ?_); intro w28 hn; have H28 := hide (Mem.new1 H27.out hn); clear hn; simp only [Act.put, List.setIfInBounds_toArray, List.set_cons_zero, List.set_cons_succ]) | ((with_reducible refine at_store 13 45 ?_); (with_reducible refine wpList_store_blkA (o := ⟨none, _, _, _, _, _⟩) rfl 34 (.tmp 13) (.tmp 45) rfl w27.heap.size zcD (dC (x.2) p1 p2).toArray 34 (Mem.blk H28.out 0 rfl) ?_ ?_ ?_ ?_ ?_ ?_); (exact (dC_sz (x.2) p1 p2)); (exact sz_eq zcD_sz (dC_sz (x.2) p1 p2)); (exact (dC_1 (x.2) hp1 hp2)); rfl; rfl; intro w29 hk hg; have H29 := hide (Mem.st H28.out 0 rfl hk hg); clear hk hg; simp only [Act.put, List.setIfInBounds_toArray, List.set_cons_zero, List.set_cons_succ]) | ((with_reducible refine at_slot 48 ?_); (refine wpList_value (o := ⟨some 48, _, _, _, _, _⟩) rfl (.agg (dC (x.2) p1 p2).toArray) w29 (exec_load_mid (o := ⟨some 48, _, _, _, _, _⟩) 34 (.tmp 13) rfl w27.heap.size (0) rfl (dC (x.2) p1 p2) _ w29 (Blk.range (Mem.blk H29.out 0 rfl)) Try.underlying34 rfl (dC_szl (x.2) p1 p2)) ?_)))
              refine (written_ok w29 x.2 p1 p2 (OwnDrv.at_ (show OwnDrv w29 _ x.2 p1 p2 from Mem.get (e := drvE _ x.2 p1 p2) H29.out 1 rfl) (Nat.le_refl _)) HPX.out).mono ?_
              rintro e w30 ⟨g5, c5, rfl, m1, m2, m3, m4, hb⟩
              dsimp only
              have H30 := hide (Mem.seq H29.out (byt_made m1 m3 m4 hb))
              clear m1 m3 m4 hb
              go_wp2_with fail
              refine (bytesEq_any w30 g5 g c5 cp (textP x.2) (textP d) (Mem.get (e := bytE g5 (textP x.2)) H30.out 0 rfl) (Mem.get (e := bytE g (textP d)) H30.out 7 rfl) false HTT.out).mono ?_
              rintro e w31 ⟨rfl, hb⟩
              dsimp only
              have H31 := hide (Mem.call H30.out hb)
              clear hb
              go_wp2_with fail
              refine (must_no 14 w31).mono ?_
              rintro e wz ⟨rfl, hwz⟩
              rw [hwz]
              clear hwz
              dsimp only
              simp +zetaDelta only [Exit.then, Exit.inBlock]
              change bodyPost Try.prog Try.f20 _ _ _ _
              simp only [bodyPost]
              exact ⟨trivial, AddQ.no (HR.out.symm.trans (addP_14 HTB.out HP.out HA9.out HC.out HFO.out (of_decide_eq_false HTT.out))) (by decide) rfl (Mem.below H31.out)⟩
            · have HTT := hide htt
              clear htt
              go_wp2_with fail
              refine (copied_any wo l A cap (Mem.lay HM.out HAT.out) HL.out hn).mono ?_
              rintro e w32 ⟨u40, ls, rfl, hls, hm⟩
              dsimp only
              have H32 := hide (Mem.seq HM.out (itms_lower hm (Mem.below HM.out).size))
              have HLS := hide hls
              clear hm hls
              go_wp2_with (((with_reducible refine at_slot 43 ?_); (refine wpList_value (o := ⟨some 43, _, _, _, _, _⟩) rfl (.agg (bv c).toArray) w32 (exec_load_mid (o := ⟨some 43, _, _, _, _, _⟩) 27 (.tmp 7) rfl w12.heap.size (0) rfl (bv c) _ w32 (Blk.range (Mem.blk H32.out 3 rfl)) Try.underlying27 rfl (hszL hcc)) ?_)))
              refine (findM w32 l _ (Mem.lay H32.out HAT.out) c hcc HL.out (x.2) (findD_of HFO.out) true (by rw [HFO.out]; rfl)).mono ?_
              rintro e w33 ⟨p1, p2, rfl, hp1, hp2, hm⟩
              dsimp only
              have H33 := hide (Mem.seq H32.out hm)
              clear hm
              go_wp2_with (first | ((with_reducible refine at_slot 13 ?_); (refine wpList_newZ (o := ⟨some 13, _, _, _, _, _⟩) rfl 34 zcD (by kernel_rfl) ?_); intro w34 hn; have H34 := hide (Mem.new1 H33.out hn); clear hn; simp only [Act.put, List.setIfInBounds_toArray, List.set_cons_zero, List.set_cons_succ]) | ((with_reducible refine at_store 13 45 ?_); (with_reducible refine wpList_store_blkA (o := ⟨none, _, _, _, _, _⟩) rfl 34 (.tmp 13) (.tmp 45) rfl w33.heap.size zcD (dC (x.2) p1 p2).toArray 34 (Mem.blk H34.out 0 rfl) ?_ ?_ ?_ ?_ ?_ ?_); (exact (dC_sz (x.2) p1 p2)); (exact sz_eq zcD_sz (dC_sz (x.2) p1 p2)); (exact (dC_1 (x.2) hp1 hp2)); rfl; rfl; intro w35 hk hg; have H35 := hide (Mem.st H34.out 0 rfl hk hg); clear hk hg; simp only [Act.put, List.setIfInBounds_toArray, List.set_cons_zero, List.set_cons_succ]) | ((with_reducible refine at_slot 48 ?_); (refine wpList_value (o := ⟨some 48, _, _, _, _, _⟩) rfl (.agg (dC (x.2) p1 p2).toArray) w35 (exec_load_mid (o := ⟨some 48, _, _, _, _, _⟩) 34 (.tmp 13) rfl w33.heap.size (0) rfl (dC (x.2) p1 p2) _ w35 (Blk.range (Mem.blk H35.out 0 rfl)) Try.underlying34 rfl (dC_szl (x.2) p1 p2)) ?_)))
              refine (written_ok w35 x.2 p1 p2 (OwnDrv.at_ (show OwnDrv w35 _ x.2 p1 p2 from Mem.get (e := drvE _ x.2 p1 p2) H35.out 1 rfl) (Nat.le_refl _)) HPX.out).mono ?_
              rintro e w36 ⟨g5, c5, rfl, m1, m2, m3, m4, hb⟩
              dsimp only
              have H36 := hide (Mem.seq H35.out (byt_made m1 m3 m4 hb))
              clear m1 m3 m4 hb
              go_wp2_with fail
              refine (bytesEq_any w36 g5 g c5 cp (textP x.2) (textP d) (Mem.get (e := bytE g5 (textP x.2)) H36.out 0 rfl) (Mem.get (e := bytE g (textP d)) H36.out 7 rfl) true HTT.out).mono ?_
              rintro e w37 ⟨rfl, hb⟩
              dsimp only
              have H37 := hide (Mem.call H36.out hb)
              clear hb
              go_wp2_with fail
              refine (must_ok 14 w37).mono ?_
              rintro e wz ⟨rfl, hwz⟩
              rw [hwz]
              clear hwz
              dsimp only
              go_wp2_with fail
              refine Fre.wp_made (X := Bel) 3 [] (by kernel_rfl) (by kernel_rfl) (by simp) (by simp) (by simp) ?_
              simp only [List.take_succ_cons, List.take_zero, List.drop_succ_cons, List.drop_zero]
              refine Fre.made_val (u40) (by kernel_rfl) (by kernel_rfl) (by kernel_rfl) (fun _ _ => by kernel_rfl) ?_
              simp only [Act.put, List.setIfInBounds_toArray, List.set_cons_zero, List.set_cons_succ]
              refine Fre.made_val (.agg (bv c).toArray) (by kernel_rfl) (by kernel_rfl) (by kernel_rfl) (fun W9 hW9 => (exec_load_mid (o := ⟨some 54, _, _, _, _, _⟩) 27 (.tmp 7) rfl w12.heap.size (0) rfl (bv c) _ W9 (Blk.range (Mem.blk (Mem.call H37.out hW9) 6 rfl)) Try.underlying27 rfl (hszL hcc))) ?_
              simp only [Act.put, List.setIfInBounds_toArray, List.set_cons_zero, List.set_cons_succ]
              refine Fre.made_val (u40) (by kernel_rfl) (by kernel_rfl) (by kernel_rfl) (fun _ _ => by kernel_rfl) ?_
              simp only [Act.put, List.setIfInBounds_toArray, List.set_cons_zero, List.set_cons_succ]
              intro w38 hx
              dsimp only [Fre.ended, List.drop]
              have H38 := hide (Mem.call H37.out hx)
              clear hx
              go_wp2_with (((with_reducible refine at_store 5 54 ?_); (with_reducible refine wpList_store_blkA (o := ⟨none, _, _, _, _, _⟩) rfl 27 (.tmp 5) (.tmp 54) rfl w7.heap.size zcH (bv c).toArray 27 (Mem.blk H38.out 8 rfl) ?_ ?_ ?_ ?_ ?_ ?_); (exact (hszD hcc)); (exact sz_eq zcH_sz (hszD hcc)); (exact (bv_1 c)); rfl; rfl; intro w39 hk hg; have H39 := hide (Mem.st H38.out 8 rfl hk hg); clear hk hg; simp only [Act.put, List.setIfInBounds_toArray, List.set_cons_zero, List.set_cons_succ]))
              refine bodyPost_ret (results_two (r1 := .tmp 4) (r2 := .cell 5 27) rfl ⟨rfl, ⟨_, rfl, ld_agg (Blk.range (Mem.blk H39.out 8 rfl)) Try.underlying27 rfl (hszL hcc)⟩, trivial⟩) rfl (AddQ.yes (HR.out.symm.trans (addP_old HTB.out HP.out HA9.out HC.out HFO.out (of_decide_eq_true HTT.out))) rfl HLS.out (Mem.pick H39.out [3, 4] (by decide) rfl))
    · have HP := hide hp
      clear hp
      have H0 := hide (Mem.start w)
      go_enter Try.func20, Try.ntmps20
      go_wp2_with (first | ((with_reducible refine at_slot 3 ?_); (refine wpList_boxA (o := ⟨some 3, _, _, _, _, _⟩) rfl 34 (.tmp 1) rfl (dC d v1 v2).toArray rfl ?_); intro w4 hn; have H4 := hide (Mem.new1 H0.out hn); clear hn; simp only [Act.put, List.setIfInBounds_toArray, List.set_cons_zero, List.set_cons_succ]) | ((with_reducible refine at_slot 5 ?_); (refine wpList_newZ (o := ⟨some 5, _, _, _, _, _⟩) rfl 27 zcH (by kernel_rfl) ?_); intro w5 hn; have H5 := hide (Mem.new1 H4.out hn); clear hn; simp only [Act.put, List.setIfInBounds_toArray, List.set_cons_zero, List.set_cons_succ]))
      refine (tableB w5 l A cap (Mem.lay H5.out HAT.out) (fun x hx => (HL.out x hx).1) true HTB.out).mono ?_
      rintro e w6 ⟨rfl, hb⟩
      dsimp only
      have H6 := hide (Mem.call H5.out hb)
      clear hb
      go_wp2_with fail
      refine (must_ok 2 w6).mono ?_
      rintro e wz ⟨rfl, hwz⟩
      rw [hwz]
      clear hwz
      dsimp only
      go_wp2_with (((with_reducible refine at_slot 18 ?_); (refine wpList_value (o := ⟨some 18, _, _, _, _, _⟩) rfl (.agg (dC d v1 v2).toArray) w6 (exec_load_mid (o := ⟨some 18, _, _, _, _, _⟩) 34 (.tmp 3) rfl w.heap.size (0) rfl (dC d v1 v2) _ w6 (Blk.range (Mem.blk H6.out 1 rfl)) Try.underlying34 rfl (dC_szl d v1 v2)) ?_)))
      refine (written_no w6 d v1 v2 (Mem.drv H6.out HD.out) HP.out).mono ?_
      rintro e w9 ⟨rfl, hb⟩
      dsimp only
      change bodyPost Try.prog Try.f20 _ _ _ _
      simp only [bodyPost]
      exact ⟨trivial, AddQ.no (HR.out.symm.trans (addP_put HTB.out HP.out)) HP.out rfl (Mem.below (Mem.call H6.out hb))⟩
end Go.Proofs.Ytidiepbmbbflhaa
end
