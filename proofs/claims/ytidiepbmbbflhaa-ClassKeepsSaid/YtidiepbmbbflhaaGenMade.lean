/- Made's law, for a relation of worlds that one chooses. -/
import Derived.Test.YtidiepbmbbflhaaGenTail
import Derived.Test.YtidiepbmbbflhaaBase3
namespace Go.Proofs.Ytidiepbmbbflhaa.Gen
open Go Go.RowKit
/-- the block that a value begins in -/
def blkOf : Value → Option Nat
  | .pointer (some a) => some a.block
  | .slice (some a) _ _ => some a.block
  | _ => none
/-- slot by slot, what a made thing is -/
abbrev MadeL := List (Tmp × (Value → World → Prop))
def madeBy (L : MadeL) : Made := fun t => (L.find? (fun p => p.1 == t)).map (·.2)
/-- what is made stays X so, and lies somewhere -/
structure MadeOk (X : World → World → Prop) (V : Value → World → Prop) : Prop where
  stays : ∀ u w w', V u w → Ext X w w' → V u w'
  there : ∀ u w, V u w → ∃ r, blkOf u = some r ∧ r < w.heap.size
theorem madeBy_mem {L : MadeL} {t : Tmp} {V : Value → World → Prop} (h : madeBy L t = some V) : (t, V) ∈ L := by
  unfold madeBy at h
  cases hf : L.find? (fun p => p.1 == t) with
  | none => rw [hf] at h; cases h
  | some p =>
    rw [hf] at h
    obtain rfl := Option.some.inj h
    have h1 := List.mem_of_find?_eq_some hf
    have h2 := List.find?_some hf
    simp only [beq_iff_eq] at h2
    obtain ⟨a, b⟩ := p
    subst h2
    exact h1
theorem madeBy_cons (t : Tmp) (V : Value → World → Prop) (L : MadeL) (s : Tmp) : madeBy ((t, V) :: L) s = if t = s then some V else madeBy L s := by
  unfold madeBy
  by_cases h : t = s
  · simp [h]
  · simp [h]
theorem madeBy_look : ∀ {L : MadeL} {t : Tmp} {V : Value → World → Prop}, (L.map (·.1)).Nodup → (t, V) ∈ L → madeBy L t = some V
  | [], _, _, _, hm => by cases hm
  | (t', V') :: L, t, V, hn, hm => by
    simp only [List.map_cons, List.nodup_cons] at hn
    rw [madeBy_cons]
    rcases List.mem_cons.1 hm with hm | hm
    · injection hm with e1 e2
      subst e1 e2
      rw [if_pos rfl]
    · rw [if_neg (fun e => hn.1 (List.mem_map.2 ⟨_, hm, e.symm⟩))]
      exact madeBy_look hn.2 hm
theorem madeBy_none {L : MadeL} {t : Tmp} (h : (L.map (·.1)).contains t = false) : madeBy L t = none := by
  cases hm : madeBy L t with
  | none => rfl
  | some V =>
    have h1 := madeBy_mem hm
    have h2 : (L.map (·.1)).contains t = true := by
      rw [List.contains_iff_mem]
      exact List.mem_map.2 ⟨_, h1, rfl⟩
    rw [h2] at h; cases h
section
variable {P : Program} {ops : Array Oper} {L : MadeL} {w0 : World} {rest : List Oper} {o : Oper} {a : Act} {Q : Act → Prop} {X : World → World → Prop} [RelOk X]
omit [RelOk X] in
theorem stays_by (hL : ∀ p ∈ L, MadeOk X p.2) : stays X (madeBy L) := fun _ _ hV u w w' hu hw => (hL _ (madeBy_mem hV)).stays u w w' hu hw
omit [RelOk X] in
theorem newTo_by (hL : ∀ p ∈ L, MadeOk X p.2) {w : World} {d : Option Tmp} {u : Value} {r : Nat} (hu : blkOf u = some r) (hr : w.heap.size ≤ r) : newTo (madeBy L) d w u := by
  intro t V u' _ hV hu' e
  obtain ⟨r', h1, h2⟩ := (hL _ (madeBy_mem hV)).there u' w hu'
  rw [e, hu] at h1
  have := Option.some.inj h1
  omega
/-- an operation that looks at no made slot but t, and is no select -/
def looksB (keys : List Tmp) (ops : Array Oper) (o : Oper) : Bool := (match o.op with | .select _ _ => false | _ => true) && (o.looksAt ops).all fun s => !keys.contains s
theorem looksB_sel {keys : List Tmp} (h : looksB keys ops o = true) : ∀ cs b, o.op ≠ .select cs b := by
  intro cs b e
  unfold looksB at h
  rw [e] at h
  cases h
theorem looksB_opd {keys : List Tmp} (h : looksB keys ops o = true) {x : Operand} (hx : x ∈ o.op.operands) {t : Tmp} (e : x = .tmp t) : keys.contains t = false := by
  simp only [looksB, Bool.and_eq_true] at h
  have h2 := List.all_eq_true.1 h.2 t (by
    unfold Oper.looksAt
    exact List.mem_append_left _ (List.mem_filterMap.2 ⟨x, by simpa using hx, by rw [e]⟩))
  simpa using h2
theorem looksB_guard {keys : List Tmp} (h : looksB keys ops o = true) {g : Nat} {y : Bool} (hg : o.guard = some (g, y)) {t : Tmp} (ht : (ops[g]?).bind (·.dst) = some t) : keys.contains t = false := by
  simp only [looksB, Bool.and_eq_true] at h
  have h2 := List.all_eq_true.1 h.2 t (by
    unfold Oper.looksAt
    refine List.mem_append_right _ ?_
    rw [hg]
    simp [ht])
  simpa using h2
theorem wanted_same {F : Made} {b : Act} (hb : Same F b a) (hg : ∀ g x, o.guard = some (g, x) → ∀ t, (ops[g]?).bind (·.dst) = some t → F t = none) : Region.wanted o (yielded ops b.tmps) = Region.wanted o (yielded ops a.tmps) := by
  unfold Region.wanted
  cases hgd : o.guard with
  | none => rfl
  | some p =>
    obtain ⟨g, x⟩ := p
    simp only
    unfold yielded
    cases ht : (ops[g]?).bind (·.dst) with
    | none => rfl
    | some t => simp only [Option.bind_some, hb.2.2 t (hg g x hgd t ht)]
theorem looksB_wanted {b : Act} (hB : looksB (L.map (·.1)) ops o = true) (hb : Same (madeBy L) b a) : Region.wanted o (yielded ops b.tmps) = Region.wanted o (yielded ops a.tmps) :=
  wanted_same hb fun _ _ hg _ ht => madeBy_none (looksB_guard hB hg ht)
theorem looksB_exec {b : Act} (hB : looksB (L.map (·.1)) ops o = true) (hb : Same (madeBy L) b a) : execOp b.eval o = execOp a.eval o :=
  execOp_congr o (looksB_sel hB) fun _ hx => hb.eval fun _ e => madeBy_none (looksB_opd hB hx e)

omit [RelOk X] in
/-- an operation that hands on a value -/
theorem made_val (v : Value) (hB : looksB (L.map (·.1)) ops o = true) (hw : Region.wanted o (yielded ops a.tmps) = true) (hd : o.dst.bind (madeBy L) = none)
    (hrun : ∀ w, Ext X w0 w → (execOp a.eval o).run P w = .ok (.value v) w) (h : wpMade X P ops (madeBy L) w0 Q rest (a.put o.dst v)) : wpMade X P ops (madeBy L) w0 Q (o :: rest) a := by
  refine ⟨v, fun b w hx hb _ => ⟨fun _ => ?_, fun h2 => ?_⟩, h⟩
  · rw [hd, looksB_exec hB hb, hrun w hx]
    exact ⟨rfl, rfl⟩
  · rw [looksB_wanted hB hb, hw] at h2; cases h2
omit [RelOk X] in
/-- an operation that is not wanted -/
theorem made_skip (hB : looksB (L.map (·.1)) ops o = true) (hw : Region.wanted o (yielded ops a.tmps) = false) (hd : o.dst.bind (madeBy L) = none)
    (h : wpMade X P ops (madeBy L) w0 Q rest (a.put o.dst undef)) : wpMade X P ops (madeBy L) w0 Q (o :: rest) a := by
  refine ⟨undef, fun b w hx hb _ => ⟨fun h2 => ?_, fun _ => ⟨rfl, hd⟩⟩, h⟩
  rw [looksB_wanted hB hb, hw] at h2; cases h2
omit [RelOk X] in
/-- a call that makes at most memory, and hands on a value -/
theorem made_call (v : Value) (f : Nat) (args : Array Value) (hB : looksB (L.map (·.1)) ops o = true) (hw : Region.wanted o (yielded ops a.tmps) = true) (hd : o.dst.bind (madeBy L) = none)
    (hrun : ∀ w, (execOp a.eval o).run P w = .ok (.enter f args) w) (hc : ∀ w, Ext X w0 w → Calls P f args w fun e w' => e = .returned v ∧ Ext X w w')
    (h : wpMade X P ops (madeBy L) w0 Q rest (a.put o.dst v)) : wpMade X P ops (madeBy L) w0 Q (o :: rest) a := by
  refine ⟨v, fun b w hx hb _ => ⟨fun _ => ?_, fun h2 => ?_⟩, h⟩
  · rw [hd, looksB_exec hB hb, hrun w]
    exact ⟨rfl, hc w hx⟩
  · rw [looksB_wanted hB hb, hw] at h2; cases h2
omit [RelOk X] in
/-- an operation that makes something -/
theorem made_new (t : Tmp) (V : Value → World → Prop) (hL : ∀ p ∈ L, MadeOk X p.2) (hB : looksB (L.map (·.1)) ops o = true) (hw : Region.wanted o (yielded ops a.tmps) = true) (hd : o.dst = some t) (hV : madeBy L t = some V)
    (hrun : ∀ w, Ext X w0 w → ∃ u w' r, (execOp a.eval o).run P w = .ok (.value u) w' ∧ Ext X w w' ∧ V u w' ∧ blkOf u = some r ∧ w.heap.size ≤ r)
    (h : wpMade X P ops (madeBy L) w0 Q rest (a.put o.dst undef)) : wpMade X P ops (madeBy L) w0 Q (o :: rest) a := by
  refine ⟨undef, fun b w hx hb _ => ⟨fun _ => ?_, fun h2 => ?_⟩, h⟩
  · obtain ⟨u, w', r, h1, h2, h3, h4, h5⟩ := hrun w hx
    rw [hd, Option.bind_some, hV, looksB_exec hB hb, h1]
    exact ⟨rfl, h2, h3, newTo_by hL h4 h5⟩
  · rw [looksB_wanted hB hb, hw] at h2; cases h2
omit [RelOk X] in
/-- a call that makes something -/
theorem made_newcall (t : Tmp) (V : Value → World → Prop) (f : Nat) (args : Array Value) (hL : ∀ p ∈ L, MadeOk X p.2) (hB : looksB (L.map (·.1)) ops o = true) (hw : Region.wanted o (yielded ops a.tmps) = true) (hd : o.dst = some t) (hV : madeBy L t = some V)
    (hrun : ∀ w, (execOp a.eval o).run P w = .ok (.enter f args) w) (hc : ∀ w, Ext X w0 w → Calls P f args w fun e w' => ∃ u r, e = .returned u ∧ Ext X w w' ∧ V u w' ∧ blkOf u = some r ∧ w.heap.size ≤ r)
    (h : wpMade X P ops (madeBy L) w0 Q rest (a.put o.dst undef)) : wpMade X P ops (madeBy L) w0 Q (o :: rest) a := by
  refine ⟨undef, fun b w hx hb _ => ⟨fun _ => ?_, fun h2 => ?_⟩, h⟩
  · rw [hd, Option.bind_some, hV, looksB_exec hB hb, hrun w]
    refine ⟨rfl, rfl, (hc w hx).mono ?_⟩
    rintro e w' ⟨u, r, h1, h2, h3, h4, h5⟩
    exact ⟨u, h1, h2, h3, newTo_by hL h4 h5⟩
  · rw [looksB_wanted hB hb, hw] at h2; cases h2

/-- the same, of an operation that looks at one made slot -/
def looksB1 (s : Tmp) (keys : List Tmp) (ops : Array Oper) (o : Oper) : Bool := (match o.op with | .select _ _ => false | _ => true) && (o.op.operands.toList.all fun x => match x with | .tmp t => t == s || !keys.contains t | _ => true) &&
  (match o.guard with | some (g, _) => ((ops[g]?).bind (·.dst)).toList.all fun t => !keys.contains t | none => true) && (o.looksAt ops).contains s
theorem looksB1_wanted {s : Tmp} {b : Act} (hB : looksB1 s (L.map (·.1)) ops o = true) (hb : Same (madeBy L) b a) : Region.wanted o (yielded ops b.tmps) = Region.wanted o (yielded ops a.tmps) := by
  refine wanted_same hb fun g _ hg t ht => madeBy_none ?_
  simp only [looksB1, Bool.and_eq_true] at hB
  have h := hB.1.2
  rw [hg] at h
  simpa [ht] using h
theorem looksB1_exec {s : Tmp} {u : Value} {b : Act} (hB : looksB1 s (L.map (·.1)) ops o = true) (hb : Same (madeBy L) b a) (hu : b.tmps[s]? = some u) : execOp b.eval o = execOp (a.put (some s) u).eval o := by
  simp only [looksB1, Bool.and_eq_true] at hB
  refine execOp_congr o ?_ fun x hx => ?_
  · intro cs d e
    have h := hB.1.1.1
    rw [e] at h
    cases h
  · refine (hb.fix hu).eval fun t e => ?_
    have h := List.all_eq_true.1 hB.1.1.2 x (by simpa using hx)
    rw [e] at h
    simp only [Bool.or_eq_true, beq_iff_eq, Bool.not_eq_true'] at h
    rcases h with h | h
    · rw [if_pos h]
    · split
      · rfl
      · exact madeBy_none h
theorem looksB1_holds {s : Tmp} {V : Value → World → Prop} {b : Act} {w : World} (hB : looksB1 s (L.map (·.1)) ops o = true) (hV : madeBy L s = some V) (hh : Holds (madeBy L) (o.looksAt ops) b w) : ∃ u, b.tmps[s]? = some u ∧ V u w := by
  simp only [looksB1, Bool.and_eq_true] at hB
  exact hh s (by simpa using hB.2) V hV
omit [RelOk X] in
theorem made_val1 (s : Tmp) (V : Value → World → Prop) (v : Value) (hB : looksB1 s (L.map (·.1)) ops o = true) (hV : madeBy L s = some V) (hw : Region.wanted o (yielded ops a.tmps) = true) (hd : o.dst.bind (madeBy L) = none)
    (hrun : ∀ u w, Ext X w0 w → V u w → (execOp (a.put (some s) u).eval o).run P w = .ok (.value v) w) (h : wpMade X P ops (madeBy L) w0 Q rest (a.put o.dst v)) : wpMade X P ops (madeBy L) w0 Q (o :: rest) a := by
  refine ⟨v, fun b w hx hb hh => ⟨fun _ => ?_, fun h2 => ?_⟩, h⟩
  · obtain ⟨u, hu, hVu⟩ := looksB1_holds hB hV hh
    rw [hd, looksB1_exec hB hb hu, hrun u w hx hVu]
    exact ⟨rfl, rfl⟩
  · rw [looksB1_wanted hB hb, hw] at h2; cases h2
omit [RelOk X] in
theorem made_call1 (s : Tmp) (V : Value → World → Prop) (v : Value) (f : Nat) (args : Value → Array Value) (hB : looksB1 s (L.map (·.1)) ops o = true) (hV : madeBy L s = some V) (hw : Region.wanted o (yielded ops a.tmps) = true) (hd : o.dst.bind (madeBy L) = none)
    (hrun : ∀ u w, (execOp (a.put (some s) u).eval o).run P w = .ok (.enter f (args u)) w) (hc : ∀ u w, Ext X w0 w → V u w → Calls P f (args u) w fun e w' => e = .returned v ∧ Ext X w w')
    (h : wpMade X P ops (madeBy L) w0 Q rest (a.put o.dst v)) : wpMade X P ops (madeBy L) w0 Q (o :: rest) a := by
  refine ⟨v, fun b w hx hb hh => ⟨fun _ => ?_, fun h2 => ?_⟩, h⟩
  · obtain ⟨u, hu, hVu⟩ := looksB1_holds hB hV hh
    rw [hd, looksB1_exec hB hb hu, hrun u w]
    exact ⟨rfl, hc u w hx hVu⟩
  · rw [looksB1_wanted hB hb, hw] at h2; cases h2
omit [RelOk X] in
/-- what is made out of one made thing -/
theorem made_new1 (s : Tmp) (V : Value → World → Prop) (t : Tmp) (V' : Value → World → Prop) (hL : ∀ p ∈ L, MadeOk X p.2) (hB : looksB1 s (L.map (·.1)) ops o = true) (hV : madeBy L s = some V) (hw : Region.wanted o (yielded ops a.tmps) = true) (hd : o.dst = some t) (hV' : madeBy L t = some V')
    (hrun : ∀ u w, Ext X w0 w → V u w → ∃ u' w' r, (execOp (a.put (some s) u).eval o).run P w = .ok (.value u') w' ∧ Ext X w w' ∧ V' u' w' ∧ blkOf u' = some r ∧ w.heap.size ≤ r)
    (h : wpMade X P ops (madeBy L) w0 Q rest (a.put o.dst undef)) : wpMade X P ops (madeBy L) w0 Q (o :: rest) a := by
  refine ⟨undef, fun b w hx hb hh => ⟨fun _ => ?_, fun h2 => ?_⟩, h⟩
  · obtain ⟨u, hu, hVu⟩ := looksB1_holds hB hV hh
    obtain ⟨u', w', r, h1, h2, h3, h4, h5⟩ := hrun u w hx hVu
    rw [hd, Option.bind_some, hV', looksB1_exec hB hb hu, h1]
    exact ⟨rfl, h2, h3, newTo_by hL h4 h5⟩
  · rw [looksB1_wanted hB hb, hw] at h2; cases h2

omit [RelOk X] in
/-- the same, where one says oneself why it is another one than the other made things -/
theorem made_newg (s : Tmp) (V : Value → World → Prop) (t : Tmp) (V' : Value → World → Prop) (hB : looksB1 s (L.map (·.1)) ops o = true) (hV : madeBy L s = some V) (hw : Region.wanted o (yielded ops a.tmps) = true) (hd : o.dst = some t) (hV' : madeBy L t = some V')
    (hrun : ∀ u w, Ext X w0 w → V u w → ∃ u' w', (execOp (a.put (some s) u).eval o).run P w = .ok (.value u') w' ∧ Ext X w w' ∧ V' u' w' ∧ newTo (madeBy L) (some t) w u')
    (h : wpMade X P ops (madeBy L) w0 Q rest (a.put o.dst undef)) : wpMade X P ops (madeBy L) w0 Q (o :: rest) a := by
  refine ⟨undef, fun b w hx hb hh => ⟨fun _ => ?_, fun h2 => ?_⟩, h⟩
  · obtain ⟨u, hu, hVu⟩ := looksB1_holds hB hV hh
    obtain ⟨u', w', h1, h2, h3, h4⟩ := hrun u w hx hVu
    rw [hd, Option.bind_some, hV', looksB1_exec hB hb hu, h1]
    exact ⟨rfl, h2, h3, h4⟩
  · rw [looksB1_wanted hB hb, hw] at h2; cases h2

/-- the end: the made things, one by one, in their slots; each another one than those ahead -/
def ended : MadeL → List Value → World → Act → (Act → Prop) → Prop
  | [], _, _, a, K => K a
  | (t, V) :: L, us, w, a, K => ∀ u, V u w → (∀ x ∈ us, x ≠ u) → ended L (us ++ [u]) w (a.put (some t) u) K
theorem ended_elim (K : Act → Prop) (w : World) : ∀ (L : MadeL) (us : List Value) (a b : Act), Same (madeBy L) b a → (L.map (·.1)).Nodup → (∀ t V, (t, V) ∈ L → ∃ u, b.tmps[t]? = some u ∧ V u w) →
    (∀ t V, (t, V) ∈ L → ∀ x ∈ us, b.tmps[t]? ≠ some x) → (∀ t V t' V', (t, V) ∈ L → (t', V') ∈ L → t ≠ t' → b.tmps[t]? ≠ b.tmps[t']?) → ended L us w a K → K b
  | [], us, a, b, hs, _, _, _, _, h => by
    obtain rfl := hs.eq (fun _ => rfl)
    exact h
  | (t, V) :: L, us, a, b, hs, hn, hh, hx, hd, h => by
    obtain ⟨u, hu, hVu⟩ := hh t V (by simp)
    have h2 := h u hVu (fun x hxu e => hx t V (by simp) x hxu (by rw [hu, e]))
    simp only [List.map_cons, List.nodup_cons] at hn
    refine ended_elim K w L (us ++ [u]) _ b ?_ hn.2 (fun s V' hm => hh s V' (by simp [hm])) ?_ (fun s V' s' V'' hm hm' => hd s V' s' V'' (by simp [hm]) (by simp [hm'])) h2
    · have h3 := hs.fix hu
      refine ⟨h3.1, h3.2.1, fun s hs' => h3.2.2 s ?_⟩
      show (if s = t then none else madeBy ((t, V) :: L) s) = none
      split
      · rfl
      · rename_i hne
        rw [madeBy_cons, if_neg (Ne.symm hne)]
        exact hs'
    · intro s V' hm x hxu
      rcases List.mem_append.1 hxu with hxu | hxu
      · exact hx s V' (by simp [hm]) x hxu
      · rw [List.mem_singleton.1 hxu, ← hu]
        exact fun e => hd s V' t V (by simp [hm]) (by simp) (fun e2 => hn.1 (List.mem_map.2 ⟨_, hm, e2⟩)) e
/-- THE LAW -/
theorem wp_made {id : Nat} {Q : Exit → Act → World → Prop} {a : Act} {w : World} {l : List Oper} (n : Nat) (L : MadeL) (hm : P.follows .mixedOrders = true)
    (hB : (Region.lexTailB .any l.toArray n && madeB .any l.toArray (L.map (·.1)) n && allMadeB l.toArray (L.map (·.1)) n) = true) (hL : ∀ p ∈ L, MadeOk X p.2) (hn : (L.map (·.1)).Nodup) (hrange : ∀ t ∈ L.map (·.1), t < a.tmps.size)
    (h : wpMade X P l.toArray (madeBy L) w (fun a' => ∀ w', Ext X w w' → ended L [] w' a' fun b => wpList P l.toArray Q (l.drop n) b w') (l.take n) a) :
    (Code.region id l.toArray true).wp P Q a w := by
  refine wp_made_tail n (L.map (·.1)) (madeBy L) hm hB (fun t V hV => List.mem_map.2 ⟨_, madeBy_mem hV, rfl⟩) (stays_by hL) hrange ?_
  have e : ∀ (rest : List Oper) (a : Act), wpMade X P l.toArray (madeBy L) w (fun a' => ∀ w', Ext X w w' → ended L [] w' a' fun b => wpList P l.toArray Q (l.drop n) b w') rest a →
      wpMade X P l.toArray (madeBy L) w (fun a' => ∀ b w', Ext X w w' → Same (madeBy L) b a' → (∀ t V, madeBy L t = some V → (∃ u, b.tmps[t]? = some u ∧ V u w') ∧ ∀ t' V', madeBy L t' = some V' → t ≠ t' → b.tmps[t]? ≠ b.tmps[t']?) → wpList P l.toArray Q (l.drop n) b w') rest a := by
    intro rest
    induction rest with
    | nil =>
      intro a h b w' hx hs hh
      exact ended_elim _ w' L [] a b hs hn (fun t V hm => (hh t V (madeBy_look hn hm)).1) (fun _ _ _ x hx => absurd hx (by simp)) (fun t V t' V' hm hm' hne => (hh t V (madeBy_look hn hm)).2 t' V' (madeBy_look hn hm') hne) (h w' hx)
    | cons o rest ih =>
      intro a h
      obtain ⟨v, h1, h2⟩ := h
      exact ⟨v, h1, ih _ h2⟩
  exact e _ _ h

end
end Go.Proofs.Ytidiepbmbbflhaa.Gen
