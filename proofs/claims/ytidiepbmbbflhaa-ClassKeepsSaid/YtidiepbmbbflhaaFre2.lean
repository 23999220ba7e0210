/- the region law of XFreMade: an operation that looks at two made slots. -/
import Derived.Test.YtidiepbmbbflhaaFreMade
namespace Go.Proofs.Ytidiepbmbbflhaa.Fre
open Go Go.RowKit
section
variable {P : Program} {ops : Array Oper} {L : MadeL} {w0 : World} {rest : List Oper} {o : Oper} {a : Act} {Q : Act → Prop} {X : World → World → Prop} [RelOk X]
def looksB2 (s r : Tmp) (keys : List Tmp) (ops : Array Oper) (o : Oper) : Bool := (match o.op with | .select _ _ => false | _ => true) && (o.op.operands.toList.all fun x => match x with | .tmp t => t == s || t == r || !keys.contains t | _ => true) &&
  (match o.guard with | some (g, _) => ((ops[g]?).bind (·.dst)).toList.all fun t => !keys.contains t | none => true) && (o.looksAt ops).contains s && (o.looksAt ops).contains r
theorem looksB2_wanted {s r : Tmp} {b : Act} (hB : looksB2 s r (L.map (·.1)) ops o = true) (hb : Same (madeBy L) b a) : Region.wanted o (yielded ops b.tmps) = Region.wanted o (yielded ops a.tmps) := by
  refine wanted_same hb fun g _ hg t ht => madeBy_none ?_
  simp only [looksB2, Bool.and_eq_true] at hB
  have h := hB.1.1.2
  rw [hg] at h
  simpa [ht] using h
theorem looksB2_exec {s r : Tmp} {u v : Value} {b : Act} (hB : looksB2 s r (L.map (·.1)) ops o = true) (hb : Same (madeBy L) b a) (hu : b.tmps[s]? = some u) (hv : b.tmps[r]? = some v) : execOp b.eval o = execOp ((a.put (some s) u).put (some r) v).eval o := by
  simp only [looksB2, Bool.and_eq_true] at hB
  refine execOp_congr o ?_ fun x hx => ?_
  · intro cs d e
    have h := hB.1.1.1.1
    rw [e] at h
    cases h
  · refine ((hb.fix hu).fix hv).eval fun t e => ?_
    have h := List.all_eq_true.1 hB.1.1.1.2 x (by simpa using hx)
    rw [e] at h
    simp only [Bool.or_eq_true, beq_iff_eq, Bool.not_eq_true'] at h
    rcases h with (h | h) | h
    · split
      · rfl
      · first | rfl | rw [if_pos h]
    · rw [if_pos h]
    · split
      · rfl
      · split
        · rfl
        · exact madeBy_none h
theorem looksB2_holds {s r : Tmp} {V V2 : Value → World → Prop} {b : Act} {w : World} (hB : looksB2 s r (L.map (·.1)) ops o = true) (hV : madeBy L s = some V) (hV2 : madeBy L r = some V2) (hh : Holds (madeBy L) (o.looksAt ops) b w) : (∃ u, b.tmps[s]? = some u ∧ V u w) ∧ ∃ u, b.tmps[r]? = some u ∧ V2 u w := by
  simp only [looksB2, Bool.and_eq_true] at hB
  exact ⟨hh s (by simpa using hB.1.2) V hV, hh r (by simpa using hB.2) V2 hV2⟩
omit [RelOk X] in
/-- what is made out of two made things -/
theorem made_new2 (s r : Tmp) (V V2 : Value → World → Prop) (t : Tmp) (V' : Value → World → Prop) (hB : looksB2 s r (L.map (·.1)) ops o = true) (hV : madeBy L s = some V) (hV2 : madeBy L r = some V2) (hw : Region.wanted o (yielded ops a.tmps) = true) (hd : o.dst = some t) (hV' : madeBy L t = some V')
    (hrun : ∀ u v w, Ext X w0 w → V u w → V2 v w → ∃ u' w', (execOp ((a.put (some s) u).put (some r) v).eval o).run P w = .ok (.value u') w' ∧ Ext X w w' ∧ V' u' w')
    (h : wpMade X P ops (madeBy L) w0 Q rest (a.put o.dst undef)) : wpMade X P ops (madeBy L) w0 Q (o :: rest) a := by
  refine ⟨undef, fun b w hx hb hh => ⟨fun _ => ?_, fun h2 => ?_⟩, h⟩
  · obtain ⟨⟨u, hu, hVu⟩, v, hv, hVv⟩ := looksB2_holds hB hV hV2 hh
    obtain ⟨u', w', h1, h2, h3⟩ := hrun u v w hx hVu hVv
    rw [hd, Option.bind_some, hV', looksB2_exec hB hb hu hv, h1]
    exact ⟨rfl, h2, h3, trivial⟩
  · rw [looksB2_wanted hB hb, hw] at h2; cases h2
end
end Go.Proofs.Ytidiepbmbbflhaa.Fre
