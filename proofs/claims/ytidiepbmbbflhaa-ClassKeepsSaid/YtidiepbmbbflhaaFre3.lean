/- the region law of XFreMade: an operation that looks at three made slots. -/
import Derived.Test.YtidiepbmbbflhaaFre2
namespace Go.Proofs.Ytidiepbmbbflhaa.Fre
open Go Go.RowKit
section
variable {P : Program} {ops : Array Oper} {L : MadeL} {w0 : World} {rest : List Oper} {o : Oper} {a : Act} {Q : Act → Prop} {X : World → World → Prop} [RelOk X]
def looksB3 (s r q : Tmp) (keys : List Tmp) (ops : Array Oper) (o : Oper) : Bool := (match o.op with | .select _ _ => false | _ => true) && (o.op.operands.toList.all fun x => match x with | .tmp t => t == s || t == r || t == q || !keys.contains t | _ => true) &&
  (match o.guard with | some (g, _) => ((ops[g]?).bind (·.dst)).toList.all fun t => !keys.contains t | none => true) && ((o.looksAt ops).contains s && (o.looksAt ops).contains r && (o.looksAt ops).contains q)
theorem looksB3_wanted {s r q : Tmp} {b : Act} (hB : looksB3 s r q (L.map (·.1)) ops o = true) (hb : Same (madeBy L) b a) : Region.wanted o (yielded ops b.tmps) = Region.wanted o (yielded ops a.tmps) := by
  refine wanted_same hb fun g _ hg t ht => madeBy_none ?_
  simp only [looksB3, Bool.and_eq_true] at hB
  have h := hB.1.2
  rw [hg] at h
  simpa [ht] using h
theorem looksB3_exec {s r q : Tmp} {u v x : Value} {b : Act} (hB : looksB3 s r q (L.map (·.1)) ops o = true) (hb : Same (madeBy L) b a) (hu : b.tmps[s]? = some u) (hv : b.tmps[r]? = some v) (hx9 : b.tmps[q]? = some x) : execOp b.eval o = execOp (((a.put (some s) u).put (some r) v).put (some q) x).eval o := by
  simp only [looksB3, Bool.and_eq_true] at hB
  refine execOp_congr o ?_ fun y hy => ?_
  · intro cs d e
    have h := hB.1.1.1
    rw [e] at h
    cases h
  · refine (((hb.fix hu).fix hv).fix hx9).eval fun t e => ?_
    have h := List.all_eq_true.1 hB.1.1.2 y (by simpa using hy)
    rw [e] at h
    simp only [Bool.or_eq_true, beq_iff_eq, Bool.not_eq_true'] at h
    rcases h with ((h | h) | h) | h
    · repeat (first | rfl | rw [if_pos h] | split)
    · repeat (first | rfl | rw [if_pos h] | split)
    · rw [if_pos h]
    · repeat (first | rfl | exact madeBy_none h | split)
theorem looksB3_holds {s r q : Tmp} {V V2 V3 : Value → World → Prop} {b : Act} {w : World} (hB : looksB3 s r q (L.map (·.1)) ops o = true) (hV : madeBy L s = some V) (hV2 : madeBy L r = some V2) (hV3 : madeBy L q = some V3) (hh : Holds (madeBy L) (o.looksAt ops) b w) : (∃ u, b.tmps[s]? = some u ∧ V u w) ∧ (∃ u, b.tmps[r]? = some u ∧ V2 u w) ∧ ∃ u, b.tmps[q]? = some u ∧ V3 u w := by
  simp only [looksB3, Bool.and_eq_true] at hB
  exact ⟨hh s (by simpa using hB.2.1.1) V hV, hh r (by simpa using hB.2.1.2) V2 hV2, hh q (by simpa using hB.2.2) V3 hV3⟩
omit [RelOk X] in
/-- what is made out of three made things -/
theorem made_new3 (s r q : Tmp) (V V2 V3 : Value → World → Prop) (t : Tmp) (V' : Value → World → Prop) (hB : looksB3 s r q (L.map (·.1)) ops o = true) (hV : madeBy L s = some V) (hV2 : madeBy L r = some V2) (hV3 : madeBy L q = some V3) (hw : Region.wanted o (yielded ops a.tmps) = true) (hd : o.dst = some t) (hV' : madeBy L t = some V')
    (hrun : ∀ u v x w, Ext X w0 w → V u w → V2 v w → V3 x w → ∃ u' w', (execOp (((a.put (some s) u).put (some r) v).put (some q) x).eval o).run P w = .ok (.value u') w' ∧ Ext X w w' ∧ V' u' w')
    (h : wpMade X P ops (madeBy L) w0 Q rest (a.put o.dst undef)) : wpMade X P ops (madeBy L) w0 Q (o :: rest) a := by
  refine ⟨undef, fun b w hx hb hh => ⟨fun _ => ?_, fun h2 => ?_⟩, h⟩
  · obtain ⟨⟨u, hu, hVu⟩, ⟨v, hv, hVv⟩, x, hx3, hVx⟩ := looksB3_holds hB hV hV2 hV3 hh
    obtain ⟨u', w', h1, h2, h3⟩ := hrun u v x w hx hVu hVv hVx
    rw [hd, Option.bind_some, hV', looksB3_exec hB hb hu hv hx3, h1]
    exact ⟨rfl, h2, h3, trivial⟩
  · rw [looksB3_wanted hB hb, hw] at h2; cases h2
end
end Go.Proofs.Ytidiepbmbbflhaa.Fre
