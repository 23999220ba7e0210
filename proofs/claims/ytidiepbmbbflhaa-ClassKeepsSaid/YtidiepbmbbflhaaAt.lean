/- Guards for the arms of a walk: an arm is tried only at the operation that writes its slot. -/
import Derived.Test.YtidiepbmbbflhaaBase
namespace Go.Proofs.Ytidiepbmbbflhaa
open Go Go.RowKit
theorem at_slot (n : Nat) {P : Program} {ops : Array Oper} {Q : Exit → Act → World → Prop} {rest : List Oper} {op : Op} {t} {p} {af} {g} {a : Act} {w : World}
    (h : wpList P ops Q (⟨some n, op, t, p, af, g⟩ :: rest) a w) : wpList P ops Q (⟨some n, op, t, p, af, g⟩ :: rest) a w := h
theorem at_store (x y : Nat) {P : Program} {ops : Array Oper} {Q : Exit → Act → World → Prop} {rest : List Oper} {ty : TypeId} {t} {p} {af} {g} {a : Act} {w : World}
    (h : wpList P ops Q (⟨none, .store ty (.tmp x) (.tmp y), t, p, af, g⟩ :: rest) a w) : wpList P ops Q (⟨none, .store ty (.tmp x) (.tmp y), t, p, af, g⟩ :: rest) a w := h
theorem at_storeC (x : Nat) {P : Program} {ops : Array Oper} {Q : Exit → Act → World → Prop} {rest : List Oper} {ty : TypeId} {c : Value} {t} {p} {af} {g} {a : Act} {w : World}
    (h : wpList P ops Q (⟨none, .store ty (.tmp x) (.const c), t, p, af, g⟩ :: rest) a w) : wpList P ops Q (⟨none, .store ty (.tmp x) (.const c), t, p, af, g⟩ :: rest) a w := h
end Go.Proofs.Ytidiepbmbbflhaa
