/- Two texts, one behind the other. -/
import Derived.Test.YtidiepbmbbflhaaExec
namespace Go.Proofs.Ytidiepbmbbflhaa
open Go Go.RowKit
theorem exec_concat {P : Program} {ρ : Operand → Value} {o : Oper} (t : TypeId) (x y : Operand) (r : TypeId) (ho : o.op = .binOp .add t x y r) (a b : ByteArray) (hx : ρ x = .string a) (hy : ρ y = .string b) (hs : a.size + b.size ≤ 9223372036854775807) (W : World) : (execOp ρ o).run P W = .ok (.value (.string (a ++ b))) W := by
  unfold execOp
  simp [ho, hx, hy, go_sem, eqGuard, binOp, hs]
end Go.Proofs.Ytidiepbmbbflhaa
