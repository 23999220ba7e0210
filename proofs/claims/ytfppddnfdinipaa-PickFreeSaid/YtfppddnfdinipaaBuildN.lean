/- A struct built of any parts, the filling given. -/
import Derived.Test.YtfppddnfdinipaaBuild2
namespace Go.Proofs.Ytfppddnfdinipaa
open Go Go.RowKit
theorem exec_buildN {P : Program} {ρ : Operand → Value} {o : Oper} (t : TypeId) (xs : Array (Nat × Operand)) (ho : o.op = .build t xs) {fields : Array Field} {places : Array (Nat × Nat)} {z : Value} {cells : Array Value} (ht : P.underlying t = some (.struct fields)) (hz : ∀ w, (zeroValue t).run P w = .ok z w)
    (hpl : ∀ w, (fields.mapM fun f => do pure (f.offset, ← sizeOf f.type) : Sem (Array (Nat × Nat))).run P w = .ok places w) (parts : List (Nat × Value)) (hx : (xs.map fun (i, x) => (i, ρ x)) = parts.toArray) (hf : Instr.fill (fun i => places[i]?) z.cells parts = some cells) (w : World) :
    (execOp ρ o).run P w = .ok (.value (.agg cells)) w := by
  have h : (Instr.build t parts.toArray).run P w = .ok (.agg cells) w := by
    unfold Instr.build
    simp only [Sem.run_bind, hz, Result.andThen_ok, run_underlying ht]
    rw [hpl]
    simp only [Result.andThen_ok]
    rw [hf]
    rfl
  unfold execOp
  simp only [ho, hx, Sem.run_bind, h, Result.andThen_ok, Sem.run_pure]
end Go.Proofs.Ytfppddnfdinipaa
