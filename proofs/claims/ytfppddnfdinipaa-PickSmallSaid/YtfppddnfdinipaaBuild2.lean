/- A struct built of two parts of many cells. -/
import Derived.Test.YtfppddnfdinipaaBuild
namespace Go.Proofs.Ytfppddnfdinipaa
open Go Go.RowKit
theorem run_build2 {P : Program} {t n1 n2 : Nat} {fields : Array Field} {z v1 v2 : Value} (ht : P.underlying t = some (.struct fields)) (hz : ∀ w, (zeroValue t).run P w = .ok z w) (hzs : z.cells.size = n1 + n2)
    (hpl : ∀ w, (fields.mapM fun f => do pure (f.offset, ← sizeOf f.type) : Sem (Array (Nat × Nat))).run P w = .ok #[(0, n1), (n1, n2)] w) (h1 : v1.cells.size = n1) (h2 : v2.cells.size = n2) (w : World) :
    (Instr.build t #[(0, v1), (1, v2)]).run P w = .ok (.agg (v1.cells ++ v2.cells)) w := by
  have hfill : Instr.fill (fun i => (#[(0, n1), (n1, n2)] : Array (Nat × Nat))[i]?) z.cells [(0, v1), (1, v2)] = some (v1.cells ++ v2.cells) := by
    rw [fill_part _ _ 0 v1 _ 0 (by simp [h1]) (by omega)]
    rw [fill_part _ _ 1 v2 [] n1 (by simp [h2]) (by simp; omega)]
    unfold Instr.fill
    congr 1
    apply Array.ext'
    have e1 : v1.cells.toList.length = n1 := by rw [Array.length_toList, h1]
    have e2 : z.cells.toList.length = n1 + n2 := by rw [Array.length_toList, hzs]
    simp only [List.take_zero, List.nil_append, Array.toList_append, Nat.zero_add, h1, h2]
    rw [List.take_left' e1, List.drop_of_length_le (by rw [List.length_append, List.length_drop]; omega), List.append_nil]
  unfold Instr.build
  simp only [Sem.run_bind, hz, Result.andThen_ok, run_underlying ht]
  rw [hpl]
  simp only [Result.andThen_ok]
  rw [hfill]
  rfl
theorem exec_build2 {P : Program} {ρ : Operand → Value} {o : Oper} (t : TypeId) (x y : Operand) (ho : o.op = .build t #[(0, x), (1, y)]) {n1 n2 : Nat} {fields : Array Field} {z v1 v2 : Value} (hx : ρ x = v1) (hy : ρ y = v2) (ht : P.underlying t = some (.struct fields)) (hz : ∀ w, (zeroValue t).run P w = .ok z w) (hzs : z.cells.size = n1 + n2)
    (hpl : ∀ w, (fields.mapM fun f => do pure (f.offset, ← sizeOf f.type) : Sem (Array (Nat × Nat))).run P w = .ok #[(0, n1), (n1, n2)] w) (h1 : v1.cells.size = n1) (h2 : v2.cells.size = n2) (w : World) :
    (execOp ρ o).run P w = .ok (.value (.agg (v1.cells ++ v2.cells))) w := by
  have h := run_build2 (P := P) ht hz hzs hpl h1 h2 w
  unfold execOp
  simp only [ho, List.map_toArray, List.map_cons, List.map_nil, hx, hy, Sem.run_bind, h, Result.andThen_ok, Sem.run_pure]
end Go.Proofs.Ytfppddnfdinipaa
