/- package pick: the cells of a search that begins. -/
import Derived.Test.YtfppddnfdinipaaPickP
import Derived.Test.YtfppddnfdinipaaBuildN
namespace Go.Proofs.Ytfppddnfdinipaa
open Go Go.RowKit Go.Maps
set_option maxRecDepth 100000
def caseC (c : Cvs) : List Value := bv c.own ++ [c.fixed, c.classes, c.opts, c.of]
def srchZ : List Value := bv (List.replicate 20 0) ++ [.slice none 0 0, .slice none 0 0, .slice none 0 0, .slice none 0 0, .map none, .map none, .map none, .int .i64 0, .int .i64 0, .int .i64 0]
def srchPlaces : Array (Nat × Nat) := #[(0, 24), (24, 1), (25, 1), (26, 1), (27, 1), (28, 1), (29, 1)]
theorem caseC_len {c : Cvs} (h : okH c.own) : (caseC c).length = 24 := by
  unfold caseC
  rw [List.length_append, bvL, show c.own.length = 20 from h]
  rfl
theorem fill_one {place : Nat → Option (Nat × Nat)} {A L : List Value} (hA : A.length = 24) (n i : Nat) (v : Value) (rest : List (Nat × Value)) (hv : v.cells = #[v]) (hp : place i = some (24 + n, 1)) (hn : n < L.length) :
    Instr.fill place (A ++ L).toArray ((i, v) :: rest) = Instr.fill place (A ++ L.set n v).toArray rest := by
  have e1 : (A ++ L).take (24 + n) = A ++ L.take n := by
    rw [List.take_append, hA, List.take_of_length_le (by omega), show 24 + n - 24 = n by omega]
  have e2 : (A ++ L).drop (24 + n + 1) = L.drop (n + 1) := by
    rw [List.drop_append, hA, List.drop_of_length_le (by omega), List.nil_append, show 24 + n + 1 - 24 = n + 1 by omega]
  rw [fill_part _ _ i v rest (24 + n) (by rw [hv]; exact hp) (by rw [hv]; simp [hA]; omega)]
  rw [hv]
  show Instr.fill place ((A ++ L).take (24 + n) ++ [v] ++ (A ++ L).drop (24 + n + 1)).toArray rest = _
  rw [e1, e2, List.set_eq_take_append_cons_drop, if_pos hn]
  simp
theorem fill_srch {c : Cvs} (h : okH c.own) (cb tb hb : Nat) (f : Int) :
    Instr.fill (fun i => srchPlaces[i]?) srchZ.toArray [(0, .agg (caseC c).toArray), (1, .map (some cb)), (2, .map (some tb)), (3, .map (some hb)), (6, .int .i64 f)] = some (srchCells c cb tb hb (S0 f)).toArray := by
  have hl := caseC_len h
  have hz : srchZ.drop 24 = [Value.map none, .map none, .map none, .int .i64 0, .int .i64 0, .int .i64 0] := rfl
  rw [fill_part _ _ 0 _ _ 0 (by simp [Value.cells, hl, srchPlaces]) (by simp [Value.cells, hl]; decide)]
  have z1 : (srchZ.toArray.toList.take 0 ++ (Value.agg (caseC c).toArray).cells.toList ++ srchZ.toArray.toList.drop (0 + (Value.agg (caseC c).toArray).cells.size)).toArray = (caseC c ++ [Value.map none, .map none, .map none, .int .i64 0, .int .i64 0, .int .i64 0]).toArray := by
    simp [Value.cells, hl, hz]
  rw [z1]
  rw [fill_one hl 0 1 _ _ rfl rfl (by simp), fill_one hl 1 2 _ _ rfl rfl (by simp), fill_one hl 2 3 _ _ rfl rfl (by simp), fill_one hl 5 6 _ _ rfl rfl (by simp)]
  unfold Instr.fill srchCells caseC
  simp [S0]
/-- the search is built (give the five slots by rfl) -/
theorem exec_srch {ρ : Operand → Value} {o : Oper} {c : Cvs} (ho : okH c.own) (a b d : Nat) (f : Int) (w : World) (hop : o.op = .build 104 #[(0, .tmp 10), (1, .tmp 11), (2, .tmp 12), (3, .tmp 13), (6, .tmp 15)]) (h1 : ρ (.tmp 10) = .agg (caseC c).toArray) (h2 : ρ (.tmp 11) = .map (some a)) (h3 : ρ (.tmp 12) = .map (some b)) (h4 : ρ (.tmp 13) = .map (some d)) (h5 : ρ (.tmp 15) = .int .i64 f) :
    (execOp ρ o).run Try.prog w = .ok (.value (.agg (srchCells c a b d (S0 f)).toArray)) w := by
  refine exec_buildN 104 _ hop (z := .agg srchZ.toArray) (places := srchPlaces) Try.underlying104 (fun w => by kernel_rfl) (fun w => by kernel_rfl) [(0, .agg (caseC c).toArray), (1, .map (some a)), (2, .map (some b)), (3, .map (some d)), (6, .int .i64 f)] ?_ (fill_srch ho _ _ _ f) _
  simp [h1, h2, h3, h4, h5]
end Go.Proofs.Ytfppddnfdinipaa
