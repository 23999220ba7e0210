/- Structs and slices built of parts of many cells. -/
import Derived.Test.YtidiepbmbbflhaaBase
import Derived.Laws.Tables
namespace Go.Proofs.Ytidiepbmbbflhaa
open Go Go.RowKit
theorem fold_part (off : Nat) : ∀ (l : List Value) (k : Nat) (acc : Array Value), off + k + l.length ≤ acc.size →
    ((l.zipIdx k).foldl (fun a x => a.setIfInBounds (off + x.2) x.1) acc).toList = acc.toList.take (off + k) ++ l ++ acc.toList.drop (off + k + l.length)
  | [], k, acc, _ => by simp
  | x :: l, k, acc, h => by
    rw [List.length_cons] at h
    rw [List.zipIdx_cons, List.foldl_cons, fold_part off l (k + 1) _ (by rw [Array.size_setIfInBounds]; omega)]
    have hk : off + k < acc.toList.length := by rw [Array.length_toList]; omega
    have hs : (acc.setIfInBounds (off + k) x).toList = (acc.toList.take (off + k) ++ [x]) ++ acc.toList.drop (off + k + 1) := by
      rw [Array.toList_setIfInBounds, List.set_eq_take_append_cons_drop, if_pos hk, List.append_assoc]
      rfl
    have hl : (acc.toList.take (off + k) ++ [x]).length = off + k + 1 := by
      rw [List.length_append, List.length_take, Nat.min_eq_left (by omega)]
      rfl
    simp only
    rw [hs, ← Nat.add_assoc, List.take_left' hl, List.drop_append, hl, List.drop_of_length_le (by rw [hl]; omega), List.nil_append, List.drop_drop, List.length_cons]
    have e : off + k + 1 + (off + k + 1 + l.length - (off + k + 1)) = off + k + (l.length + 1) := by omega
    rw [e]
    simp
theorem fill_part (place : Nat → Option (Nat × Nat)) (cells : Array Value) (i : Nat) (v : Value) (rest : List (Nat × Value)) (off : Nat) (hp : place i = some (off, v.cells.size)) (hc : off + v.cells.size ≤ cells.size) :
    Instr.fill place cells ((i, v) :: rest) = Instr.fill place (cells.toList.take off ++ v.cells.toList ++ cells.toList.drop (off + v.cells.size)).toArray rest := by
  have e : v.cells.zipIdx.foldl (fun cs x => cs.setIfInBounds (off + x.2) x.1) cells = (cells.toList.take off ++ v.cells.toList ++ cells.toList.drop (off + v.cells.size)).toArray := by
    apply Array.ext'
    have h := fold_part off v.cells.toList 0 cells (by simpa using hc)
    simp only [Nat.add_zero] at h
    rw [← Array.foldl_toList, Array.toList_zipIdx, h]
    simp
  rw [Instr.fill, hp]
  simp only []
  rw [if_neg (by simp; omega)]
  rw [← e]
/-- a slice of one part -/
theorem run_buildSliceP {P : Program} {t e n : Nat} {z v : Value} (ht : P.underlying t = some (.slice e)) (hs : (P.info? e).map (·.size) = some n) (hn : 0 < n) (h24 : n ≤ 16777216) (hz : ∀ w, (zeroValue e).run P w = .ok z w) (hv : v.cells.size = n) (w : World) :
    (Instr.buildSlice t 1 #[(0, v)]).run P w = .ok (.slice (some ⟨w.heap.size, 0, none⟩) 1 1) (w.alloc (.cells v.cells e)) := by
  have hsz : ∀ w, (sizeOf e).run P w = .ok n w := by
    intro w
    cases hq : P.info? e with
    | none => simp [hq] at hs
    | some i =>
      have h1 : i.size = n := by simpa [hq] using hs
      simp [sizeOf, typeInfo, hq, h1]
  have hfill : ∀ cells : Array Value, cells.size = n → Instr.fill (fun i => some (i * n, n)) cells [(0, v)] = some v.cells := by
    intro cells hc
    rw [fill_part _ _ 0 v [] 0 (by simp [hv]) (by omega)]
    unfold Instr.fill
    congr 1
    apply Array.ext'
    simp
    omega
  have h0 : ¬ n = 0 := by omega
  have h25 : ¬ 16777216 < n := by omega
  simp [Instr.buildSlice, run_underlying ht, hsz, h0, h25, hz, hfill, Result.andThen]
  have hr : (newRow e v.cells).run P w = .ok ⟨w.heap.size, 0, none⟩ (w.alloc (.cells v.cells e)) := rfl
  rw [hr]
theorem exec_buildSliceP {P : Program} {ρ : Operand → Value} {o : Oper} (t : TypeId) (x : Operand) (ho : o.op = .buildSlice t 1 #[(0, x)]) {e n : Nat} {z v : Value} (hx : ρ x = v) (ht : P.underlying t = some (.slice e)) (hs : (P.info? e).map (·.size) = some n) (hn : 0 < n) (h24 : n ≤ 16777216) (hz : ∀ w, (zeroValue e).run P w = .ok z w) (hv : v.cells.size = n) (w : World) :
    (execOp ρ o).run P w = .ok (.value (.slice (some ⟨w.heap.size, 0, none⟩) 1 1)) (w.alloc (.cells v.cells e)) := by
  have h := run_buildSliceP (P := P) ht hs hn h24 hz hv w
  unfold execOp
  simp only [ho, List.map_toArray, List.map_cons, List.map_nil, hx, Sem.run_bind, h, Result.andThen_ok, Sem.run_pure]
end Go.Proofs.Ytidiepbmbbflhaa
