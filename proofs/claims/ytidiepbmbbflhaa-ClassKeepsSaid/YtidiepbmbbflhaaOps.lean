/- Steps of a walk that make a block: a box of an aggregate, a row of one thing; the world behind them a variable. -/
import Derived.Test.YtidiepbmbbflhaaBuild
import Derived.Test.YtidiepbmbbflhaaFlat
import Derived.Test.YtidiepbmbbflhaaAt
namespace Go.Proofs.Ytidiepbmbbflhaa
open Go Go.RowKit
section
variable {P : Program} {ops : Array Oper} {rest : List Oper} {o : Oper} {a : Act} {w : World} {Q : Exit → Act → World → Prop}
/-- a world with one block more -/
structure New1 (w w' : World) (t : TypeId) (cells : Array Value) : Prop where
  blk : Blk w' w.heap.size t cells
  below : Below w.heap.size w w'
  size : w'.heap.size = w.heap.size + 1
theorem new1_alloc (w : World) (t : TypeId) (cells : Array Value) : New1 w (w.alloc (.cells cells t)) t cells :=
  ⟨Blk.new _ _ _, (Below.refl _ w).alloc (Nat.le_refl _) _, by rw [size_alloc]⟩
theorem wpList_boxA (hg : o.guard = none) (ty : TypeId) (x : Operand) (ho : o.op = .box ty x) (cells : Array Value) (hx : a.eval x = .agg cells)
    (h : ∀ w', New1 w w' ty cells → wpList P ops Q rest (a.put o.dst (.pointer (some ⟨w.heap.size, 0, none⟩))) w') : wpList P ops Q (o :: rest) a w := by
  refine wpList_value hg (.pointer (some ⟨w.heap.size, 0, none⟩)) (w.alloc (.cells cells ty)) ?_ (h _ (new1_alloc w ty cells))
  unfold execOp
  simp only [ho, hx]
  rfl
theorem wpList_newZ (hg : o.guard = none) (ty : TypeId) (zc : Array Value) (hr : (execOp a.eval o).run P w = .ok (.value (.pointer (some ⟨w.heap.size, 0, none⟩))) (w.alloc (.cells zc ty)))
    (h : ∀ w', New1 w w' ty zc → wpList P ops Q rest (a.put o.dst (.pointer (some ⟨w.heap.size, 0, none⟩))) w') : wpList P ops Q (o :: rest) a w :=
  wpList_value hg _ _ hr (h _ (new1_alloc w ty zc))
theorem wpList_row1 (hg : o.guard = none) (t : TypeId) (x : Operand) (ho : o.op = .buildSlice t 1 #[(0, x)]) (e n : Nat) (z v : Value) (hx : a.eval x = v) (ht : P.underlying t = some (.slice e)) (hs : (P.info? e).map (·.size) = some n) (hn : 0 < n) (h24 : n ≤ 16777216) (hz : ∀ w, (zeroValue e).run P w = .ok z w) (hv : v.cells.size = n)
    (h : ∀ w', New1 w w' e v.cells → wpList P ops Q rest (a.put o.dst (.slice (some ⟨w.heap.size, 0, none⟩) 1 1)) w') : wpList P ops Q (o :: rest) a w :=
  wpList_value hg _ _ (exec_buildSliceP t x ho hx ht hs hn h24 hz hv w) (h _ (new1_alloc w e v.cells))
theorem wpList_store1 (hg : o.guard = none) (ty : TypeId) (x y : Operand) (ho : o.op = .store ty x y) (g i : Nat) (t : TypeId) (cs : Array Value) (hb : Blk w g t cs) (hi : i < cs.size) (hs : (P.info? ty).map (·.size) = some 1) (v : Value) (h1 : v.oneCell' = true)
    (hx : a.eval x = .pointer (some ⟨g, i, none⟩)) (hy : a.eval y = v)
    (h : ∀ w', Blk w' g t (cs.setIfInBounds i v) → w.grownBy w' (some g) → w'.heap.size = w.heap.size → wpList P ops Q rest (a.put o.dst undef) w') : wpList P ops Q (o :: rest) a w := by
  have hr : (storeVar ty ⟨g, i, none⟩ v).run P w = .ok () (w.setCell ⟨g, i, none⟩ v) := by
    have := run_storeCells_cells (P := P) g i [v] 0 w (fun j hj => by
      have hj0 : j = 0 := by simpa using hj
      subst hj0
      rw [Nat.add_zero, hb.cell, Array.getElem?_eq_getElem hi]
      rfl) (fun j _ => hb.frozen _) (fun u hu => by rw [List.mem_singleton.1 hu]; exact h1)
    have hc : v.cells = #[v] := by cases v <;> first | rfl | cases h1
    cases hq : P.info? ty with
    | none => simp [hq] at hs
    | some j =>
      have hs : j.size = 1 := by simpa [hq] using hs
      simp only [Nat.add_zero] at this
      simp [storeVar, sizeOf, typeInfo, hq, hc, hs, this]
      rfl
  refine wpList_plain hg fun K hK => ?_
  unfold Oper.wp execOp
  simp only [ho, hx, hy, Instr.storeAt, Instr.sureAddr, Sem.run_bind, Sem.run_pure, Result.andThen_ok, hr]
  exact hK _ _ (h _ (hb.set_ i v) ⟨rfl, rfl, rfl, by simp [World.setCell], fun k _ hne => Below.heap_setCell w ⟨g, i, none⟩ v k (fun e => hne (by rw [e]))⟩ (by simp [World.setCell]))
theorem New1.src {w w' : World} {t : TypeId} {cs : List Value} {n : Nat} (h : New1 w w' t cs.toArray) (hl : cs.length = n) (h1 : ∀ u ∈ cs, u.oneCell' = true) : SrcN w' n (some ⟨w.heap.size, 0, none⟩) 1 1 cs := by
  subst hl
  exact box_src h.blk h1
end
end Go.Proofs.Ytidiepbmbbflhaa
