/- Single operations, run: for the region laws. -/
import Derived.Test.YtidiepbmbbflhaaMade
import Derived.Test.YtidiepbmbbflhaaEqArr
import Derived.Test.YtidiepbmbbflhaaBytes
namespace Go.Proofs.Ytidiepbmbbflhaa
open Go Go.RowKit
section
variable {P : Program} {ρ : Operand → Value} {o : Oper}
theorem exec_slice (t : TypeId) (x : Operand) (lo hi mx : Option Operand) (ho : o.op = .slice t x lo hi mx) (v : Value) (hv : ∀ W, (Instr.sliceAt t (ρ x) (lo.map ρ) (hi.map ρ) (mx.map ρ)).run P W = .ok v W) (W : World) : (execOp ρ o).run P W = .ok (.value v) W := by
  unfold execOp
  simp only [ho, Sem.run_bind, hv W, Result.andThen_ok, Sem.run_pure]
theorem exec_binop_agg (op : BinOp) (t : TypeId) (x y : Operand) (r : TypeId) (ho : o.op = .binOp op t x y r) (xs ys : Array Value) (hx : ρ x = .agg xs) (hy : ρ y = .agg ys) (hm : P.eqGuardType P.depth t = false) (v : Value) (hv : ∀ W, (binOp op t (.agg xs) (.agg ys)).run P W = .ok v W) (W : World) : (execOp ρ o).run P W = .ok (.value v) W := by
  unfold execOp
  simp only [ho, hx, hy, Sem.run_bind, run_eqGuard_agg W op t x y xs ys hm, hv W, Result.andThen_ok, Sem.run_pure]
section
variable (t e : TypeId) (ht : P.underlying t = some (.slice e)) (hs : (P.info? e).map (·.size) = some 1)
include ht hs
theorem run_slice_to (A : Option Addr) (len cap n : Nat) (hn : n ≤ cap) (w : World) :
    (Instr.sliceAt t (.slice A len cap) none (some (.int .i64 (n : Int))) none).run P w = .ok (.slice A n cap) w := by
  have e2 : P.elem t = e := by simp [Program.elem, ht]
  rw [run_sliceAt_slice w t _ _ _ _ (by rw [e2]; exact ht)]
  have h := run_slice_h (P := P) w t A len cap (by rw [e2]; exact ht) .i64 (n : Int) (by omega) (by omega)
  rw [h, e2]
  cases hi : P.info? e with
  | none => simp [hi] at hs
  | some i =>
    have h1 : i.size = 1 := by simpa [hi] using hs
    have e0 : A.map (fun a => a.add 0) = A := by cases A <;> simp [Addr.add]
    simp [sizeOf, typeInfo, hi, h1, sliced, e0]
end
end
/-- a guarded operation that is wanted -/
theorem wpList_wanted {P : Program} {ops : Array Oper} {rest : List Oper} {o : Oper} {a : Act} {w : World} {Q : Exit → Act → World → Prop} (hw : Region.wanted o (yielded ops a.tmps) = true)
    (h : ∀ K : Act → World → Prop, (∀ a w, wpList P ops Q rest a w → K a w) → o.wp P a w K Q) : wpList P ops Q (o :: rest) a w :=
  wpList_step fun K hK => by rw [if_pos hw]; exact h K hK
theorem wpList_load_blk_w {P : Program} {ops : Array Oper} {rest : List Oper} {o : Oper} {a : Act} {w : World} {Q : Exit → Act → World → Prop} (hw : Region.wanted o (yielded ops a.tmps) = true) (ty : TypeId) (x : Operand) (ho : o.op = .load ty x)
    (g : Nat) (t : TypeId) (cs : Array Value) (n : Nat) (e : TypeId) (hg : Blk w g t cs)
    (hu : P.underlying ty = some (.array n e)) (hi : (P.info? ty).map (·.size) = some cs.size) (hx : a.eval x = .pointer (some ⟨g, 0, none⟩))
    (h : wpList P ops Q rest (a.put o.dst (.agg cs)) w) : wpList P ops Q (o :: rest) a w :=
  wpList_wanted hw fun _ hK => wp_load_row ty x ho g hx t cs (0, 0) _ hg hu rfl hi (hK _ _ h)
/-- an operation whose run is known, in a region that goes on in order -/
theorem wpList_value_w {P : Program} {ops : Array Oper} {rest : List Oper} {o : Oper} {a : Act} {w : World} {Q : Exit → Act → World → Prop} (hw : Region.wanted o (yielded ops a.tmps) = true) (v : Value) (w' : World) (hrun : (execOp a.eval o).run P w = .ok (.value v) w') (h : wpList P ops Q rest (a.put o.dst v) w') : wpList P ops Q (o :: rest) a w :=
  wpList_wanted hw fun K hK => by
    unfold Oper.wp
    rw [hrun]
    exact hK _ _ h
/-- bytes cut -/
theorem BytesAt.take {w : World} {B n cap : Nat} {A : Option Addr} {l : List UInt8} (h : BytesAt w B (.slice A n cap) l) (k : Nat) (hk : k ≤ l.length) : BytesAt w B (.slice A k cap) (l.take k) := by
  obtain ⟨A', cap', hv, hc, hA⟩ := h
  injection hv with e1 e2 e3
  subst e1 e2 e3
  have hl : (l.take k).length = k := by rw [List.length_take]; omega
  refine ⟨A, cap, by rw [hl], by omega, fun h0 => ?_⟩
  rw [hl] at h0
  obtain ⟨b, off, h1, h2, h3⟩ := hA (by omega)
  refine ⟨b, off, h1, h2, fun j hj => ?_⟩
  rw [hl] at hj
  rw [h3 j (by omega)]
  simp [List.getD, hj]
theorem BytesAt.drop {w : World} {B n cap : Nat} {A : Option Addr} {l : List UInt8} (h : BytesAt w B (.slice A n cap) l) (k : Nat) (hk : k ≤ l.length) : BytesAt w B (.slice (if cap = k then A else A.map (·.add k)) (n - k) (cap - k)) (l.drop k) := by
  obtain ⟨A', cap', hv, hc, hA⟩ := h
  injection hv with e1 e2 e3
  subst e1 e2 e3
  have hl : (l.drop k).length = l.length - k := by rw [List.length_drop]
  refine ⟨_, cap - k, by rw [hl], by omega, fun h0 => ?_⟩
  rw [hl] at h0
  obtain ⟨b, off, rfl, h2, h3⟩ := hA (by omega)
  rw [if_neg (by omega)]
  refine ⟨b, off + k, by simp [Addr.add_mid], h2, fun j hj => ?_⟩
  rw [hl] at hj
  rw [Nat.add_assoc, h3 (k + j) (by omega)]
  simp [List.getD]
/-- what a row of byte slices holds -/
def RowOf (w : World) (B : Nat) (us : List Value) (ls : List (List UInt8)) : Prop := us.length = ls.length ∧ ∀ j, j < ls.length → BytesAt w B (us.getD j undef) (ls.getD j [])
theorem RowOf.nil (w : World) (B : Nat) : RowOf w B [] [] := ⟨rfl, fun j hj => absurd hj (by simp)⟩
theorem RowOf.cons {w : World} {B : Nat} {u : Value} {l : List UInt8} {us : List Value} {ls : List (List UInt8)} (h : BytesAt w B u l) (k : RowOf w B us ls) : RowOf w B (u :: us) (l :: ls) :=
  ⟨by simp [k.1], fun j hj => by
    cases j with
    | zero => exact h
    | succ j => exact k.2 j (by simpa using hj)⟩
/-- a made row of byte slices is the parts that it holds -/
theorem parts_made {w0 w : World} {B0 : Nat} {ty : TypeId} {us : List Value} {ls : List (List UInt8)} {u : Value} (h : madeSlc B0 ty us.toArray u w) (hx : Ext w0 w) (hr : RowOf w0 w0.heap.size us ls) : PartsAt w w.heap.size u ls := by
  obtain ⟨r, rfl, _, hb⟩ := h
  obtain ⟨hl, hj⟩ := hr
  have hs : us.toArray.size = ls.length := by simpa using hl
  rw [hs]
  refine ⟨_, ls.length, rfl, Nat.le_refl _, fun _ => ⟨r, 0, rfl, hb.lt, fun j hjl => ⟨us.getD j undef, ?_, ?_⟩⟩⟩
  · rw [Nat.zero_add, hb.cell]
    simp [List.getD, show j < us.length by omega]
  · obtain ⟨A, cap, h1, h2, h3⟩ := (hj j hjl).alike (alike_of_below hx)
    exact ⟨A, cap, h1, h2, fun h0 => by obtain ⟨b, off, h4, h5, h6⟩ := h3 h0; exact ⟨b, off, h4, Nat.lt_of_lt_of_le h5 hx.size, h6⟩⟩
end Go.Proofs.Ytidiepbmbbflhaa
