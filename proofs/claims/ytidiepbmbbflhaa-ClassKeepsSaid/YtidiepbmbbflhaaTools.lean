/- words of the walks: an index into a slice, a box, what is read of a block. -/
import Derived.Test.YtidiepbmbbflhaaPaths
import Derived.Test.YtidiepbmbbflhaaMid
namespace Go.Proofs.Ytidiepbmbbflhaa
open Go Go.RowKit Go.Maps
set_option maxRecDepth 100000
theorem sz_hash : (Try.prog.info? 27).map (·.size) = some 20 := by kernel_rfl
theorem sz_path : (Try.prog.info? 68).map (·.size) = some 21 := by kernel_rfl
def zcP : Array Value := (bv (List.replicate 20 0) ++ [Value.string ByteArray.empty]).toArray
def zcH : Array Value := (bv (List.replicate 20 0)).toArray
theorem exec_index_off {P : Program} {ρ : Operand → Value} {o : Oper} (ty e : TypeId) (x i : Operand) (ho : o.op = .indexAddr ty x i) (b off n cap : Nat) (k : Int) (kk : IntKind) (hx : ρ x = .slice (some ⟨b, off, none⟩) n cap) (hi : ρ i = .int kk k) (hk : 0 ≤ k ∧ k < (n : Int)) (s : Nat) (hu : P.underlying ty = some (.slice e)) (hs : (P.info? e).map (·.size) = some s) (w : World) :
    (execOp ρ o).run P w = .ok (.value (.pointer (some ⟨b, off + k.toNat * s, none⟩))) w := by
  have e2 : P.elem ty = e := by simp [Program.elem, hu]
  unfold execOp
  simp only [ho, hx, hi, Sem.run_bind, Sem.run_pure, run_indexAt_slice w ty _ _ _ kk k (by rw [e2]; exact hu), e2, if_pos hk]
  cases hq : P.info? e with
  | none => simp [hq] at hs
  | some j =>
    have h1 : j.size = s := by simpa [hq] using hs
    simp [sizeOf, typeInfo, hq, h1, Addr.add_mid]
theorem slice_open {α : Type} {t : TypeId} {L : Lay α} {w : World} {B : Nat} {v : Value} {l : List α} (h : (Lay.slice t L).At w B [v] l) : ∃ A cap, v = .slice A l.length cap ∧ l.length ≤ cap ∧ cap ≤ maxLen ∧ (A = none → cap = 0) ∧ (0 < l.length → ∃ b off, A = some ⟨b, off, none⟩ ∧ b < B ∧ ElemsAt L w B b off l) := by
  obtain ⟨A, cap, e, h1, h2, h3, h4⟩ := h
  injection e with e _
  exact ⟨A, cap, e, h1, h2, h3, h4⟩
theorem wpList_box {P : Program} {ops : Array Oper} {rest : List Oper} {o1 o2 : Oper} {a : Act} {w : World} {Q : Exit → Act → World → Prop} (hg1 : o1.guard = none) (hg2 : o2.guard = none) (ty : TypeId) (x y : Operand) (ho2 : o2.op = .store ty x y) (zc cells : Array Value)
    (hr : (execOp a.eval o1).run P w = .ok (.value (.pointer (some ⟨w.heap.size, 0, none⟩))) (w.alloc (.cells zc ty)))
    (hi : (P.info? ty).map (·.size) = some cells.size) (hz : zc.size = cells.size) (h1 : cells.all (·.oneCell') = true)
    (hx : (a.put o1.dst (.pointer (some ⟨w.heap.size, 0, none⟩))).eval x = .pointer (some ⟨w.heap.size, 0, none⟩)) (hy : (a.put o1.dst (.pointer (some ⟨w.heap.size, 0, none⟩))).eval y = .agg cells)
    (h : ∀ w', Blk w' w.heap.size ty cells → Below w.heap.size w w' → wpList P ops Q rest ((a.put o1.dst (.pointer (some ⟨w.heap.size, 0, none⟩))).put o2.dst undef) w') : wpList P ops Q (o1 :: o2 :: rest) a w := by
  refine wpList_value hg1 _ _ hr ?_
  refine wpList_store_blkA hg2 ty x y ho2 w.heap.size zc cells ty (Blk.new _ _ _) hi hz h1 hx hy ?_
  intro w' hb hg
  refine h w' hb (((Below.refl _ w).alloc (Nat.le_refl _) _).grown hg (by rw [size_alloc]; omega) ?_)
  intro k hk
  injection hk with hk
  omega
theorem rangeAt_same {w w' : World} {b o : Nat} {cs : List Value} (h : w.rangeAt b o cs) (he : w'.heap[b]? = w.heap[b]?) : w'.rangeAt b o cs := by
  intro j v hv
  have := h j v hv
  unfold World.cell? at this ⊢
  dsimp only at this ⊢
  rw [he]
  exact this
theorem hsz {h : Hsh} (hh : okH h) : (Try.prog.info? 27).map (·.size) = some (bv h).toArray.size := by
  rw [sz_hash]
  simp [bvL]
  exact hh.symm
theorem psz {p : Pth} (hp : okP p) : (Try.prog.info? 68).map (·.size) = some (pC p).toArray.size := by
  rw [sz_path]
  simp [pC_len hp]
end Go.Proofs.Ytidiepbmbbflhaa
