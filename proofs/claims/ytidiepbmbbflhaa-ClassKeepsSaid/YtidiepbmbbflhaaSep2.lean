/- Small laws for walks that a program prints: what a load gives, results that lie in cells. -/
import Derived.Test.YtidiepbmbbflhaaSep
import Derived.Test.YtidiepbmbbflhaaMid
import Derived.Test.YtidiepbmbbflhaaBel
import Derived.Test.YtidiepbmbbflhaaExec
namespace Go.Proofs.Ytidiepbmbbflhaa
open Go Go.RowKit
section
variable {P : Program} {w : World}
/-- what the results are: a slot's value, or what a cell (a struct, an array) holds -/
def ResOk (P : Program) (tmps : Array Value) (w : World) : List ResultVar → List Value → Prop
  | [], [] => True
  | .tmp t :: l, v :: vs => tmps.getD t undef = v ∧ ResOk P tmps w l vs
  | .cell a ty :: l, v :: vs => (∃ p, tmps.getD a undef = .pointer (some p) ∧ (loadVar ty p).run P w = .ok v w) ∧ ResOk P tmps w l vs
  | _, _ => False
def resRun (tmps : Array Value) : ResultVar → Sem Value
  | .tmp t => Pure.pure (tmps.getD t undef)
  | .cell a t => do loadVar t (← asAddr (tmps.getD a undef))
theorem resOk_mapM (tmps : Array Value) : ∀ (l : List ResultVar) (vs : List Value), ResOk P tmps w l vs → (l.mapM (resRun tmps)).run P w = .ok vs w
  | [], [], _ => by simp [List.mapM_nil, Sem.run_pure]
  | .tmp t :: l, v :: vs, h => by
    obtain ⟨h1, h2⟩ := h
    rw [List.mapM_cons, Sem.run_bind]
    unfold resRun
    dsimp only
    rw [Sem.run_pure, Result.andThen_ok, Sem.run_bind]
    have e := resOk_mapM tmps l vs h2
    unfold resRun at e
    rw [e, Result.andThen_ok, Sem.run_pure, h1]
  | .cell a ty :: l, v :: vs, h => by
    obtain ⟨⟨p, h1, h3⟩, h2⟩ := h
    rw [List.mapM_cons, Sem.run_bind]
    have e := resOk_mapM tmps l vs h2
    have e1 : (resRun tmps (.cell a ty)).run P w = .ok v w := by
      unfold resRun
      dsimp only
      rw [h1, Sem.run_bind]
      simp only [asAddr, Sem.run_pure, Result.andThen_ok, h3]
    rw [e1, Result.andThen_ok, Sem.run_bind, e, Result.andThen_ok, Sem.run_pure]
  | .tmp _ :: _, [], h => h.elim
  | .cell _ _ :: _, [], h => h.elim
  | [], _ :: _, h => h.elim
theorem results_of {fn : Func} {tmps : Array Value} {l : List ResultVar} (h : fn.results = l.toArray) {vs : List Value} (hl : ResOk P tmps w l vs) : (results fn tmps).run P w = .ok (if h : vs.toArray.size = 1 then vs.toArray[0] else .tuple vs.toArray) w := by
  have e := resOk_mapM (P := P) (w := w) tmps l vs hl
  have e1 : (fn.results.mapM (resRun tmps)).run P w = .ok vs.toArray w := by
    rw [h, List.mapM_toArray, Sem.run_map, e, Result.andThen_ok]
  have e2 : results fn tmps = (fn.results.mapM (resRun tmps)) >>= fun vs => Pure.pure (if h : vs.size = 1 then vs[0] else .tuple vs) := by
    unfold results
    congr 1
  rw [e2, Sem.run_bind, e1, Result.andThen_ok, Sem.run_pure]
theorem results_two {fn : Func} {tmps : Array Value} {r1 r2 : ResultVar} (h : fn.results = #[r1, r2]) {v1 v2 : Value} (hl : ResOk P tmps w [r1, r2] [v1, v2]) : (results fn tmps).run P w = .ok (.tuple #[v1, v2]) w := results_of (l := [r1, r2]) h hl
theorem results_three {fn : Func} {tmps : Array Value} {r1 r2 r3 : ResultVar} (h : fn.results = #[r1, r2, r3]) {v1 v2 v3 : Value} (hl : ResOk P tmps w [r1, r2, r3] [v1, v2, v3]) : (results fn tmps).run P w = .ok (.tuple #[v1, v2, v3]) w := results_of (l := [r1, r2, r3]) h hl
theorem results_one {fn : Func} {tmps : Array Value} {r1 : ResultVar} (h : fn.results = #[r1]) {v1 : Value} (hl : ResOk P tmps w [r1] [v1]) : (results fn tmps).run P w = .ok v1 w := results_of (l := [r1]) h hl
/-- a cell that is read -/
theorem ld_cell {ty : TypeId} {p : Addr} {u : Value} {d : TypeDesc} (hu : P.underlying ty = some d) (hd : d.isRow = false) (hc : w.cell? p = some u) : (loadVar ty p).run P w = .ok u w := by
  have hagg : (isAgg ty).run P w = .ok false w := by
    unfold isAgg
    rw [Sem.run_bind, run_underlying hu w]
    cases d <;> simp_all
  simp [loadVar, hagg, hc]
/-- a struct or an array that is read -/
theorem ld_agg {ty : TypeId} {b off : Nat} {cs : List Value} {d : TypeDesc} (hc : w.rangeAt b off cs) (hu : P.underlying ty = some d) (hd : d.isRow = true) (hi : (P.info? ty).map (·.size) = some cs.length) : (loadVar ty ⟨b, off, none⟩).run P w = .ok (.agg cs.toArray) w := run_loadVar_mid w b off ty cs d hc hu hd hi
theorem range_cell {b o : Nat} {v : Value} (h : w.rangeAt b o [v]) : w.cell? ⟨b, o, none⟩ = some v := h 0 v rfl
theorem Blk.range {g : Nat} {t : TypeId} {cs : List Value} (h : Blk w g t cs.toArray) : w.rangeAt g 0 cs := by simpa using rangeAt_blk h
theorem range_mid {b o k : Nat} {cs pre mid post : List Value} (h : w.rangeAt b o cs) (e : cs = pre ++ (mid ++ post)) (hk : pre.length = k) : w.rangeAt b (o + k) mid := by
  subst e hk
  exact rangeAt_left (rangeAt_right h)
theorem range_same {w w' : World} {b o : Nat} {cs : List Value} (h : w.rangeAt b o cs) (he : w'.heap[b]? = w.heap[b]?) : w'.rangeAt b o cs := by
  intro j v hv
  have := h j v hv
  unfold World.cell? at this ⊢
  dsimp only at this ⊢
  rw [he]
  exact this
/-- old memory is read as it was -/
theorem Mem.range {w0 w : World} {L : List Ent} (h : Mem w0 w L) {b o : Nat} {cs : List Value} (hr : w0.rangeAt b o cs) (hb : b < w0.heap.size) : w.rangeAt b o cs := range_same hr (h.old hb)
theorem sz_eq {t : TypeId} {a b : Array Value} (h1 : (P.info? t).map (·.size) = some a.size) (h2 : (P.info? t).map (·.size) = some b.size) : a.size = b.size := Option.some.inj (h1.symm.trans h2)
/-! whether two strings are one -/
theorem str_eq {a b : ByteArray} {c : Bool} (hc : decide (a = b) = c) : (a.toList == b.toList) = c := by
  rw [← hc, ByteArray.toList_eq, ByteArray.toList_eq, Bool.eq_iff_iff, beq_iff_eq, decide_eq_true_iff]
  constructor
  · intro h
    cases a; cases b
    congr 1
    exact Array.toList_inj.1 h
  · intro h
    rw [h]
theorem exec_eqS {ρ : Operand → Value} {o : Oper} (t r : TypeId) (x y : Operand) (ho : o.op = .binOp .eql t x y r) (a b : ByteArray) (hx : ρ x = .string a) (hy : ρ y = .string b) (c : Bool) (hc : decide (a = b) = c) (W : World) : (execOp ρ o).run P W = .ok (.value (.bool c)) W := by
  have e := str_eq hc
  unfold execOp
  simp [go_sem, ho, hx, hy]
  exact e
theorem exec_neS {ρ : Operand → Value} {o : Oper} (t r : TypeId) (x y : Operand) (ho : o.op = .binOp .neq t x y r) (a b : ByteArray) (hx : ρ x = .string a) (hy : ρ y = .string b) (c : Bool) (hc : decide (a = b) = c) (W : World) : (execOp ρ o).run P W = .ok (.value (.bool (!c))) W := by
  have e := str_eq hc
  unfold execOp
  simp [go_sem, ho, hx, hy]
  first | exact e | (rw [e]) | (rw [← e]; rfl)
/-- two arrays, or structs, compared -/
theorem exec_eqA {ρ : Operand → Value} {o : Oper} (t r : TypeId) (x y : Operand) (ho : o.op = .binOp .eql t x y r) (xs ys : Array Value) (hx : ρ x = .agg xs) (hy : ρ y = .agg ys) (hm : P.eqGuardType P.depth t = false) (c : Bool) (W : World) (hv : (Op.equal t (.agg xs) (.agg ys)).run P W = .ok c W) : (execOp ρ o).run P W = .ok (.value (.bool c)) W := by
  unfold execOp
  simp only [ho, hx, hy, Sem.run_bind, run_eqGuard_agg W .eql t x y xs ys hm, binOp, hv, Result.andThen_ok, Sem.run_pure]
theorem exec_neA {ρ : Operand → Value} {o : Oper} (t r : TypeId) (x y : Operand) (ho : o.op = .binOp .neq t x y r) (xs ys : Array Value) (hx : ρ x = .agg xs) (hy : ρ y = .agg ys) (hm : P.eqGuardType P.depth t = false) (c : Bool) (W : World) (hv : (Op.equal t (.agg xs) (.agg ys)).run P W = .ok c W) : (execOp ρ o).run P W = .ok (.value (.bool (!c))) W := by
  unfold execOp
  simp only [ho, hx, hy, Sem.run_bind, run_eqGuard_agg W .neq t x y xs ys hm, binOp, hv, Result.andThen_ok, Sem.run_pure]
/-! a store of what is there already leaves the world as it is -/
theorem modify_same {h : Array Obj} {g : Nat} {f : Obj → Obj} {o : Obj} (hg : h[g]? = some o) (hf : f o = o) : h.modify g f = h := by
  apply Array.ext_getElem?
  intro i
  rw [Array.getElem?_modify]
  split
  · rename_i e
    subst e
    rw [hg]
    simp [hf]
  · rfl
theorem setRow_same {g : Nat} {t : TypeId} {cs : Array Value} (h : Blk w g t cs) : w.setRow g cs = w := by
  unfold World.setRow
  rw [modify_same (f := _) h rfl]
theorem setCell_same {g i : Nat} {t : TypeId} {cs : Array Value} {v : Value} (h : Blk w g t cs) (hv : cs[i]? = some v) : w.setCell ⟨g, i, none⟩ v = w := by
  have e : cs.setIfInBounds i v = cs := by
    apply Array.ext_getElem?
    intro k
    rw [Array.getElem?_setIfInBounds]
    split
    · rename_i e
      subst e
      have hi := (Array.getElem?_eq_some_iff.1 hv).1
      rw [if_pos hi, hv]
    · rfl
  have hm : w.heap.modify g (fun | .cells c elem frozen => .cells (if (none : Option Nat).isSome then c else c.setIfInBounds i v) elem frozen | o => o) = w.heap := modify_same h (by simp [e])
  show ({ w with heap := w.heap.modify g _ } : World) = w
  have h2 : ({ w with heap := w.heap.modify g (fun | .cells c elem frozen => .cells (if (none : Option Nat).isSome then c else c.setIfInBounds i v) elem frozen | o => o) } : World) = w := by rw [hm]
  exact h2
theorem exec_store_same {ρ : Operand → Value} {o : Oper} (ty : TypeId) (x y : Operand) (ho : o.op = .store ty x y) {g : Nat} {t : TypeId} {cs : List Value} (hb : Blk w g t cs.toArray) (hi : (P.info? ty).map (·.size) = some cs.toArray.size) (h1 : cs.toArray.all (·.oneCell') = true)
    (hx : ρ x = .pointer (some ⟨g, 0, none⟩)) (hy : ρ y = .agg cs.toArray) : (execOp ρ o).run P w = .ok .skip w := by
  have hrun := run_storeVar_row (P := P) w g t ty cs.toArray cs.toArray hb hi rfl h1
  unfold execOp
  simp only [ho, hx, hy, Instr.storeAt, Instr.sureAddr, Sem.run_bind, Sem.run_pure, Result.andThen_ok, hrun, setRow_same hb]
theorem exec_store_same1 {ρ : Operand → Value} {o : Oper} (ty : TypeId) (x y : Operand) (ho : o.op = .store ty x y) {g i : Nat} {t : TypeId} {cs : Array Value} {v : Value} (hb : Blk w g t cs) (hv : cs[i]? = some v) (hs : (P.info? ty).map (·.size) = some 1) (h1 : v.oneCell' = true)
    (hx : ρ x = .pointer (some ⟨g, i, none⟩)) (hy : ρ y = v) : (execOp ρ o).run P w = .ok .skip w := by
  have hi := (Array.getElem?_eq_some_iff.1 hv).1
  have hr : (storeVar ty ⟨g, i, none⟩ v).run P w = .ok () (w.setCell ⟨g, i, none⟩ v) := by
    have := run_storeCells_cells (P := P) g i [v] 0 w (fun j hj => by
      have hj0 : j = 0 := by simpa using hj
      subst hj0
      rw [Nat.add_zero, hb.cell, Array.getElem?_eq_getElem hi]
      rfl) (fun j _ => hb.frozen _) (fun u hu => by rw [List.mem_singleton.1 hu]; exact h1)
    have hc : v.cells = #[v] := by cases v <;> first | rfl | cases h1
    cases hq : P.info? ty with
    | none => simp [hq] at hs
    | some j =>
      have hs : j.size = 1 := by simpa [hq] using hs
      simp only [Nat.add_zero] at this
      simp [storeVar, sizeOf, typeInfo, hq, hc, hs, this]
      rfl
  unfold execOp
  simp only [ho, hx, hy, Instr.storeAt, Instr.sureAddr, Sem.run_bind, Sem.run_pure, Result.andThen_ok, hr, setCell_same hb hv]
theorem Fre.made_same {ops : Array Oper} {L : Fre.MadeL} {w0 : World} {rest : List Oper} {o : Oper} {a : Act} {Q : Act → Prop} {X : World → World → Prop} (hB : Fre.looksB (L.map (·.1)) ops o = true) (hw : Region.wanted o (yielded ops a.tmps) = true) (hd : o.dst.bind (Fre.madeBy L) = none)
    (hrun : ∀ w, Fre.Ext X w0 w → (execOp a.eval o).run P w = .ok .skip w) (h : Fre.wpMade X P ops (Fre.madeBy L) w0 Q rest (a.put o.dst undef)) : Fre.wpMade X P ops (Fre.madeBy L) w0 Q (o :: rest) a := by
  refine ⟨undef, fun b w hx hb _ => ⟨fun _ => ?_, fun h2 => ?_⟩, h⟩
  · rw [hd, Fre.looksB_exec hB hb, hrun w hx]
    exact ⟨rfl, rfl⟩
  · rw [Fre.looksB_wanted hB hb, hw] at h2; cases h2
/-- one value in a box -/
theorem wpList_box1 {ops : Array Oper} {rest : List Oper} {o : Oper} {a : Act} {Q : Exit → Act → World → Prop} (hg : o.guard = none) (ty : TypeId) (x : Operand) (ho : o.op = .box ty x) (v : Value) (h1 : v.oneCell' = true) (hx : a.eval x = v)
    (h : ∀ w', New1 w w' ty #[v] → wpList P ops Q rest (a.put o.dst (.pointer (some ⟨w.heap.size, 0, none⟩))) w') : wpList P ops Q (o :: rest) a w := by
  have hc : v.cells = #[v] := by cases v <;> first | rfl | cases h1
  refine wpList_value hg (.pointer (some ⟨w.heap.size, 0, none⟩)) (w.alloc (.cells #[v] ty)) ?_ (h _ (new1_alloc w ty #[v]))
  rw [← hc]
  unfold execOp
  simp only [ho, hx]
  rfl
/-- the memory but for a block that something turned -/
def Ent.no : Ent := ⟨fun _ => False, fun _ => True⟩
theorem Mem.lose {w0 w w' : World} {L : List Ent} {g : Nat} {t : TypeId} {cs : Array Value} (h : Mem w0 w L) (i : Nat) (hi : L[i]? = some (blkE g t cs)) (hg : w.grownBy w' (some g)) : Mem w0 w' (L.set i Ent.no) :=
  h.upd i hi hg (fun _ hb => (Option.some.inj hb).symm) (fun _ _ _ _ => trivial) trivial fun _ hf => False.elim hf
/-- things that a drawn region makes -/
def MadeE (w : World) (E : Value → Ent) (u : Value) (W : World) : Prop := (E u).P W ∧ ∀ b, (E u).F b → w.heap.size ≤ b ∧ b < W.heap.size
theorem madeE_ok (w : World) {E : Value → Ent} (h : ∀ u, (E u).Ok) : Fre.MadeOk Bel (MadeE w E) := ⟨fun u W W' hV hx => ⟨h u W W' hV.1 fun b _ hl => Below.block hx b hl, fun b hf => ⟨(hV.2 b hf).1, Nat.lt_of_lt_of_le (hV.2 b hf).2 (Below.size hx)⟩⟩⟩
/-- the same, of things that are told of by more than the value -/
def MadeX {α : Type} (w : World) (E : Value → α → Ent) (u : Value) (W : World) : Prop := ∃ x, (E u x).P W ∧ ∀ b, (E u x).F b → w.heap.size ≤ b ∧ b < W.heap.size
theorem madeX_ok {α : Type} (w : World) {E : Value → α → Ent} (h : ∀ u x, (E u x).Ok) : Fre.MadeOk Bel (MadeX w E) := ⟨fun u W W' ⟨x, hV⟩ hx => ⟨x, h u x W W' hV.1 fun b _ hl => Below.block hx b hl, fun b hf => ⟨(hV.2 b hf).1, Nat.lt_of_lt_of_le (hV.2 b hf).2 (Below.size hx)⟩⟩⟩
/-- one thing of a row of one's own -/
theorem own_at {α : Type} {f : α → List Value} {w : World} {B s g n cap k : Nat} {t : TypeId} {l : List α} {x : α} (h0 : 0 < s) (h : w.ownsRow B t s (.slice (some ⟨g, 0, none⟩) n cap) l.length (l.flatMap f)) (hl : ∀ x ∈ l, (f x).length = s) (hx : l[k]? = some x) : w.rangeAt g (k * s) (f x) := by
  rcases owned_formN h with ⟨h1, _⟩ | ⟨g', cap', cur, h1, _, _, _, hb, _, ht, _⟩
  · cases h1
  · injection h1 with e1 e2 e3
    injection e1 with e1
    injection e1 with e1
    subst e1
    intro j v hv
    have h2 := flatC_at h0 l hl k x hx j v hv
    rw [← ht] at h2
    rw [hb.cell, ← Array.getElem?_toList]
    rw [List.getElem?_take] at h2
    split at h2
    · exact h2
    · cases h2
/-- a row of one's own that is not empty -/
theorem own_is {w : World} {B s k : Nat} {t : TypeId} {u : Value} {xs : List Value} (h : w.ownsRow B t s u k xs) (hk : 0 < k) : ∃ g cap, u = .slice (some ⟨g, 0, none⟩) k cap ∧ g < w.heap.size := by
  obtain ⟨g, cap, e⟩ := owned_placeN h hk
  exact ⟨g, cap, e, (owned_ltN h (by rw [e]; rfl)).2⟩
theorem own_len {w : World} {B s k : Nat} {t : TypeId} {u : Value} {xs : List Value} (h : w.ownsRow B t s u k xs) : ∃ A cap, u = .slice A k cap := by
  rcases owned_formN h with ⟨h1, h2, _⟩ | ⟨g, cap, cur, h1, _⟩
  · exact ⟨none, 0, by rw [h1, h2]⟩
  · exact ⟨_, _, h1⟩
theorem Mem.seq {w0 w w' : World} {L L' : List Ent} (h : Mem w0 w L) (k : Mem w w' L') : Mem w0 w' (L' ++ L) := by
  have h2 := h.call k.below
  refine ⟨h2.below, fun e he => ?_, fun e he => ?_, fun e he b hf => ?_, List.pairwise_append.2 ⟨k.far, h2.far, fun x hx y hy b h1 h3 => ?_⟩⟩
  · rcases List.mem_append.1 he with he | he
    · exact k.ok e he
    · exact h2.ok e he
  · rcases List.mem_append.1 he with he | he
    · exact k.holds e he
    · exact h2.holds e he
  · rcases List.mem_append.1 he with he | he
    · exact ⟨Nat.le_trans h.below.size (k.lo e he b hf).1, (k.lo e he b hf).2⟩
    · exact h2.lo e he b hf
  · have := (k.lo x hx b h1).1
    have := (h.lo y hy b h3).2
    omega
end
end Go.Proofs.Ytidiepbmbbflhaa
