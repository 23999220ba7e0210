/- Steps of a walk that make a block: a box of an aggregate, a row of one thing; the world behind them a variable. text.Put. drv.of. From the plain walk of a region to the walk inside a round of a range over a function. What a round of a range over a function leaves alone; operations inside a fence that lets all through. drv.table.back: the items from one down to the first one. -/
import Derived.Test.YtidiepbmbbflhaaBuild
import Derived.Test.YtidiepbmbbflhaaFlat
import Derived.Test.YtidiepbmbbflhaaAt
import Derived.Test.YtidiepbmbbflhaaTextB
import Derived.Test.YtidiepbmbbflhaaDrvE
import Derived.Lib.Join
import Derived.Laws.OwnMore
import Derived.Laws.IdiomStrings
import Derived.Test.YtidiepbmbbflhaaDrvF
import Derived.Test.YtidiepbmbbflhaaBel
import Derived.RangeFuncNested
import Derived.RangeFuncBound
import Derived.RangeFuncCalls
import Derived.RangeFuncLeaves
import Derived.Shelf.Abstract
import Derived.OwnWalkIn
import Derived.TacticsInMore
import Derived.LoopNIn
import Derived.LoopIn
import Derived.RegionIn
import Derived.Shelf.RegionOpen
import Derived.Test.YtidiepbmbbflhaaTools
section
namespace Go.Proofs.Ytidiepbmbbflhaa
open Go Go.RowKit
section
variable {P : Program} {ops : Array Oper} {rest : List Oper} {o : Oper} {a : Act} {w : World} {Q : Exit → Act → World → Prop}
/-- a world with one block more -/
structure New1 (w w' : World) (t : TypeId) (cells : Array Value) : Prop where
  blk : Blk w' w.heap.size t cells
  below : Below w.heap.size w w'
  size : w'.heap.size = w.heap.size + 1
theorem new1_alloc (w : World) (t : TypeId) (cells : Array Value) : New1 w (w.alloc (.cells cells t)) t cells :=
  ⟨Blk.new _ _ _, (Below.refl _ w).alloc (Nat.le_refl _) _, by rw [size_alloc]⟩
theorem wpList_boxA (hg : o.guard = none) (ty : TypeId) (x : Operand) (ho : o.op = .box ty x) (cells : Array Value) (hx : a.eval x = .agg cells)
    (h : ∀ w', New1 w w' ty cells → wpList P ops Q rest (a.put o.dst (.pointer (some ⟨w.heap.size, 0, none⟩))) w') : wpList P ops Q (o :: rest) a w := by
  refine wpList_value hg (.pointer (some ⟨w.heap.size, 0, none⟩)) (w.alloc (.cells cells ty)) ?_ (h _ (new1_alloc w ty cells))
  unfold execOp
  simp only [ho, hx]
  rfl
theorem wpList_newZ (hg : o.guard = none) (ty : TypeId) (zc : Array Value) (hr : (execOp a.eval o).run P w = .ok (.value (.pointer (some ⟨w.heap.size, 0, none⟩))) (w.alloc (.cells zc ty)))
    (h : ∀ w', New1 w w' ty zc → wpList P ops Q rest (a.put o.dst (.pointer (some ⟨w.heap.size, 0, none⟩))) w') : wpList P ops Q (o :: rest) a w :=
  wpList_value hg _ _ hr (h _ (new1_alloc w ty zc))
theorem wpList_row1 (hg : o.guard = none) (t : TypeId) (x : Operand) (ho : o.op = .buildSlice t 1 #[(0, x)]) (e n : Nat) (z v : Value) (hx : a.eval x = v) (ht : P.underlying t = some (.slice e)) (hs : (P.info? e).map (·.size) = some n) (hn : 0 < n) (h24 : n ≤ 16777216) (hz : ∀ w, (zeroValue e).run P w = .ok z w) (hv : v.cells.size = n)
    (h : ∀ w', New1 w w' e v.cells → wpList P ops Q rest (a.put o.dst (.slice (some ⟨w.heap.size, 0, none⟩) 1 1)) w') : wpList P ops Q (o :: rest) a w :=
  wpList_value hg _ _ (exec_buildSliceP t x ho hx ht hs hn h24 hz hv w) (h _ (new1_alloc w e v.cells))
theorem wpList_store1 (hg : o.guard = none) (ty : TypeId) (x y : Operand) (ho : o.op = .store ty x y) (g i : Nat) (t : TypeId) (cs : Array Value) (hb : Blk w g t cs) (hi : i < cs.size) (hs : (P.info? ty).map (·.size) = some 1) (v : Value) (h1 : v.oneCell' = true)
    (hx : a.eval x = .pointer (some ⟨g, i, none⟩)) (hy : a.eval y = v)
    (h : ∀ w', Blk w' g t (cs.setIfInBounds i v) → w.grownBy w' (some g) → w'.heap.size = w.heap.size → wpList P ops Q rest (a.put o.dst undef) w') : wpList P ops Q (o :: rest) a w := by
  have hr : (storeVar ty ⟨g, i, none⟩ v).run P w = .ok () (w.setCell ⟨g, i, none⟩ v) := by
    have := run_storeCells_cells (P := P) g i [v] 0 w (fun j hj => by
      have hj0 : j = 0 := by simpa using hj
      subst hj0
      rw [Nat.add_zero, hb.cell, Array.getElem?_eq_getElem hi]
      rfl) (fun j _ => hb.frozen _) (fun u hu => by rw [List.mem_singleton.1 hu]; exact h1)
    have hc : v.cells = #[v] := by cases v <;> first | rfl | cases h1
    cases hq : P.info? ty with
    | none => simp [hq] at hs
    | some j =>
      have hs : j.size = 1 := by simpa [hq] using hs
      simp only [Nat.add_zero] at this
      simp [storeVar, sizeOf, typeInfo, hq, hc, hs, this]
      rfl
  refine wpList_plain hg fun K hK => ?_
  unfold Oper.wp execOp
  simp only [ho, hx, hy, Instr.storeAt, Instr.sureAddr, Sem.run_bind, Sem.run_pure, Result.andThen_ok, hr]
  exact hK _ _ (h _ (hb.set_ i v) ⟨rfl, rfl, rfl, by simp [World.setCell], fun k _ hne => Below.heap_setCell w ⟨g, i, none⟩ v k (fun e => hne (by rw [e]))⟩ (by simp [World.setCell]))
theorem New1.src {w w' : World} {t : TypeId} {cs : List Value} {n : Nat} (h : New1 w w' t cs.toArray) (hl : cs.length = n) (h1 : ∀ u ∈ cs, u.oneCell' = true) : SrcN w' n (some ⟨w.heap.size, 0, none⟩) 1 1 cs := by
  subst hl
  exact box_src h.blk h1
end
end Go.Proofs.Ytidiepbmbbflhaa
end
section
namespace Go.Proofs.Ytidiepbmbbflhaa
open Go Go.RowKit Go.Maps
set_option maxRecDepth 100000
/-- the cells of a text, in a block of bytes -/
def BytesOf (w : World) (g : Nat) (s : ByteArray) : Prop := (∃ cs fz, w.heap[g]? = some (.cells cs 5 fz)) ∧ ∀ j, j < s.size → w.cell? ⟨g, j, none⟩ = some (.int .u8 ((s.data.toList.getD j 0).toNat : Int))
theorem wpList_bytesOf {P : Program} {ops : Array Oper} {rest : List Oper} {o : Oper} {a : Act} {w : World} {Q : Exit → Act → World → Prop} (hg : o.guard = none) (src dst e : TypeId) (x : Operand) (ho : o.op = .convert src dst x)
    (hs : P.underlying src = some .string) (hd : P.underlying dst = some (.slice e)) (he : P.underlying e = some (.int .u8)) (s : ByteArray) (hx : a.eval x = .string s)
    (h : ∀ g cap w', ((∃ cs fz, w'.heap[g]? = some (.cells cs e fz)) ∧ ∀ j, j < s.size → w'.cell? ⟨g, j, none⟩ = some (.int .u8 ((s.data.toList.getD j 0).toNat : Int))) → s.size ≤ cap → w.heap.size ≤ g → g < w'.heap.size → Below w.heap.size w w' →
      wpList P ops Q rest (a.put o.dst (.slice (some ⟨g, 0, none⟩) s.size cap)) w') : wpList P ops Q (o :: rest) a w :=
  wpList_plain hg fun K hK => by
    unfold Oper.wp execOp
    simp only [ho, hx, Sem.run_bind, run_bytes_of_string w src dst e s hs hd he, Result.andThen_ok, Sem.run_pure]
    refine hK _ _ (h w.heap.size (grownCap w s.size 0 e) _ ⟨?_, ?_⟩ (grownCap_ge w s.size 0 e) (Nat.le_refl _) ?_ ?_)
    · exact ⟨_, _, heap_alloc_new w.drew _⟩
    · intro j hj
      refine (World.cell?_alloc_mark w.drew _ e _ j).trans ?_
      rw [bytesRow_at s _ j hj]
      have hj' : j < s.data.size := hj
      simp [List.getD, Array.getElem?_eq_getElem hj']
    · show _ < (w.heap.push _).size
      simp
    · exact ((Below.refl _ _).drew).alloc (Nat.le_refl _) _
/-- the first lines -/
def linesA (d : Drv) (j : Nat) : List ByteArray := (⟨#[100, 114, 118, 32]⟩ ++ d.1) :: (d.2.1.take j).map lineS
def linesP (d : Drv) : List ByteArray := (⟨#[100, 114, 118, 32]⟩ ++ d.1) :: (d.2.1.map lineS ++ [⟨#[114, 117, 110, 32]⟩ ++ ⟨(shownP d.2.2).toArray⟩])
/-- a derivation's text -/
def textP (d : Drv) : ByteArray := ⟨(Lib.join ((linesP d).map (·.data.toList)) [10]).toArray⟩ ++ ⟨#[10]⟩
/-- the error of writing it -/
def putE (d : Drv) : Int := if CanP d = true then (if 2000 < (textP d).size then 3 else 0) else 2
theorem lines_step (d : Drv) (j : Nat) (x : Nam) (h : d.2.1[j]? = some x) : (linesA d j).map Value.string ++ [.string (lineS x)] = (linesA d (j + 1)).map Value.string := by
  unfold linesA
  rw [List.take_add_one, h]
  simp
theorem lines_end (d : Drv) : (linesA d d.2.1.length).map Value.string ++ [.string (⟨#[114, 117, 110, 32]⟩ ++ ⟨(shownP d.2.2).toArray⟩)] = (linesP d).map Value.string := by
  unfold linesA linesP
  rw [List.take_length]
  simp
theorem linesP_len (d : Drv) : (linesP d).length = d.2.1.length + 1 + 1 := by simp [linesP]
theorem can_small {d : Drv} (h : CanP d = true) : nameP d.1 = true ∧ (d.2.1.length : Int) ≤ 8 ∧ (d.2.2.length : Int) ≤ 1000 := by
  unfold CanP at h
  simp only [Bool.and_eq_true] at h
  exact ⟨h.2.1, of_decide_eq_true h.2.2.1, of_decide_eq_true h.2.2.2⟩
theorem canAll_line : ∀ (l : List Nam) (b : ByteArray), canAll l b = true → ∀ x ∈ l, x.1.size ≤ 24 ∧ (x.2.2.2 = false → nameP x.2.1.2 = true)
  | [], _, _, x, hx => by cases hx
  | y :: l, b, h, x, hx => by
    rw [canAll, Bool.and_eq_true] at h
    rcases List.mem_cons.1 hx with rfl | hx
    · have h1 := h.1
      unfold canP at h1
      simp only [Bool.and_eq_true] at h1
      refine ⟨name_small h1.1.1, fun hf => ?_⟩
      have h2 := h1.2
      rw [hf] at h2
      simp only [Bool.false_eq_true, if_false, Bool.and_eq_true] at h2
      exact h2.1
    · exact canAll_line l y.1 h.2 x hx
theorem can_line {d : Drv} (h : CanP d = true) : ∀ x ∈ d.2.1, x.1.size ≤ 24 ∧ (x.2.2.2 = false → nameP x.2.1.2 = true) := by
  unfold CanP at h
  simp only [Bool.and_eq_true] at h
  exact canAll_line _ _ h.1
theorem shownP_len (b : List Int) : (shownP b).length ≤ 2 * b.length + 1 := by
  unfold shownP
  split
  · simp
  · rw [shownB_len]; omega
theorem run_small (b : List Int) (h : b.length ≤ 1000) : (⟨#[114, 117, 110, 32]⟩ : ByteArray).size + (⟨(shownP b).toArray⟩ : ByteArray).size ≤ 9223372036854775807 := by
  have h1 : (⟨#[114, 117, 110, 32]⟩ : ByteArray).size = 4 := rfl
  have h2 : (⟨(shownP b).toArray⟩ : ByteArray).size = (shownP b).length := rfl
  have := shownP_len b
  omega
theorem own_capN {w : World} {base g n cap s : Nat} {e : TypeId} {xs : List Value} (h : w.ownsRow base e s (.slice (some ⟨g, 0, none⟩) n cap) n xs) : n ≤ cap := by
  obtain ⟨_, h | ⟨g', cap', cur, e1, _, _, h2, _⟩⟩ := h
  · cases h.1
  · injection e1 with _ _ e3
    rw [e3]
    exact h2
theorem lineS_len {x : Nam} (hs : x.1.size ≤ 24) (hp : x.2.2.2 = false → nameP x.2.1.2 = true) (h1 : (lettersP x.2.2.1).length ≤ 40) (h2 : (lettersP x.2.1.1).length ≤ 40) : (lineS x).size ≤ 100 := by
  unfold lineS
  split
  · have hs1 : (⟨(lettersP x.2.2.1).toArray⟩ : ByteArray).size = (lettersP x.2.2.1).length := rfl
    have hs2 : (⟨#[32]⟩ : ByteArray).size = 1 := rfl
    have hs3 : (⟨#[99, 108, 97, 115, 115, 32]⟩ : ByteArray).size = 6 := rfl
    simp only [ByteArray.size_append, hs1, hs2, hs3]
    omega
  · rename_i hf
    have hp2 := name_small (hp (by simpa using hf))
    have hs2 : (⟨#[32]⟩ : ByteArray).size = 1 := rfl
    have hs3 : (⟨#[115, 114, 99, 32]⟩ : ByteArray).size = 4 := rfl
    simp only [ByteArray.size_append, pathS_size, hs2, hs3]
    omega
theorem lens_le (l : List ByteArray) (k : Nat) (h : ∀ s ∈ l, s.size ≤ k) : Lib.lens (l.map (·.data.toList)) ≤ k * l.length := by
  induction l with
  | nil => exact Nat.zero_le _
  | cons s l ih =>
    have h1 := ih fun x hx => h x (List.mem_cons_of_mem _ hx)
    have h2 := h s (List.mem_cons_self ..)
    have h3 : s.data.toList.length = s.size := rfl
    have e : Lib.lens ((s :: l).map (·.data.toList)) = s.data.toList.length + Lib.lens (l.map (·.data.toList)) := by simp [Lib.lens]
    rw [e, List.length_cons, h3, Nat.mul_add, Nat.mul_one]
    omega
theorem join_small {d : Drv} (hok : ∀ x ∈ d.2.1, okN x) (h : CanP d = true) : (Lib.join ((linesP d).map (·.data.toList)) [10]).length ≤ 30000 := by
  have hs := can_small h
  have hn := name_small hs.1
  have hl : Lib.lens ((linesP d).map (·.data.toList)) ≤ 2100 * (linesP d).length := lens_le _ _ fun s hm => by
    unfold linesP at hm
    rcases List.mem_cons.1 hm with rfl | hm
    · have : (⟨#[100, 114, 118, 32]⟩ : ByteArray).size = 4 := rfl
      rw [ByteArray.size_append]
      omega
    · rcases List.mem_append.1 hm with hm | hm
      · obtain ⟨x, hx, rfl⟩ := List.mem_map.1 hm
        have h1 := can_line h x hx
        have h2 := letters_len x.2.2.1
        have h3 := letters_len x.2.1.1
        have h4 : x.2.2.1.length = 20 := (hok x hx).2.2
        have h5 : x.2.1.1.length = 20 := (hok x hx).2.1.1
        have := lineS_len h1.1 h1.2 (by omega) (by omega)
        omega
      · rw [List.mem_singleton.1 hm, ByteArray.size_append]
        have h1 : (⟨#[114, 117, 110, 32]⟩ : ByteArray).size = 4 := rfl
        have h2 : (⟨(shownP d.2.2).toArray⟩ : ByteArray).size = (shownP d.2.2).length := rfl
        have := shownP_len d.2.2
        omega
  have hlp := linesP_len d
  have e : (linesP d).map (·.data.toList) = (⟨#[100, 114, 118, 32]⟩ ++ d.1 : ByteArray).data.toList :: (d.2.1.map lineS ++ [⟨#[114, 117, 110, 32]⟩ ++ ⟨(shownP d.2.2).toArray⟩] : List ByteArray).map (·.data.toList) := rfl
  rw [e, Lib.join_length, ← e, List.length_map, List.length_append, List.length_map]
  simp only [List.length_cons, List.length_nil]
  omega
theorem join_cat {d : Drv} (h : (Lib.join ((linesP d).map (·.data.toList)) [10]).length ≤ 30000) : (⟨(Lib.join ((linesP d).map (·.data.toList)) [10]).toArray⟩ : ByteArray).size + (⟨#[10]⟩ : ByteArray).size ≤ 9223372036854775807 := by
  have h1 : (⟨(Lib.join ((linesP d).map (·.data.toList)) [10]).toArray⟩ : ByteArray).size = (Lib.join ((linesP d).map (·.data.toList)) [10]).length := rfl
  have h2 : (⟨#[10]⟩ : ByteArray).size = 1 := rfl
  omega
theorem DrvAt.alike9 {w w' : World} {d : Drv} {v1 v2 : Value} (h : DrvAt w w.heap.size d v1 v2) (hb : Below w.heap.size w w') : DrvAt w' w'.heap.size d v1 v2 :=
  ⟨h.name, namsLay.widen (namsLay.alike h.ins fun b hb9 => hb.block b hb9) hb.size, bytesLay.widen (bytesLay.alike h.rcp fun b hb9 => hb.block b hb9) hb.size⟩
theorem DrvAt.rcp9 {w w' : World} {d : Drv} {v1 v2 : Value} (h : DrvAt w w.heap.size d v1 v2) (hb : Below w.heap.size w w') : bytesLay.At w' w'.heap.size [v2] d.2.2 := (h.alike9 hb).rcp
theorem DrvAt.okn {w : World} {B : Nat} {d : Drv} {v1 v2 : Value} (h : DrvAt w B d v1 v2) : ∀ x ∈ d.2.1, okN x := fun x hx => by
  obtain ⟨cs, h9⟩ := slice_allD h.ins hx
  exact (namLay_at.1 h9).2
theorem own_new1 {w w' : World} {t : TypeId} {cells : Array Value} {xs : List Value} {n : Nat} (h : New1 w w' t cells) (hx : cells.toList = xs) (hn : cells.size = n) : w'.ownsRow w.heap.size t n (.slice (some ⟨w.heap.size, 0, none⟩) 1 1) (0 + 1) xs := by
  subst hx hn
  exact ⟨by simp, .inr ⟨w.heap.size, 1, cells, rfl, Nat.le_refl _, h.blk, Nat.le_refl _, by decide, by omega, List.take_of_length_le (by simp)⟩⟩
theorem sz_str : (Try.prog.info? 9).map (·.size) = some 1 := by kernel_rfl
theorem info_strI : (Try.prog.info? 9).map (fun i => (i.zero, i.size, i.bytes)) = some (some (.string ⟨#[]⟩), 1, 16) := by kernel_rfl
set_option maxHeartbeats 4000000 in
theorem put_any (w : World) (d : Drv) (v1 v2 : Value) (h : DrvAt w w.heap.size d v1 v2) :
    Calls Try.prog 45 #[.agg (dC d v1 v2).toArray] w fun e w' => ∃ v, e = .returned (.tuple #[v, .int .i64 (putE d)]) ∧ (putE d = 0 → ∃ g cap, v = .slice (some ⟨g, 0, none⟩) (textP d).size cap ∧ BytesOf w' g (textP d) ∧ (textP d).size ≤ cap ∧ w.heap.size ≤ g ∧ g < w'.heap.size) ∧ Below w.heap.size w w' := by
  have hok := h.okn
  obtain ⟨istr, hih, hq0, hq1, hq2⟩ := info_parts info_strI
  have HK := hide (And.intro hih (And.intro hq0 (And.intro hq1 hq2)))
  clear hih hq0 hq1 hq2
  have h0 := h
  obtain ⟨A, cap, rfl, hcl, hcm, _, hA⟩ := slice_open h0.ins
  obtain ⟨A2, cap2, rfl, hcl2, hcm2, _, _⟩ := slice_open h0.rcp
  have l9 : (d.2.1.length : Int) ≤ 9223372036854775807 := by simp only [maxLen] at hcm; omega
  have k9 : (d.2.2.length : Int) ≤ 9223372036854775807 := by simp only [maxLen] at hcm2; omega
  obtain ⟨w1, hw1⟩ : ∃ w1, w1 = w.alloc (.cells (dC d (.slice A d.2.1.length cap) (.slice A2 d.2.2.length cap2)).toArray 34) := ⟨_, rfl⟩
  have hb1 : Below w.heap.size w w1 := by rw [hw1]; exact (Below.refl _ w).alloc (Nat.le_refl _) _
  have hk1 : Blk w1 w.heap.size 34 (dC d (.slice A d.2.1.length cap) (.slice A2 d.2.2.length cap2)).toArray := by rw [hw1]; exact Blk.new _ _ _
  have H1 := hide (And.intro hk1 hb1)
  have HD := hide h
  have HOK := hide hok
  have HW1 := hide hw1
  have HA := hide hA
  clear hk1 hb1 hw1 hA h0 h hcl hcm hcl2 hcm2 hok
  go_enter Try.func45, Try.ntmps45
  go_wp2_with (first | ((with_reducible refine at_slot 1 ?_); (refine wpList_value (o := ⟨some 1, _, _, _, _, _⟩) rfl (.pointer (some ⟨w.heap.size, 0, none⟩)) w1 (by rw [HW1.out]; kernel_rfl) ?_)) | ((with_reducible refine at_slot 8 ?_); (refine wpList_value (o := ⟨some 8, _, _, _, _, _⟩) rfl (.agg (dC d (.slice A d.2.1.length cap) (.slice A2 d.2.2.length cap2)).toArray) w1 (exec_load_blk (o := ⟨some 8, _, _, _, _, _⟩) 34 (.tmp 1) rfl w.heap.size rfl 34 _ _ w1 H1.out.1 Try.underlying34 rfl (by kernel_rfl)) ?_)))
  refine (Can_any w1 d _ _ (HD.out.alike9 H1.out.2)).mono ?_
  rintro e w2 ⟨rfl, hb⟩
  dsimp only
  have H2 := hide (And.intro (H1.out.1.below hb H1.out.1.lt) (H1.out.2.trans (Below.mono hb H1.out.2.size)))
  clear hb
  by_cases hc : CanP d = true
  · have hcs := can_small hc
    have HC := hide hc
    have l8 : (d.2.1.length : Int) ≤ 8 := hcs.2.1
    have r9 : (d.2.2.length : Int) ≤ 1000 := hcs.2.2
    have hn24 := name_small hcs.1
    have hcat1 : (⟨#[100, 114, 118, 32]⟩ : ByteArray).size + d.1.size ≤ 9223372036854775807 := by have : (⟨#[100, 114, 118, 32]⟩ : ByteArray).size = 4 := rfl; omega
    have HCAT := hide hcat1
    have hcl := can_line hc
    have HCL := hide hcl
    clear hcs hcat1 hcl
    rw [hc]
    clear hc
    go_wp2_with (first | ((with_reducible refine at_slot 12 ?_); (refine wpList_value (o := ⟨some 12, _, _, _, _, _⟩) rfl (.string d.1) w2 (exec_load_cell (o := ⟨some 12, _, _, _, _, _⟩) 9 (.tmp 11) rfl ⟨w.heap.size, 0, none⟩ rfl _ _ w2 Try.underlying9 rfl (show w2.cell? ⟨w.heap.size, 0, none⟩ = some (.string d.1) from H2.out.1.cell 0)) ?_)) | ((with_reducible refine at_slot 13 ?_); (refine wpList_value (o := ⟨some 13, _, _, _, _, _⟩) rfl (.string (⟨#[100, 114, 118, 32]⟩ ++ d.1)) w2 (exec_concat (o := ⟨some 13, _, _, _, _, _⟩) 9 (.const (.string ⟨#[100, 114, 118, 32]⟩)) (.tmp 12) 9 rfl (⟨#[100, 114, 118, 32]⟩) (d.1) rfl rfl HCAT.out w2) ?_)) | ((with_reducible refine at_slot 14 ?_); (refine wpList_row1 (o := ⟨some 14, _, _, _, _, _⟩) rfl 101 (.tmp 13) rfl 9 1 (.string ⟨#[]⟩) _ rfl Try.underlying101 sz_str (by decide) (by decide) (fun w => by kernel_rfl) rfl ?_); intro w3 hn; have own3 : w3.ownsRow w2.heap.size 9 1 (.slice (some ⟨w2.heap.size, 0, none⟩) 1 1) (0 + 1) ((linesA d 0).map Value.string) := own_new1 hn rfl rfl; have H3 := hide (And.intro (H2.out.1.below hn.below H2.out.1.lt) (And.intro (H2.out.2.trans (Below.mono hn.below H2.out.2.size)) own3)); have HZ3 := hide hn.below.size; clear own3 hn; simp only [Act.put, List.setIfInBounds_toArray, List.set_cons_zero, List.set_cons_succ]) | ((with_reducible refine at_slot 16 ?_); (refine wpList_value (o := ⟨some 16, _, _, _, _, _⟩) rfl (.slice A d.2.1.length cap) w3 (exec_load_cell (o := ⟨some 16, _, _, _, _, _⟩) 31 (.tmp 15) rfl ⟨w.heap.size, 1, none⟩ rfl _ _ w3 Try.underlying31 rfl (show w3.cell? ⟨w.heap.size, 1, none⟩ = some (.slice A d.2.1.length cap) from H3.out.1.cell 1)) ?_)))
    go_loopw [4, 18] (fun x4 x18 wr => ∃ (j : Nat) (u : Value), j ≤ d.2.1.length ∧ u = x4 ∧ x18 = .int .i64 (j : Int) ∧ Blk wr w.heap.size 34 (dC d (.slice A d.2.1.length cap) (.slice A2 d.2.2.length cap2)).toArray ∧ wr.ownsRow w2.heap.size 9 1 u (j + 1) ((linesA d j).map Value.string) ∧ Below w.heap.size w wr ∧ w2.heap.size ≤ wr.heap.size) (fun _ x18 _ => d.2.1.length - (intOf x18).toNat)
    case atStart => exact ⟨0, _, by omega, rfl, rfl, H3.out.1, H3.out.2.2, H3.out.2.1, HZ3.out⟩
    case round =>
      obtain ⟨wo, rfl⟩ : ∃ wo, wo = wr := ⟨_, rfl⟩
      obtain ⟨j, x4, hj, rfl, rfl, hk, hown, hbw, hzw⟩ := hrel
      have HI := hide (And.intro hk (And.intro hown (And.intro hbw hzw)))
      clear hk hown hbw hzw
      have j0 : (0 : Int) ≤ (j : Int) := by omega
      by_cases hj2 : j < d.2.1.length
      · have j1 : (j : Int) < (d.2.1.length : Int) := by omega
        obtain ⟨x, hx⟩ : ∃ x, d.2.1[j]? = some x := ⟨_, List.getElem?_eq_getElem hj2⟩
        obtain ⟨b, off, rfl, hlb, hE⟩ := HA.out (by omega)
        obtain ⟨cs, hr, hatx⟩ := hE j x hx
        obtain ⟨rfl, hxo⟩ := namLay_at.1 hatx
        have HX := hide (And.intro (rangeAt_same hr (HI.out.2.2.1.block b (by omega))) hxo)
        have hszn2 := nszD hxo
        have hszn : (Try.prog.info? 72).map (·.size) = some (nC x).length := by simpa using hszn2
        have hszzn : zcN.size = (nC x).toArray.size := by rw [show (nC x).toArray.size = 43 by rw [List.size_toArray]; exact nC_len hxo]; kernel_rfl
        have honen : (nC x).toArray.all (·.oneCell') = true := all_oneCell_toArray (nC_one x)
        have hll := HCL.out x (List.mem_of_getElem? hx)
        have HXX := hide hx
        clear hx hE hr hatx hxo
        go_wp2_with (first | ((with_reducible refine at_slot 20 ?_); (refine wpList_value (o := ⟨some 20, _, _, _, _, _⟩) rfl (.pointer (some ⟨b, off + (j : Int).toNat * 43, none⟩)) wo (exec_index_off (o := ⟨some 20, _, _, _, _, _⟩) 31 72 (.tmp 16) (.tmp 18) rfl b off d.2.1.length cap (j : Int) .i64 rfl rfl ⟨j0, j1⟩ 43 Try.underlying31 sz_namD wo) ?_; rw [show off + (j : Int).toNat * 43 = off + j * 43 by omega])) | ((with_reducible refine at_slot 21 ?_); (refine wpList_value (o := ⟨some 21, _, _, _, _, _⟩) rfl (.agg (nC x).toArray) wo (exec_load_mid (o := ⟨some 21, _, _, _, _, _⟩) 72 (.tmp 20) rfl b (off + j * 43) rfl (nC x) _ wo HX.out.1 Try.underlying72 rfl hszn) ?_)) | ((with_reducible refine at_slot 6 ?_); ((with_reducible refine wpList_box (o1 := ⟨some 6, _, _, _, _, _⟩) (o2 := ⟨none, _, _, _, _, _⟩) rfl rfl 72 (.tmp 6) (.tmp 21) ?_ zcN (nC x).toArray ?_ hszn2 ?_ honen ?_ ?_ ?_); rfl; kernel_rfl; exact hszzn; rfl; rfl; intro w3 hmm hbb; have H3 := hide (And.intro hmm hbb); clear hmm hbb; simp only [Act.put, List.setIfInBounds_toArray, List.set_cons_zero, List.set_cons_succ])) | ((with_reducible refine at_slot 23 ?_); (refine wpList_value (o := ⟨some 23, _, _, _, _, _⟩) rfl (.agg (nC x).toArray) w3 (exec_load_blk (o := ⟨some 23, _, _, _, _, _⟩) 72 (.tmp 6) rfl wo.heap.size rfl 72 _ _ w3 H3.out.1 Try.underlying72 rfl hszn2) ?_)))
        refine (line_any w3 x HX.out.2 hll.1 hll.2).mono ?_
        rintro e w4 ⟨rfl, hb⟩
        dsimp only
        have h34 := H3.out.2.trans (Below.mono hb H3.out.2.size)
        have H34 := hide h34
        clear hb h34
        go_wp2_with (first | ((with_reducible refine at_slot 25 ?_); (refine wpList_row1 (o := ⟨some 25, _, _, _, _, _⟩) rfl 101 (.tmp 24) rfl 9 1 (.string ⟨#[]⟩) _ rfl Try.underlying101 sz_str (by decide) (by decide) (fun w => by kernel_rfl) rfl ?_); intro w5 hn; have h45 := H34.out.trans (Below.mono hn.below H34.out.size); have H5 := hide (And.intro (HI.out.1.below h45 HI.out.1.lt) (And.intro (owned_keepN HI.out.2.1 fun g _ hl => h45.block g hl) (And.intro (HI.out.2.2.1.trans (Below.mono h45 HI.out.2.2.1.size)) (And.intro (show SrcN w5 1 (some ⟨w4.heap.size, 0, none⟩) 1 1 [.string (lineS x)] from hn.src rfl (fun v hv => (by rw [List.mem_singleton.1 hv]; rfl))) (Nat.le_trans HI.out.2.2.2 h45.size))))); clear h45 hn; simp only [Act.put, List.setIfInBounds_toArray, List.set_cons_zero, List.set_cons_succ]) | (at_builtin; ((with_reducible refine at_slot 26 ?_); refine wpList_appS (o := ⟨some 26, _, _, _, _, _⟩) rfl _ _ 101 rfl w2.heap.size 9 istr _ 1 16 Try.underlying101 HK.out.1 HK.out.2.1 HK.out.2.2.1 HK.out.2.2.2 rfl (by decide) _ (j + 1) ((linesA d j).map Value.string) H5.out.2.1 (some ⟨w4.heap.size, 0, none⟩) 1 1 [.string (lineS x)] H5.out.2.2.2.1 ?hm1 ?hb1 ?hz1 rfl rfl ?_)))
        case hm1 => simp only [maxLen]; omega
        case hb1 => omega
        case hz1 => exact H5.out.2.2.2.2
        intro u6 w6 own6 gr6 _
        have hln : (linesA d j).map Value.string ++ [.string (lineS x)] = (linesA d (j + 1)).map Value.string := lines_step d j x HXX.out
        rw [hln] at own6
        have H6 := hide (And.intro ((gr6.block _ H5.out.1.lt (fun e => owned_neN H5.out.2.1 H5.out.1 (by decide) e.symm)).trans H5.out.1) (And.intro own6 (And.intro (H5.out.2.2.1.grown gr6 H5.out.2.2.1.size (fun k hk => Nat.le_trans H2.out.2.size (owned_ltN H5.out.2.1 hk).1)) (Nat.le_trans H5.out.2.2.2.2 gr6.size))))
        clear own6 gr6 hln
        go_wp2_with fail
        go_roundw
        case rel => exact ⟨j + 1, u6, by omega, rfl, by go_num, H6.out.1, H6.out.2.1, H6.out.2.2.1, H6.out.2.2.2⟩
        case measure => simp [intOf]; omega
      · obtain rfl : j = d.2.1.length := by omega
        have HZ2 := hide (Nat.le_trans HI.out.2.2.1.size (Nat.le_refl _))
        go_wp2_with (first | ((with_reducible refine at_slot 30 ?_); (refine wpList_value (o := ⟨some 30, _, _, _, _, _⟩) rfl (.slice A2 d.2.2.length cap2) wo (exec_load_cell (o := ⟨some 30, _, _, _, _, _⟩) 32 (.tmp 29) rfl ⟨w.heap.size, 2, none⟩ rfl _ _ wo Try.underlying32 rfl (show wo.cell? ⟨w.heap.size, 2, none⟩ = some (.slice A2 d.2.2.length cap2) from HI.out.1.cell 2)) ?_)))
        refine (shown_any wo d.2.2 _ (HD.out.rcp9 HI.out.2.2.1) (by omega)).mono ?_
        rintro e w4 ⟨rfl, hb⟩
        dsimp only
        have hrs := run_small d.2.2 (by omega)
        have HRS := hide hrs
        have H34 := hide hb
        clear hb hrs
        go_wp2_with (first | ((with_reducible refine at_slot 32 ?_); (refine wpList_value (o := ⟨some 32, _, _, _, _, _⟩) rfl (.string (⟨#[114, 117, 110, 32]⟩ ++ ⟨(shownP d.2.2).toArray⟩)) w4 (exec_concat (o := ⟨some 32, _, _, _, _, _⟩) 9 (.const (.string ⟨#[114, 117, 110, 32]⟩)) (.tmp 31) 9 rfl (⟨#[114, 117, 110, 32]⟩) (⟨(shownP d.2.2).toArray⟩) rfl rfl HRS.out w4) ?_)) | ((with_reducible refine at_slot 33 ?_); (refine wpList_row1 (o := ⟨some 33, _, _, _, _, _⟩) rfl 101 (.tmp 32) rfl 9 1 (.string ⟨#[]⟩) _ rfl Try.underlying101 sz_str (by decide) (by decide) (fun w => by kernel_rfl) rfl ?_); intro w5 hn; have h45 := H34.out.trans (Below.mono hn.below H34.out.size); have H5 := hide (And.intro (HI.out.1.below h45 HI.out.1.lt) (And.intro (owned_keepN HI.out.2.1 fun g _ hl => h45.block g hl) (And.intro (HI.out.2.2.1.trans (Below.mono h45 HI.out.2.2.1.size)) (And.intro (show SrcN w5 1 (some ⟨w4.heap.size, 0, none⟩) 1 1 [.string (⟨#[114, 117, 110, 32]⟩ ++ ⟨(shownP d.2.2).toArray⟩)] from hn.src rfl (fun v hv => (by rw [List.mem_singleton.1 hv]; rfl))) (Nat.le_trans HI.out.2.2.2 h45.size))))); clear h45 hn; simp only [Act.put, List.setIfInBounds_toArray, List.set_cons_zero, List.set_cons_succ]) | (at_builtin; ((with_reducible refine at_slot 34 ?_); refine wpList_appS (o := ⟨some 34, _, _, _, _, _⟩) rfl _ _ 101 rfl w2.heap.size 9 istr _ 1 16 Try.underlying101 HK.out.1 HK.out.2.1 HK.out.2.2.1 HK.out.2.2.2 rfl (by decide) _ (d.2.1.length + 1) ((linesA d d.2.1.length).map Value.string) H5.out.2.1 (some ⟨w4.heap.size, 0, none⟩) 1 1 [.string (⟨#[114, 117, 110, 32]⟩ ++ ⟨(shownP d.2.2).toArray⟩)] H5.out.2.2.2.1 ?hm2 ?hb2 ?hz2 rfl rfl ?_)))
        case hm2 => simp only [maxLen]; omega
        case hb2 => omega
        case hz2 => exact H5.out.2.2.2.2
        intro u6 w6 own6 gr6 _
        have hln : (linesA d d.2.1.length).map Value.string ++ [.string (⟨#[114, 117, 110, 32]⟩ ++ ⟨(shownP d.2.2).toArray⟩)] = (linesP d).map Value.string := lines_end d
        rw [hln] at own6
        obtain ⟨g, cap6, rfl⟩ := owned_placeN own6 (by omega)
        have hlp : (linesP d).length = d.2.1.length + 1 + 1 := linesP_len d
        have hb6 : Below w.heap.size w w6 := H5.out.2.2.1.grown gr6 H5.out.2.2.1.size (fun k hk => Nat.le_trans H2.out.2.size (owned_ltN H5.out.2.1 hk).1)
        have hcells : ∀ (j : Nat) x, (linesP d)[j]? = some x → w6.cell? ⟨g, 0 + j, none⟩ = some (.string x) := by
          intro k x hk
          rw [Nat.zero_add]
          exact own_cellN own6 k _ (by rw [List.getElem?_map, hk]; rfl)
        have hgl := (owned_ltN own6 rfl).2
        have hjn := join_small HOK.out HC.out
        have hcp : (linesP d).length ≤ cap6 := by
          have := own_capN own6
          omega
        rw [show d.2.1.length + 1 + 1 = (linesP d).length from hlp.symm]
        have H6 := hide hb6
        have HJN := hide (join_cat hjn)
        have HJ := hide (And.intro hcells (And.intro hgl (And.intro (show (linesP d).length ≤ 140737488355328 by omega) (And.intro hcp (show (Lib.join ((linesP d).map (·.data.toList)) [10]).length ≤ 140737488355328 by omega)))))
        clear own6 gr6 hln hb6 hcells hgl hjn hcp hlp
        go_wp2_with fail
        refine (Try.strings_Join g 0 cap6 (linesP d) ⟨#[10]⟩ w6 HJ.out.1 HJ.out.2.1 HJ.out.2.2.1 HJ.out.2.2.2.1 HJ.out.2.2.2.2).mono ?_
        rintro e w7 ⟨rfl, hb⟩
        dsimp only
        have H7 := hide (H6.out.trans (Below.mono hb H6.out.size))
        clear hb
        by_cases hl : (2000 : Int) < ((textP d).size : Int)
        · have HE : Hid (putE d = 3) := hide (by unfold putE; rw [HC.out, if_pos rfl, if_pos (by omega)])
          go_wp2_with (first | ((with_reducible refine at_slot 36 ?_); (refine wpList_value (o := ⟨some 36, _, _, _, _, _⟩) rfl (.string (textP d)) w7 (exec_concat (o := ⟨some 36, _, _, _, _, _⟩) 9 (.tmp 35) (.const (.string ⟨#[10]⟩)) 9 rfl (⟨(Lib.join ((linesP d).map (·.data.toList)) [10]).toArray⟩) (⟨#[10]⟩) rfl rfl HJN.out w7) ?_)))
          refine bodyPost_ret (v := .tuple #[.slice none 0 0, .int .i64 3]) (by simp [results, Try.results45, go_sem]) rfl ?_
          exact ⟨_, by rw [HE.out], (fun h => absurd (HE.out.symm.trans h) (by decide)), H7.out⟩
        · have HE : Hid (putE d = 0) := hide (by unfold putE; rw [HC.out, if_pos rfl, if_neg (by omega)])
          go_wp2_with (first | ((with_reducible refine at_slot 36 ?_); (refine wpList_value (o := ⟨some 36, _, _, _, _, _⟩) rfl (.string (textP d)) w7 (exec_concat (o := ⟨some 36, _, _, _, _, _⟩) 9 (.tmp 35) (.const (.string ⟨#[10]⟩)) 9 rfl (⟨(Lib.join ((linesP d).map (·.data.toList)) [10]).toArray⟩) (⟨#[10]⟩) rfl rfl HJN.out w7) ?_)) | ((with_reducible refine at_slot 41 ?_); (with_reducible refine wpList_bytesOf (o := ⟨some 41, _, _, _, _, _⟩) rfl 9 32 5 (.tmp 40) rfl Try.underlying9 Try.underlying32 Try.underlying5 (textP d) rfl ?_); intro g8 k8 w8 ht8 hc8 hg8 hl8 hb8; have H8 := hide (And.intro ht8 (And.intro hc8 (And.intro hg8 (And.intro hl8 (H7.out.trans (Below.mono hb8 H7.out.size)))))); clear ht8 hc8 hg8 hl8 hb8; simp only [Act.put, List.setIfInBounds_toArray, List.set_cons_zero, List.set_cons_succ]))
          refine bodyPost_ret (v := .tuple #[.slice (some ⟨g8, 0, none⟩) (textP d).size k8, .int .i64 0]) (by simp [results, Try.results45, go_sem]) rfl ?_
          exact ⟨_, by rw [HE.out], (fun _ => ⟨g8, k8, rfl, H8.out.1, H8.out.2.1, Nat.le_trans H7.out.size H8.out.2.2.1, H8.out.2.2.2.1⟩), H8.out.2.2.2.2⟩
  · have hc' : CanP d = false := by simpa using hc
    have HE : Hid (putE d = 2) := hide (by unfold putE; rw [hc']; rfl)
    rw [hc']
    go_wp2_with fail
    refine bodyPost_ret (v := .tuple #[.slice none 0 0, .int .i64 2]) (by simp [results, Try.results45, go_sem]) rfl ?_
    exact ⟨_, by rw [HE.out], (fun h => absurd (HE.out.symm.trans h) (by decide)), H2.out.2⟩
end Go.Proofs.Ytidiepbmbbflhaa
end
section
namespace Go.Proofs.Ytidiepbmbbflhaa
open Go Go.RowKit Go.Maps
set_option maxRecDepth 100000
def itP (x : Itm) : Dr.It Hsh := ⟨x.1, clsP x.2.2.1, decide (putE x.2 = 0)⟩
/-- the classes that there are, and where -/
def kmap (l : List Itm) : List (Hsh × Nat) := l.zipIdx.map fun p => (p.1.1, p.2)
theorem kmap_keys (l : List Itm) : (kmap l).map (·.1) = Dr.css (l.map itP) := by
  unfold kmap Dr.css
  apply List.ext_getElem?
  intro i
  simp [itP]
  cases l[i]? <;> rfl
theorem kmap_len (l : List Itm) : (kmap l).length = l.length := by simp [kmap]
theorem kmap_step {l : List Itm} {j : Nat} {x : Itm} (h : l[j]? = some x) : kmap (l.take (j + 1)) = kmap (l.take j) ++ [(x.1, j)] := by
  have hj := (List.getElem?_eq_some_iff.1 h).1
  rw [List.take_add_one, h]
  unfold kmap
  rw [List.zipIdx_append, List.map_append, List.length_take, Nat.min_eq_left (by omega)]
  simp
theorem known_iff (l : List Itm) (c : Hsh) : (mget (kmap l) c).isSome = @List.contains Hsh instBEqOfDecidableEq (Dr.css (l.map itP)) c := by
  rw [Bool.eq_iff_iff, ← mem_keys, kmap_keys]
  simp
theorem rightA_app {H : Type} [DecidableEq H] (a b : List (Dr.It H)) : ∀ known : List H, Dr.rightA known (a ++ b) = (Dr.rightA known a && Dr.rightA (known ++ Dr.css a) b) := by
  induction a with
  | nil => intro known; simp [Dr.rightA, Dr.css]
  | cons x a ih =>
    intro known
    rw [List.cons_append, Dr.rightA, Dr.rightA, ih]
    simp [Dr.css, Bool.and_assoc]
theorem all_known (l : List Itm) (ks : List Hsh) : (ks.all fun c => (mget (kmap l) c).isSome) = ks.all fun c => @List.contains Hsh instBEqOfDecidableEq (Dr.css (l.map itP)) c := by
  congr 1
  funext c
  exact known_iff l c
theorem right_at {l : List Itm} {j : Nat} {x : Itm} (h : l[j]? = some x) : Dr.rightP (l.map itP) = (Dr.rightP ((l.take j).map itP) && (decide (putE x.2 = 0) && !(mget (kmap (l.take j)) x.1).isSome && ((clsP x.2.2.1).all fun c => (mget (kmap (l.take j)) c).isSome) && Dr.rightA (Dr.css ((l.take j).map itP) ++ [x.1]) ((l.drop (j + 1)).map itP))) := by
  have e : l = l.take j ++ x :: l.drop (j + 1) := by
    have hj := List.getElem?_eq_some_iff.1 h
    rw [← hj.2, List.getElem_cons_drop, List.take_append_drop]
  unfold Dr.rightP
  conv => lhs; rw [e, List.map_append, rightA_app, List.nil_append, List.map_cons, Dr.rightA]
  rw [all_known, known_iff]
  rfl
theorem right_no {l : List Itm} {j : Nat} {x : Itm} (h : l[j]? = some x) (hw : ¬ putE x.2 = 0 ∨ (mget (kmap (l.take j)) x.1).isSome = true ∨ ((clsP x.2.2.1).all fun c => (mget (kmap (l.take j)) c).isSome) = false) : Dr.rightP (l.map itP) = false := by
  rw [right_at h]
  rcases hw with hw | hw | hw
  · simp [hw]
  · simp [hw]
  · rw [hw]; simp
theorem right_yes {l : List Itm} {j : Nat} {x : Itm} (h : l[j]? = some x) (hr : Dr.rightP ((l.take j).map itP) = true) (h1 : putE x.2 = 0) (h2 : (mget (kmap (l.take j)) x.1).isSome = false) (h3 : ((clsP x.2.2.1).all fun c => (mget (kmap (l.take j)) c).isSome) = true) : Dr.rightP ((l.take (j + 1)).map itP) = true := by
  have hj := (List.getElem?_eq_some_iff.1 h).1
  have h9 : (l.take (j + 1))[j]? = some x := by rw [List.getElem?_take_of_lt (by omega)]; exact h
  rw [right_at h9, List.take_take, Nat.min_eq_left (by omega), hr, h1, h2, h3]
  rw [List.drop_of_length_le (by rw [List.length_take]; omega)]
  rfl
/-- how far a table is laid -/
structure OfSt (wr w : World) (mb : Nat) (A : Option Addr) (cap : Nat) (l : List Itm) (j : Nat) : Prop where
  tbl : Blk wr w.heap.size 79 #[.map (some mb), .slice A l.length cap]
  map_ : MapIs hV okH evN wr mb (kmap (l.take j))
  ne : w.heap.size < mb
  right : Dr.rightP ((l.take j).map itP) = true
  below : Below w.heap.size w wr
theorem OfSt.grow {wr w w' : World} {mb : Nat} {A : Option Addr} {cap : Nat} {l : List Itm} {j : Nat} (h : OfSt wr w mb A cap l j) (hb : Below wr.heap.size wr w') : OfSt w' w mb A cap l j :=
  ⟨h.tbl.below hb h.tbl.lt, h.map_.below hb h.map_.lt, h.ne, h.right, h.below.trans (Below.mono hb h.below.size)⟩
theorem OfSt.put {wr w w' : World} {mb : Nat} {A : Option Addr} {cap : Nat} {l : List Itm} {j : Nat} {x : Itm} (h : OfSt wr w mb A cap l j) (hx : l[j]? = some x) (hkn : (mget (kmap (l.take j)) x.1).isSome = false)
    (hm : MapIs hV okH evN w' mb (mput (kmap (l.take j)) x.1 j)) (ht : Turn1 wr w' mb) (hr : Dr.rightP ((l.take (j + 1)).map itP) = true) : OfSt w' w mb A cap l (j + 1) := by
  refine ⟨(ht.2.1 _ (by have := h.ne; omega)).trans h.tbl, ?_, h.ne, hr, h.below.grown ht.grown h.below.size fun k hk => ?_⟩
  · rw [kmap_step hx, ← mput_new (by cases e : mget (kmap (l.take j)) x.1 with | none => rfl | some v => rw [e] at hkn; cases hkn)]
    exact hm
  · have hk := Option.some.inj hk
    have := h.ne
    omega
theorem of_start {w w1 w3 : World} {A : Option Addr} {cap : Nat} {l : List Itm} (hn : New1 w w1 79 #[.map none, .slice none 0 0]) (hk : Blk w3 w.heap.size 79 #[.map (some w1.heap.size), .slice A l.length cap]) (hg : (w1.alloc (.map #[] 0)).grownBy w3 (some w.heap.size)) : OfSt w3 w w1.heap.size A cap l 0 := by
  have h2 : Below w.heap.size w (w1.alloc (.map #[] 0)) := hn.below.alloc hn.below.size _
  have hm : MapIs hV okH evN (w1.alloc (.map #[] 0)) w1.heap.size (kmap (l.take 0)) := mapIs_new w1
  exact ⟨hk, hm.of_eq (hg.block _ hm.lt (fun e => by have e := Option.some.inj e; have := hn.size; omega)), by have := hn.size; omega, rfl, h2.grown hg h2.size fun k hk => by have := Option.some.inj hk; omega⟩
/-- a row of one hash that was made; a row of hashes of one's own -/
def OneH (h : Hsh) (u : Value) (w : World) : Prop := ∃ r, u = .slice (some ⟨r, 0, none⟩) 1 1 ∧ Blk w r 27 (bv h).toArray
def OwnHs (l : List Hsh) (u : Value) (w : World) : Prop := ∃ B, w.ownsRow B 27 20 u l.length (l.flatMap bv)
theorem oneH_ok (h : Hsh) : Fre.MadeOk Bel (OneH h) := ⟨fun u w w' ⟨r, h1, h2⟩ hx => ⟨r, h1, h2.below hx h2.lt⟩⟩
theorem ownHs_ok (l : List Hsh) : Fre.MadeOk Bel (OwnHs l) := ⟨fun u w w' ⟨B, h⟩ hx => ⟨B, owned_keepN h fun g _ hl => Below.block hx g hl⟩⟩
theorem OneH.at_ {h : Hsh} {u : Value} {w : World} (hu : OneH h u w) (hh : okH h) : hashesLay.At w w.heap.size [u] [h] := by
  obtain ⟨r, rfl, hb⟩ := hu
  exact ⟨_, 1, rfl, Nat.le_refl _, by decide, (fun e => by cases e), fun _ => ⟨r, 0, rfl, hb.lt, fun j x hx => by
    match j, hx with
    | 0, hx =>
      injection hx with hx
      subst hx
      exact ⟨bv h, by have h1 := rangeAt_blk hb; simpa using h1, hashLay_at.2 ⟨rfl, hh⟩⟩
    | j + 1, hx => simp at hx⟩⟩
theorem OwnHs.at_ {l : List Hsh} {u : Value} {w : World} (hu : OwnHs l u w) (hh : ∀ h ∈ l, okH h) : hashesLay.At w w.heap.size [u] l := by
  obtain ⟨B, h⟩ := hu
  exact own_slice (L := hashLay) (f := bv) (by decide) h _ (Nat.le_refl _) fun x hx => hashLay_at.2 ⟨rfl, hh x hx⟩
theorem one_new {ρ : Operand → Value} {o : Oper} (x : Operand) (ho : o.op = .buildSlice 45 1 #[(0, x)]) {h : Hsh} (hh : okH h) (hx : ρ x = .agg (bv h).toArray) (W : World) :
    ∃ u w', (execOp ρ o).run Try.prog W = .ok (.value u) w' ∧ Fre.Ext Bel W w' ∧ OneH h u w' :=
  ⟨_, _, exec_buildSliceP (v := .agg (bv h).toArray) 45 x ho hx Try.underlying45 sz_hash (by omega) (by omega) (z := .agg zcH) (fun w => by kernel_rfl) (by rw [Value.cells, List.size_toArray, bvL]; exact hh) W, (Below.refl _ W).alloc (Nat.le_refl _) _, _, rfl, Blk.new _ _ _⟩
theorem all_one (m : List (Hsh × Nat)) (h : Hsh) : ([h].all fun c => (mget m c).isSome) = (mget m h).isSome := by simp
theorem cls_sub : ∀ (l : List Nam) (out : List Hsh) (c : Hsh), c ∈ l.foldl (fun out x => if x.2.2.2 = true ∧ x.2.2.1 ∉ out then out ++ [x.2.2.1] else out) out → c ∈ out ∨ ∃ x ∈ l, x.2.2.1 = c
  | [], out, c, h => .inl h
  | x :: l, out, c, h => by
    rcases cls_sub l _ c h with h | ⟨y, hy, e⟩
    · dsimp only at h
      split at h
      · rcases List.mem_append.1 h with h | h
        · exact .inl h
        · exact .inr ⟨x, List.mem_cons_self .., (List.mem_singleton.1 h).symm⟩
      · exact .inl h
    · exact .inr ⟨y, List.mem_cons_of_mem _ hy, e⟩
theorem cls_ok {l : List Nam} (h : ∀ x ∈ l, okN x) : ∀ c ∈ clsP l, okH c := fun c hc => by
  rcases cls_sub l [] c hc with h1 | ⟨x, hx, rfl⟩
  · cases h1
  · exact (h x hx).2.2
def OfPost (w : World) (A : Option Addr) (cap : Nat) (l : List Itm) (w' : World) (e : Ending) : Prop :=
  ∃ mb, e = .returned (.tuple #[.agg #[.map (some mb), .slice A l.length cap], .bool (Dr.rightP (l.map itP))]) ∧ (Dr.rightP (l.map itP) = true → w.heap.size < mb ∧ MapIs hV okH evN w' mb (kmap l)) ∧ Below w.heap.size w w'
set_option maxHeartbeats 8000000 in
theorem tabOf_any (w : World) (l : List Itm) (A : Option Addr) (cap : Nat) (h : itmsLay.At w w.heap.size [.slice A l.length cap] l) (hl : ∀ x ∈ l, x.2.2.1.length ≤ 1000000) :
    Calls Try.prog 41 #[.slice A l.length cap] w fun e w' => OfPost w A cap l w' e := by
  obtain ⟨A', cap', e, hcl, hcm, _, hA⟩ := slice_open h
  injection e with e1 e2 e3
  subst e1 e3
  have k9 : (l.length : Int) ≤ 9223372036854775807 := by simp only [maxLen] at hcm; omega
  have HA := hide hA
  clear hA h hcl hcm e2
  have hmm := @run_makeMap Try.prog
  go_enter Try.func41, Try.ntmps41
  go_wp2_with (first | ((with_reducible refine at_slot 2 ?_); (refine wpList_newZ (o := ⟨some 2, _, _, _, _, _⟩) rfl 79 #[.map none, .slice none 0 0] (by kernel_rfl) ?_); intro w1 hn; have HN1 := hide hn; clear hn; simp only [Act.put, List.setIfInBounds_toArray, List.set_cons_zero, List.set_cons_succ]) | ((with_reducible refine at_slot 10 ?_); (refine wpList_value (o := ⟨some 10, _, _, _, _, _⟩) rfl (.agg #[.map (some w1.heap.size), .slice A l.length cap]) (w1.alloc (.map #[] 0)) (by kernel_rfl) ?_)) | ((with_reducible refine at_store 2 10 ?_); (with_reducible refine wpList_store_blkA (o := ⟨none, _, _, _, _, _⟩) rfl 79 (.tmp 2) (.tmp 10) rfl w.heap.size #[.map none, .slice none 0 0] #[.map (some w1.heap.size), .slice A l.length cap] 79 (HN1.out.blk.alloc _) ?_ ?_ ?_ ?_ ?_ ?_); kernel_rfl; rfl; kernel_rfl; rfl; rfl; intro w3 hk3 hg3; have hst0 : OfSt w3 w w1.heap.size A cap l 0 := of_start HN1.out hk3 hg3; have HS := hide hst0; clear hk3 hg3 hst0; simp only [Act.put, List.setIfInBounds_toArray, List.set_cons_zero, List.set_cons_succ]))
  obtain ⟨mb, hmb⟩ : ∃ mb, mb = w1.heap.size := ⟨_, rfl⟩
  rw [← hmb] at HS ⊢
  clear hmb hmm
  go_loopw [13] (fun y wr => ∃ j : Nat, j ≤ l.length ∧ y = .int .i64 (j : Int) ∧ OfSt wr w mb A cap l j) (fun y _ => l.length - (intOf y).toNat)
  case atStart => exact ⟨0, by omega, rfl, HS.out⟩
  case round =>
    obtain ⟨wo, rfl⟩ : ∃ wo, wo = wr := ⟨_, rfl⟩
    obtain ⟨j, hj, rfl, hst⟩ := hrel
    have HI := hide hst
    clear hst
    have j0 : (0 : Int) ≤ (j : Int) := by omega
    by_cases hj2 : j < l.length
    · have j1 : (j : Int) < (l.length : Int) := by omega
      obtain ⟨x, hx⟩ : ∃ x, l[j]? = some x := ⟨_, List.getElem?_eq_getElem hj2⟩
      obtain ⟨b, off, rfl, hlb, hE⟩ := HA.out (by omega)
      obtain ⟨cs, hr, hatx⟩ := hE j x hx
      obtain ⟨q1, q2, rfl, hxo, hxd⟩ := itmLay_at.1 hatx
      obtain ⟨B1, k1, rfl, _⟩ := slice_open hxd.ins
      obtain ⟨B2, k2, rfl, _⟩ := slice_open hxd.rcp
      obtain ⟨q1, hq1⟩ : ∃ q1, q1 = Value.slice B1 x.2.2.1.length k1 := ⟨_, rfl⟩
      obtain ⟨q2, hq2⟩ : ∃ q2, q2 = Value.slice B2 x.2.2.2.length k2 := ⟨_, rfl⟩
      have hone1 : q1.oneCell' = true ∧ q2.oneCell' = true := by rw [hq1, hq2]; exact ⟨rfl, rfl⟩
      rw [← hq1, ← hq2] at hr hatx
      rw [← hq1, ← hq2] at hxd
      have hbnd := hl x (List.mem_of_getElem? hx)
      have HX := hide (And.intro (rangeAt_same hr (HI.out.below.block b (by omega))) (And.intro hxo hxd))
      have HXX := hide hx
      have hszt2 : (Try.prog.info? 43).map (·.size) = some (tC x q1 q2).toArray.size := by rw [show (tC x q1 q2).toArray.size = 23 by rw [List.size_toArray]; exact tC_len hxo]; kernel_rfl
      have hszt : (Try.prog.info? 43).map (·.size) = some (tC x q1 q2).length := by simpa using hszt2
      have hszzt : zcT.size = (tC x q1 q2).toArray.size := by rw [show (tC x q1 q2).toArray.size = 23 by rw [List.size_toArray]; exact tC_len hxo]; kernel_rfl
      have honet : (tC x q1 q2).toArray.all (·.oneCell') = true := all_oneCell_toArray (tC_one x hone1.1 hone1.2)
      have hszx : (Try.prog.info? 27).map (·.size) = some (bv x.1).length := by have := hszD hxo; simpa using this
      clear hx hE hr hatx hxo hxd hq1 hq2
      go_wp2_with (first | ((with_reducible refine at_slot 16 ?_); (refine wpList_value (o := ⟨some 16, _, _, _, _, _⟩) rfl (.pointer (some ⟨b, off + (j : Int).toNat * 23, none⟩)) wo (exec_index_off (o := ⟨some 16, _, _, _, _, _⟩) 25 43 (.tmp 11) (.tmp 13) rfl b off l.length cap (j : Int) .i64 rfl rfl ⟨j0, j1⟩ 23 Try.underlying25 sz_itm wo) ?_; rw [show off + (j : Int).toNat * 23 = off + j * 23 by omega])) | ((with_reducible refine at_slot 17 ?_); (refine wpList_value (o := ⟨some 17, _, _, _, _, _⟩) rfl (.agg (tC x q1 q2).toArray) wo (exec_load_mid (o := ⟨some 17, _, _, _, _, _⟩) 43 (.tmp 16) rfl b (off + j * 23) rfl (tC x q1 q2) _ wo HX.out.1 Try.underlying43 rfl hszt) ?_)) | ((with_reducible refine at_slot 5 ?_); (refine wpList_newZ (o := ⟨some 5, _, _, _, _, _⟩) rfl 43 zcT (by kernel_rfl) ?_); intro w3 hn; have H3 := hide hn; clear hn; simp only [Act.put, List.setIfInBounds_toArray, List.set_cons_zero, List.set_cons_succ]) | ((with_reducible refine at_store 5 17 ?_); (with_reducible refine wpList_store_blkA (o := ⟨none, _, _, _, _, _⟩) rfl 43 (.tmp 5) (.tmp 17) rfl wo.heap.size zcT (tC x q1 q2).toArray 43 H3.out.blk ?_ ?_ ?_ ?_ ?_ ?_); exact hszt2; exact hszzt; exact honet; rfl; rfl; intro w4 hk4 hg4; have h34 : Below wo.heap.size wo w4 := (H3.out.below.grown hg4 (by have := H3.out.size; omega) (fun b hb => (by injection hb with hb; omega))); have H4 := hide (And.intro hk4 h34); clear hk4 hg4 h34; simp only [Act.put, List.setIfInBounds_toArray, List.set_cons_zero, List.set_cons_succ]) | ((with_reducible refine at_slot 20 ?_); (refine wpList_value (o := ⟨some 20, _, _, _, _, _⟩) rfl (.agg (dC x.2 q1 q2).toArray) w4 (exec_load_mid (o := ⟨some 20, _, _, _, _, _⟩) 34 (.tmp 19) rfl wo.heap.size (20) rfl (dC x.2 q1 q2) _ w4 (item_drv HX.out.2.1 H4.out.1) Try.underlying34 rfl (by kernel_rfl)) ?_)))
      have hat4 : DrvAt w4 w4.heap.size x.2 q1 q2 := (HX.out.2.2.alike fun b hb => (H4.out.2.block b (by have := HI.out.below.size; omega)).trans (HI.out.below.block b hb)).widen (by have := HI.out.below.size; have := H4.out.2.size; omega)
      refine (put_any w4 x.2 q1 q2 hat4).mono ?_
      rintro e w5 ⟨pv, rfl, _, hb⟩
      dsimp only
      have h45 := H4.out.2.trans (Below.mono hb H4.out.2.size)
      have H5 := hide (And.intro (H4.out.1.below hb H4.out.1.lt) (And.intro (HI.out.grow h45) (And.intro h45 (hat4.alike9 hb))))
      clear hb h45 hat4
      obtain ⟨pe, hpe⟩ : ∃ pe, pe = putE x.2 := ⟨_, rfl⟩
      rw [← hpe]
      have HPE := hide hpe
      clear hpe
      by_cases he : pe = 0
      · subst he
        cases hkn : (mget (kmap (l.take j)) x.1).isSome
        · have HKN := hide hkn
          clear hkn
          cases hal : (clsP x.2.2.1).all fun c => (mget (kmap (l.take j)) c).isSome
          · have HAL := hide hal
            clear hal
            have HX9 : Hid (∀ W, Fre.Ext Bel w5 W → DrvAt W W.heap.size x.2 q1 q2) := hide fun W hW => H5.out.2.2.2.alike9 hW
            have HNR : Hid (Dr.rightP (l.map itP) = false) := hide (right_no HXX.out (by exact .inr (.inr HAL.out)))
            go_wp2_with fail
            refine Fre.wp_made (X := Bel) 18 [(31, OneH x.1), (39, OwnHs (clsP x.2.2.1))] (by kernel_rfl) (by kernel_rfl) (by intro p hp; simp only [List.mem_cons, List.not_mem_nil, or_false] at hp; rcases hp with rfl | rfl; exact oneH_ok _; exact ownHs_ok _) (by simp) (by simp) ?_
            simp only [List.take_succ_cons, List.take_zero, List.drop_succ_cons, List.drop_zero]
            refine Fre.made_val (.int .i64 0) (by kernel_rfl) (by kernel_rfl) (by kernel_rfl) (fun _ _ => by kernel_rfl) ?_
            simp only [Act.put, List.setIfInBounds_toArray, List.set_cons_zero, List.set_cons_succ]
            refine Fre.made_val (.bool false) (by kernel_rfl) (by kernel_rfl) (by kernel_rfl) (fun _ _ => by kernel_rfl) ?_
            simp only [Act.put, List.setIfInBounds_toArray, List.set_cons_zero, List.set_cons_succ]
            refine Fre.made_val (.bool false) (by kernel_rfl) (by kernel_rfl) (by kernel_rfl) (fun _ _ => by kernel_rfl) ?_
            simp only [Act.put, List.setIfInBounds_toArray, List.set_cons_zero, List.set_cons_succ]
            refine Fre.made_val (.pointer (some ⟨w.heap.size, 0, none⟩)) (by kernel_rfl) (by kernel_rfl) (by kernel_rfl) (fun _ _ => by kernel_rfl) ?_
            simp only [Act.put, List.setIfInBounds_toArray, List.set_cons_zero, List.set_cons_succ]
            refine Fre.made_val (.map (some mb)) (by kernel_rfl) (by kernel_rfl) (by kernel_rfl) (fun W9 hW9 => exec_load_cell (o := ⟨some 28, _, _, _, _, _⟩) 77 (.tmp 27) rfl ⟨w.heap.size, 0, none⟩ rfl _ _ W9 Try.underlying77 rfl ((H5.out.2.1.grow hW9).tbl.cell 0)) ?_
            simp only [Act.put, List.setIfInBounds_toArray, List.set_cons_zero, List.set_cons_succ]
            refine Fre.made_val (.pointer (some ⟨wo.heap.size, 0, none⟩)) (by kernel_rfl) (by kernel_rfl) (by kernel_rfl) (fun _ _ => by kernel_rfl) ?_
            simp only [Act.put, List.setIfInBounds_toArray, List.set_cons_zero, List.set_cons_succ]
            refine Fre.made_val (.agg (bv x.1).toArray) (by kernel_rfl) (by kernel_rfl) (by kernel_rfl) (fun W9 hW9 => exec_load_mid (o := ⟨some 30, _, _, _, _, _⟩) 27 (.tmp 29) rfl wo.heap.size (0) rfl (bv x.1) _ W9 (item_cls HX.out.2.1 (H5.out.1.below hW9 H5.out.1.lt)) Try.underlying27 rfl hszx) ?_
            simp only [Act.put, List.setIfInBounds_toArray, List.set_cons_zero, List.set_cons_succ]
            refine Fre.made_new 31 _ (by kernel_rfl) (by kernel_rfl) rfl rfl (fun W hW => one_new (o := ⟨some 31, _, _, _, _, _⟩) (.tmp 30) rfl HX.out.2.1 rfl W) ?_
            simp only [Act.put, List.setIfInBounds_toArray, List.set_cons_zero, List.set_cons_succ]
            refine Fre.made_call1 31 _ (.bool false) 43 (fun u => #[.map (some mb), u]) (by kernel_rfl) rfl (by kernel_rfl) (by kernel_rfl) (fun u W => by kernel_rfl) (fun u W hW hu => ?hc32) ?_
            case hc32 =>
              have h := all_any W mb _ (H5.out.2.1.grow hW).map_ [x.1] u (hu.at_ HX.out.2.1)
              rw [all_one] at h
              rw [HKN.out] at h
              exact h
            simp only [Act.put, List.setIfInBounds_toArray, List.set_cons_zero, List.set_cons_succ]
            refine Fre.made_val (.bool false) (by kernel_rfl) (by kernel_rfl) (by kernel_rfl) (fun _ _ => by kernel_rfl) ?_
            simp only [Act.put, List.setIfInBounds_toArray, List.set_cons_zero, List.set_cons_succ]
            refine Fre.made_val (.bool false) (by kernel_rfl) (by kernel_rfl) (by kernel_rfl) (fun _ _ => by kernel_rfl) ?_
            simp only [Act.put, List.setIfInBounds_toArray, List.set_cons_zero, List.set_cons_succ]
            refine Fre.made_val (.pointer (some ⟨w.heap.size, 0, none⟩)) (by kernel_rfl) (by kernel_rfl) (by kernel_rfl) (fun _ _ => by kernel_rfl) ?_
            simp only [Act.put, List.setIfInBounds_toArray, List.set_cons_zero, List.set_cons_succ]
            refine Fre.made_val (.map (some mb)) (by kernel_rfl) (by kernel_rfl) (by kernel_rfl) (fun W9 hW9 => exec_load_cell (o := ⟨some 36, _, _, _, _, _⟩) 77 (.tmp 35) rfl ⟨w.heap.size, 0, none⟩ rfl _ _ W9 Try.underlying77 rfl ((H5.out.2.1.grow hW9).tbl.cell 0)) ?_
            simp only [Act.put, List.setIfInBounds_toArray, List.set_cons_zero, List.set_cons_succ]
            refine Fre.made_val (.pointer (some ⟨wo.heap.size, 20, none⟩)) (by kernel_rfl) (by kernel_rfl) (by kernel_rfl) (fun _ _ => by kernel_rfl) ?_
            simp only [Act.put, List.setIfInBounds_toArray, List.set_cons_zero, List.set_cons_succ]
            refine Fre.made_val (.agg (dC x.2 q1 q2).toArray) (by kernel_rfl) (by kernel_rfl) (by kernel_rfl) (fun W9 hW9 => exec_load_mid (o := ⟨some 38, _, _, _, _, _⟩) 34 (.tmp 37) rfl wo.heap.size (20) rfl (dC x.2 q1 q2) _ W9 (item_drv HX.out.2.1 (H5.out.1.below hW9 H5.out.1.lt)) Try.underlying34 rfl (by kernel_rfl)) ?_
            simp only [Act.put, List.setIfInBounds_toArray, List.set_cons_zero, List.set_cons_succ]
            refine Fre.made_newcall 39 _ 34 #[.agg (dC x.2 q1 q2).toArray] (by kernel_rfl) (by kernel_rfl) rfl rfl (fun W => by kernel_rfl) (fun W hW => (classes_any W x.2 q1 q2 (HX9.out W hW) hbnd).mono (fun e w' ⟨u, h1, h2, h3⟩ => ⟨u, h1, h3, _, h2⟩)) ?_
            simp only [Act.put, List.setIfInBounds_toArray, List.set_cons_zero, List.set_cons_succ]
            refine Fre.made_call1 39 _ (.bool false) 43 (fun u => #[.map (some mb), u]) (by kernel_rfl) rfl (by kernel_rfl) (by kernel_rfl) (fun u W => by kernel_rfl) (fun u W hW hu => ?hc40) ?_
            case hc40 =>
              have h := all_any W mb _ (H5.out.2.1.grow hW).map_ (clsP x.2.2.1) u (hu.at_ (cls_ok HX.out.2.2.okn))
              rw [HAL.out] at h
              exact h
            simp only [Act.put, List.setIfInBounds_toArray, List.set_cons_zero, List.set_cons_succ]
            refine Fre.made_val (.bool true) (by kernel_rfl) (by kernel_rfl) (by kernel_rfl) (fun _ _ => by kernel_rfl) ?_
            simp only [Act.put, List.setIfInBounds_toArray, List.set_cons_zero, List.set_cons_succ]
            intro w6 hx6
            have H6 := hide (And.intro (H5.out.1.below hx6 H5.out.1.lt) (And.intro (H5.out.2.1.grow hx6) (H5.out.2.2.1.trans (Below.mono hx6 H5.out.2.2.1.size))))
            clear hx6
            dsimp only [Fre.ended, List.drop]
            rintro u31 _ u39 _
            go_wp2_with (first | ((with_reducible refine at_slot 43 ?_); (refine wpList_value (o := ⟨some 43, _, _, _, _, _⟩) rfl (.agg #[.map (some mb), .slice (some ⟨b, off, none⟩) l.length cap]) w6 (exec_load_blk (o := ⟨some 43, _, _, _, _, _⟩) 79 (.tmp 2) rfl w.heap.size rfl 79 _ _ w6 H6.out.2.1.tbl Try.underlying79 rfl (by kernel_rfl)) ?_)) | ((with_reducible refine at_store 2 43 ?_); (with_reducible refine wpList_store_blkA (o := ⟨none, _, _, _, _, _⟩) rfl 79 (.tmp 2) (.tmp 43) rfl w.heap.size #[.map (some mb), .slice (some ⟨b, off, none⟩) l.length cap] #[.map (some mb), .slice (some ⟨b, off, none⟩) l.length cap] 79 H6.out.2.1.tbl ?_ ?_ ?_ ?_ ?_ ?_); kernel_rfl; rfl; kernel_rfl; rfl; rfl; intro w7 hk7 hg7; have hb7 : Below w.heap.size w w7 := (H6.out.2.1.below.grown hg7 H6.out.2.1.below.size (fun b hb => (by injection hb with hb; omega))); have H7 := hide (And.intro hk7 hb7); clear hk7 hg7 hb7; simp only [Act.put, List.setIfInBounds_toArray, List.set_cons_zero, List.set_cons_succ]))
            refine bodyPost_ret (results_cell_tmp rfl _ _ w.heap.size 79 #[.map (some mb), .slice (some ⟨b, off, none⟩) l.length cap] (0, 0) _ rfl H7.out.1 Try.underlying79 rfl (by kernel_rfl)) rfl ?_
            exact ⟨mb, by rw [HNR.out]; rfl, (fun h => absurd (HNR.out.symm.trans h) (by decide)), H7.out.2⟩
          · have HAL := hide hal
            clear hal
            have HX9 : Hid (∀ W, Fre.Ext Bel w5 W → DrvAt W W.heap.size x.2 q1 q2) := hide fun W hW => H5.out.2.2.2.alike9 hW
            have HR9 := hide (right_yes HXX.out HI.out.right HPE.out.symm HKN.out HAL.out)
            go_wp2_with fail
            refine Fre.wp_made (X := Bel) 18 [(31, OneH x.1), (39, OwnHs (clsP x.2.2.1))] (by kernel_rfl) (by kernel_rfl) (by intro p hp; simp only [List.mem_cons, List.not_mem_nil, or_false] at hp; rcases hp with rfl | rfl; exact oneH_ok _; exact ownHs_ok _) (by simp) (by simp) ?_
            simp only [List.take_succ_cons, List.take_zero, List.drop_succ_cons, List.drop_zero]
            refine Fre.made_val (.int .i64 0) (by kernel_rfl) (by kernel_rfl) (by kernel_rfl) (fun _ _ => by kernel_rfl) ?_
            simp only [Act.put, List.setIfInBounds_toArray, List.set_cons_zero, List.set_cons_succ]
            refine Fre.made_val (.bool false) (by kernel_rfl) (by kernel_rfl) (by kernel_rfl) (fun _ _ => by kernel_rfl) ?_
            simp only [Act.put, List.setIfInBounds_toArray, List.set_cons_zero, List.set_cons_succ]
            refine Fre.made_val (.bool false) (by kernel_rfl) (by kernel_rfl) (by kernel_rfl) (fun _ _ => by kernel_rfl) ?_
            simp only [Act.put, List.setIfInBounds_toArray, List.set_cons_zero, List.set_cons_succ]
            refine Fre.made_val (.pointer (some ⟨w.heap.size, 0, none⟩)) (by kernel_rfl) (by kernel_rfl) (by kernel_rfl) (fun _ _ => by kernel_rfl) ?_
            simp only [Act.put, List.setIfInBounds_toArray, List.set_cons_zero, List.set_cons_succ]
            refine Fre.made_val (.map (some mb)) (by kernel_rfl) (by kernel_rfl) (by kernel_rfl) (fun W9 hW9 => exec_load_cell (o := ⟨some 28, _, _, _, _, _⟩) 77 (.tmp 27) rfl ⟨w.heap.size, 0, none⟩ rfl _ _ W9 Try.underlying77 rfl ((H5.out.2.1.grow hW9).tbl.cell 0)) ?_
            simp only [Act.put, List.setIfInBounds_toArray, List.set_cons_zero, List.set_cons_succ]
            refine Fre.made_val (.pointer (some ⟨wo.heap.size, 0, none⟩)) (by kernel_rfl) (by kernel_rfl) (by kernel_rfl) (fun _ _ => by kernel_rfl) ?_
            simp only [Act.put, List.setIfInBounds_toArray, List.set_cons_zero, List.set_cons_succ]
            refine Fre.made_val (.agg (bv x.1).toArray) (by kernel_rfl) (by kernel_rfl) (by kernel_rfl) (fun W9 hW9 => exec_load_mid (o := ⟨some 30, _, _, _, _, _⟩) 27 (.tmp 29) rfl wo.heap.size (0) rfl (bv x.1) _ W9 (item_cls HX.out.2.1 (H5.out.1.below hW9 H5.out.1.lt)) Try.underlying27 rfl hszx) ?_
            simp only [Act.put, List.setIfInBounds_toArray, List.set_cons_zero, List.set_cons_succ]
            refine Fre.made_new 31 _ (by kernel_rfl) (by kernel_rfl) rfl rfl (fun W hW => one_new (o := ⟨some 31, _, _, _, _, _⟩) (.tmp 30) rfl HX.out.2.1 rfl W) ?_
            simp only [Act.put, List.setIfInBounds_toArray, List.set_cons_zero, List.set_cons_succ]
            refine Fre.made_call1 31 _ (.bool false) 43 (fun u => #[.map (some mb), u]) (by kernel_rfl) rfl (by kernel_rfl) (by kernel_rfl) (fun u W => by kernel_rfl) (fun u W hW hu => ?hc32) ?_
            case hc32 =>
              have h := all_any W mb _ (H5.out.2.1.grow hW).map_ [x.1] u (hu.at_ HX.out.2.1)
              rw [all_one] at h
              rw [HKN.out] at h
              exact h
            simp only [Act.put, List.setIfInBounds_toArray, List.set_cons_zero, List.set_cons_succ]
            refine Fre.made_val (.bool false) (by kernel_rfl) (by kernel_rfl) (by kernel_rfl) (fun _ _ => by kernel_rfl) ?_
            simp only [Act.put, List.setIfInBounds_toArray, List.set_cons_zero, List.set_cons_succ]
            refine Fre.made_val (.bool false) (by kernel_rfl) (by kernel_rfl) (by kernel_rfl) (fun _ _ => by kernel_rfl) ?_
            simp only [Act.put, List.setIfInBounds_toArray, List.set_cons_zero, List.set_cons_succ]
            refine Fre.made_val (.pointer (some ⟨w.heap.size, 0, none⟩)) (by kernel_rfl) (by kernel_rfl) (by kernel_rfl) (fun _ _ => by kernel_rfl) ?_
            simp only [Act.put, List.setIfInBounds_toArray, List.set_cons_zero, List.set_cons_succ]
            refine Fre.made_val (.map (some mb)) (by kernel_rfl) (by kernel_rfl) (by kernel_rfl) (fun W9 hW9 => exec_load_cell (o := ⟨some 36, _, _, _, _, _⟩) 77 (.tmp 35) rfl ⟨w.heap.size, 0, none⟩ rfl _ _ W9 Try.underlying77 rfl ((H5.out.2.1.grow hW9).tbl.cell 0)) ?_
            simp only [Act.put, List.setIfInBounds_toArray, List.set_cons_zero, List.set_cons_succ]
            refine Fre.made_val (.pointer (some ⟨wo.heap.size, 20, none⟩)) (by kernel_rfl) (by kernel_rfl) (by kernel_rfl) (fun _ _ => by kernel_rfl) ?_
            simp only [Act.put, List.setIfInBounds_toArray, List.set_cons_zero, List.set_cons_succ]
            refine Fre.made_val (.agg (dC x.2 q1 q2).toArray) (by kernel_rfl) (by kernel_rfl) (by kernel_rfl) (fun W9 hW9 => exec_load_mid (o := ⟨some 38, _, _, _, _, _⟩) 34 (.tmp 37) rfl wo.heap.size (20) rfl (dC x.2 q1 q2) _ W9 (item_drv HX.out.2.1 (H5.out.1.below hW9 H5.out.1.lt)) Try.underlying34 rfl (by kernel_rfl)) ?_
            simp only [Act.put, List.setIfInBounds_toArray, List.set_cons_zero, List.set_cons_succ]
            refine Fre.made_newcall 39 _ 34 #[.agg (dC x.2 q1 q2).toArray] (by kernel_rfl) (by kernel_rfl) rfl rfl (fun W => by kernel_rfl) (fun W hW => (classes_any W x.2 q1 q2 (HX9.out W hW) hbnd).mono (fun e w' ⟨u, h1, h2, h3⟩ => ⟨u, h1, h3, _, h2⟩)) ?_
            simp only [Act.put, List.setIfInBounds_toArray, List.set_cons_zero, List.set_cons_succ]
            refine Fre.made_call1 39 _ (.bool true) 43 (fun u => #[.map (some mb), u]) (by kernel_rfl) rfl (by kernel_rfl) (by kernel_rfl) (fun u W => by kernel_rfl) (fun u W hW hu => ?hc40) ?_
            case hc40 =>
              have h := all_any W mb _ (H5.out.2.1.grow hW).map_ (clsP x.2.2.1) u (hu.at_ (cls_ok HX.out.2.2.okn))
              rw [HAL.out] at h
              exact h
            simp only [Act.put, List.setIfInBounds_toArray, List.set_cons_zero, List.set_cons_succ]
            refine Fre.made_val (.bool false) (by kernel_rfl) (by kernel_rfl) (by kernel_rfl) (fun _ _ => by kernel_rfl) ?_
            simp only [Act.put, List.setIfInBounds_toArray, List.set_cons_zero, List.set_cons_succ]
            intro w6 hx6
            have H6 := hide (And.intro (H5.out.1.below hx6 H5.out.1.lt) (And.intro (H5.out.2.1.grow hx6) (H5.out.2.2.1.trans (Below.mono hx6 H5.out.2.2.1.size))))
            clear hx6
            dsimp only [Fre.ended, List.drop]
            rintro u31 _ u39 _
            obtain ⟨w7, r1, r2, r3⟩ := MapIs.update H6.out.2.1.map_ hash_enc HX.out.2.1 Try.underlying77 j
            have HU := hide (And.intro r1 (And.intro r2 r3))
            clear r1 r2 r3
            go_wp2_with (first | ((with_reducible refine at_slot 45 ?_); (refine wpList_value (o := ⟨some 45, _, _, _, _, _⟩) rfl (.map (some mb)) w6 (exec_load_cell (o := ⟨some 45, _, _, _, _, _⟩) 77 (.tmp 44) rfl ⟨w.heap.size, 0, none⟩ rfl _ _ w6 Try.underlying77 rfl (show w6.cell? ⟨w.heap.size, 0, none⟩ = some (.map (some mb)) from H6.out.2.1.tbl.cell 0)) ?_)) | ((with_reducible refine at_slot 47 ?_); (refine wpList_value (o := ⟨some 47, _, _, _, _, _⟩) rfl (.agg (bv x.1).toArray) w6 (exec_load_mid (o := ⟨some 47, _, _, _, _, _⟩) 27 (.tmp 46) rfl wo.heap.size (0) rfl (bv x.1) _ w6 (item_cls HX.out.2.1 H6.out.1) Try.underlying27 rfl hszx) ?_)) | (refine wpList_mapUpdate (o := ⟨none, _, _, _, _, _⟩) rfl 77 (.tmp 45) (.tmp 47) (.tmp 48) rfl _ _ _ rfl rfl rfl HU.out.1 ?_))
            go_roundw
            case rel => exact ⟨j + 1, by omega, by go_num, (H6.out.2.1.put HXX.out HKN.out HU.out.2.1 HU.out.2.2 HR9.out)⟩
            case measure => simp [intOf]; omega
        · have HKN := hide hkn
          clear hkn
          have HNR : Hid (Dr.rightP (l.map itP) = false) := hide (right_no HXX.out (by exact .inr (.inl HKN.out)))
          go_wp2_with fail
          refine Fre.wp_made (X := Bel) 18 [(31, OneH x.1)] (by kernel_rfl) (by kernel_rfl) (by intro p hp; rw [List.mem_singleton.1 hp]; exact oneH_ok _) (by simp) (by simp) ?_
          simp only [List.take_succ_cons, List.take_zero, List.drop_succ_cons, List.drop_zero]
          refine Fre.made_val (.int .i64 0) (by kernel_rfl) (by kernel_rfl) (by kernel_rfl) (fun _ _ => by kernel_rfl) ?_
          simp only [Act.put, List.setIfInBounds_toArray, List.set_cons_zero, List.set_cons_succ]
          refine Fre.made_val (.bool false) (by kernel_rfl) (by kernel_rfl) (by kernel_rfl) (fun _ _ => by kernel_rfl) ?_
          simp only [Act.put, List.setIfInBounds_toArray, List.set_cons_zero, List.set_cons_succ]
          refine Fre.made_val (.bool false) (by kernel_rfl) (by kernel_rfl) (by kernel_rfl) (fun _ _ => by kernel_rfl) ?_
          simp only [Act.put, List.setIfInBounds_toArray, List.set_cons_zero, List.set_cons_succ]
          refine Fre.made_val (.pointer (some ⟨w.heap.size, 0, none⟩)) (by kernel_rfl) (by kernel_rfl) (by kernel_rfl) (fun _ _ => by kernel_rfl) ?_
          simp only [Act.put, List.setIfInBounds_toArray, List.set_cons_zero, List.set_cons_succ]
          refine Fre.made_val (.map (some mb)) (by kernel_rfl) (by kernel_rfl) (by kernel_rfl) (fun W9 hW9 => exec_load_cell (o := ⟨some 28, _, _, _, _, _⟩) 77 (.tmp 27) rfl ⟨w.heap.size, 0, none⟩ rfl _ _ W9 Try.underlying77 rfl ((H5.out.2.1.grow hW9).tbl.cell 0)) ?_
          simp only [Act.put, List.setIfInBounds_toArray, List.set_cons_zero, List.set_cons_succ]
          refine Fre.made_val (.pointer (some ⟨wo.heap.size, 0, none⟩)) (by kernel_rfl) (by kernel_rfl) (by kernel_rfl) (fun _ _ => by kernel_rfl) ?_
          simp only [Act.put, List.setIfInBounds_toArray, List.set_cons_zero, List.set_cons_succ]
          refine Fre.made_val (.agg (bv x.1).toArray) (by kernel_rfl) (by kernel_rfl) (by kernel_rfl) (fun W9 hW9 => exec_load_mid (o := ⟨some 30, _, _, _, _, _⟩) 27 (.tmp 29) rfl wo.heap.size (0) rfl (bv x.1) _ W9 (item_cls HX.out.2.1 (H5.out.1.below hW9 H5.out.1.lt)) Try.underlying27 rfl hszx) ?_
          simp only [Act.put, List.setIfInBounds_toArray, List.set_cons_zero, List.set_cons_succ]
          refine Fre.made_new 31 _ (by kernel_rfl) (by kernel_rfl) rfl rfl (fun W hW => one_new (o := ⟨some 31, _, _, _, _, _⟩) (.tmp 30) rfl HX.out.2.1 rfl W) ?_
          simp only [Act.put, List.setIfInBounds_toArray, List.set_cons_zero, List.set_cons_succ]
          refine Fre.made_call1 31 _ (.bool true) 43 (fun u => #[.map (some mb), u]) (by kernel_rfl) rfl (by kernel_rfl) (by kernel_rfl) (fun u W => by kernel_rfl) (fun u W hW hu => ?hc32) ?_
          case hc32 =>
            have h := all_any W mb _ (H5.out.2.1.grow hW).map_ [x.1] u (hu.at_ HX.out.2.1)
            rw [all_one] at h
            rw [HKN.out] at h
            exact h
          simp only [Act.put, List.setIfInBounds_toArray, List.set_cons_zero, List.set_cons_succ]
          refine Fre.made_val (.bool true) (by kernel_rfl) (by kernel_rfl) (by kernel_rfl) (fun _ _ => by kernel_rfl) ?_
          simp only [Act.put, List.setIfInBounds_toArray, List.set_cons_zero, List.set_cons_succ]
          refine Fre.made_val (.bool true) (by kernel_rfl) (by kernel_rfl) (by kernel_rfl) (fun _ _ => by kernel_rfl) ?_
          simp only [Act.put, List.setIfInBounds_toArray, List.set_cons_zero, List.set_cons_succ]
          refine Fre.made_skip (by kernel_rfl) (by kernel_rfl) (by kernel_rfl) ?_
          refine Fre.made_skip (by kernel_rfl) (by kernel_rfl) (by kernel_rfl) ?_
          refine Fre.made_skip (by kernel_rfl) (by kernel_rfl) (by kernel_rfl) ?_
          refine Fre.made_skip (by kernel_rfl) (by kernel_rfl) (by kernel_rfl) ?_
          refine Fre.made_skip (by kernel_rfl) (by kernel_rfl) (by kernel_rfl) ?_
          refine Fre.made_skip (by kernel_rfl) (by kernel_rfl) (by kernel_rfl) ?_
          refine Fre.made_skip (by kernel_rfl) (by kernel_rfl) (by kernel_rfl) ?_
          intro w6 hx6
          have H6 := hide (And.intro (H5.out.1.below hx6 H5.out.1.lt) (And.intro (H5.out.2.1.grow hx6) (H5.out.2.2.1.trans (Below.mono hx6 H5.out.2.2.1.size))))
          clear hx6
          dsimp only [Fre.ended, List.drop]
          rintro u31 _
          go_wp2_with (first | ((with_reducible refine at_slot 43 ?_); (refine wpList_value (o := ⟨some 43, _, _, _, _, _⟩) rfl (.agg #[.map (some mb), .slice (some ⟨b, off, none⟩) l.length cap]) w6 (exec_load_blk (o := ⟨some 43, _, _, _, _, _⟩) 79 (.tmp 2) rfl w.heap.size rfl 79 _ _ w6 H6.out.2.1.tbl Try.underlying79 rfl (by kernel_rfl)) ?_)) | ((with_reducible refine at_store 2 43 ?_); (with_reducible refine wpList_store_blkA (o := ⟨none, _, _, _, _, _⟩) rfl 79 (.tmp 2) (.tmp 43) rfl w.heap.size #[.map (some mb), .slice (some ⟨b, off, none⟩) l.length cap] #[.map (some mb), .slice (some ⟨b, off, none⟩) l.length cap] 79 H6.out.2.1.tbl ?_ ?_ ?_ ?_ ?_ ?_); kernel_rfl; rfl; kernel_rfl; rfl; rfl; intro w7 hk7 hg7; have hb7 : Below w.heap.size w w7 := (H6.out.2.1.below.grown hg7 H6.out.2.1.below.size (fun b hb => (by injection hb with hb; omega))); have H7 := hide (And.intro hk7 hb7); clear hk7 hg7 hb7; simp only [Act.put, List.setIfInBounds_toArray, List.set_cons_zero, List.set_cons_succ]))
          refine bodyPost_ret (results_cell_tmp rfl _ _ w.heap.size 79 #[.map (some mb), .slice (some ⟨b, off, none⟩) l.length cap] (0, 0) _ rfl H7.out.1 Try.underlying79 rfl (by kernel_rfl)) rfl ?_
          exact ⟨mb, by rw [HNR.out]; rfl, (fun h => absurd (HNR.out.symm.trans h) (by decide)), H7.out.2⟩
      · have hne : (pe != 0) = true := by simpa using he
        have HHE := hide he
        clear he
        have HNR : Hid (Dr.rightP (l.map itP) = false) := hide (right_no HXX.out (by rw [← HPE.out]; exact .inl HHE.out))
        go_wp2_with fail
        refine Fre.wp_made (X := Bel) 18 [] (by kernel_rfl) (by kernel_rfl) (by simp) (by simp) (by simp) ?_
        simp only [List.take_succ_cons, List.take_zero, List.drop_succ_cons, List.drop_zero]
        refine Fre.made_val (.int .i64 pe) (by kernel_rfl) (by kernel_rfl) (by kernel_rfl) (fun _ _ => by kernel_rfl) ?_
        simp only [Act.put, List.setIfInBounds_toArray, List.set_cons_zero, List.set_cons_succ]
        refine Fre.made_val (.bool true) (by kernel_rfl) (by kernel_rfl) (by kernel_rfl) (fun W9 hW9 => ?hs1) ?_
        case hs1 =>
          go_simp
          done
        simp only [Act.put, List.setIfInBounds_toArray, List.set_cons_zero, List.set_cons_succ]
        refine Fre.made_val (.bool true) (by kernel_rfl) (by kernel_rfl) (by kernel_rfl) (fun _ _ => by kernel_rfl) ?_
        simp only [Act.put, List.setIfInBounds_toArray, List.set_cons_zero, List.set_cons_succ]
        refine Fre.made_skip (by kernel_rfl) (by kernel_rfl) (by kernel_rfl) ?_
        refine Fre.made_skip (by kernel_rfl) (by kernel_rfl) (by kernel_rfl) ?_
        refine Fre.made_skip (by kernel_rfl) (by kernel_rfl) (by kernel_rfl) ?_
        refine Fre.made_skip (by kernel_rfl) (by kernel_rfl) (by kernel_rfl) ?_
        refine Fre.made_skip (by kernel_rfl) (by kernel_rfl) (by kernel_rfl) ?_
        refine Fre.made_skip (by kernel_rfl) (by kernel_rfl) (by kernel_rfl) ?_
        refine Fre.made_val (.bool true) (by kernel_rfl) (by kernel_rfl) (by kernel_rfl) (fun _ _ => by kernel_rfl) ?_
        simp only [Act.put, List.setIfInBounds_toArray, List.set_cons_zero, List.set_cons_succ]
        refine Fre.made_val (.bool true) (by kernel_rfl) (by kernel_rfl) (by kernel_rfl) (fun _ _ => by kernel_rfl) ?_
        simp only [Act.put, List.setIfInBounds_toArray, List.set_cons_zero, List.set_cons_succ]
        refine Fre.made_skip (by kernel_rfl) (by kernel_rfl) (by kernel_rfl) ?_
        refine Fre.made_skip (by kernel_rfl) (by kernel_rfl) (by kernel_rfl) ?_
        refine Fre.made_skip (by kernel_rfl) (by kernel_rfl) (by kernel_rfl) ?_
        refine Fre.made_skip (by kernel_rfl) (by kernel_rfl) (by kernel_rfl) ?_
        refine Fre.made_skip (by kernel_rfl) (by kernel_rfl) (by kernel_rfl) ?_
        refine Fre.made_skip (by kernel_rfl) (by kernel_rfl) (by kernel_rfl) ?_
        refine Fre.made_skip (by kernel_rfl) (by kernel_rfl) (by kernel_rfl) ?_
        intro w6 hx6
        have H6 := hide (And.intro (H5.out.1.below hx6 H5.out.1.lt) (And.intro (H5.out.2.1.grow hx6) (H5.out.2.2.1.trans (Below.mono hx6 H5.out.2.2.1.size))))
        clear hx6
        dsimp only [Fre.ended, List.drop]
        go_wp2_with (first | ((with_reducible refine at_slot 43 ?_); (refine wpList_value (o := ⟨some 43, _, _, _, _, _⟩) rfl (.agg #[.map (some mb), .slice (some ⟨b, off, none⟩) l.length cap]) w6 (exec_load_blk (o := ⟨some 43, _, _, _, _, _⟩) 79 (.tmp 2) rfl w.heap.size rfl 79 _ _ w6 H6.out.2.1.tbl Try.underlying79 rfl (by kernel_rfl)) ?_)) | ((with_reducible refine at_store 2 43 ?_); (with_reducible refine wpList_store_blkA (o := ⟨none, _, _, _, _, _⟩) rfl 79 (.tmp 2) (.tmp 43) rfl w.heap.size #[.map (some mb), .slice (some ⟨b, off, none⟩) l.length cap] #[.map (some mb), .slice (some ⟨b, off, none⟩) l.length cap] 79 H6.out.2.1.tbl ?_ ?_ ?_ ?_ ?_ ?_); kernel_rfl; rfl; kernel_rfl; rfl; rfl; intro w7 hk7 hg7; have hb7 : Below w.heap.size w w7 := (H6.out.2.1.below.grown hg7 H6.out.2.1.below.size (fun b hb => (by injection hb with hb; omega))); have H7 := hide (And.intro hk7 hb7); clear hk7 hg7 hb7; simp only [Act.put, List.setIfInBounds_toArray, List.set_cons_zero, List.set_cons_succ]))
        refine bodyPost_ret (results_cell_tmp rfl _ _ w.heap.size 79 #[.map (some mb), .slice (some ⟨b, off, none⟩) l.length cap] (0, 0) _ rfl H7.out.1 Try.underlying79 rfl (by kernel_rfl)) rfl ?_
        exact ⟨mb, by rw [HNR.out]; rfl, (fun h => absurd (HNR.out.symm.trans h) (by decide)), H7.out.2⟩
    · obtain rfl : j = l.length := by omega
      have HRR := HI.out.right
      rw [List.take_length] at HRR
      have HM := HI.out.map_
      rw [List.take_length] at HM
      have HQ := hide (And.intro HRR HM)
      clear HRR HM
      go_wp2_with (first | ((with_reducible refine at_slot 50 ?_); (refine wpList_value (o := ⟨some 50, _, _, _, _, _⟩) rfl (.agg #[.map (some mb), .slice A l.length cap]) wo (exec_load_blk (o := ⟨some 50, _, _, _, _, _⟩) 79 (.tmp 2) rfl w.heap.size rfl 79 _ _ wo HI.out.tbl Try.underlying79 rfl (by kernel_rfl)) ?_)) | ((with_reducible refine at_store 2 50 ?_); (with_reducible refine wpList_store_blkA (o := ⟨none, _, _, _, _, _⟩) rfl 79 (.tmp 2) (.tmp 50) rfl w.heap.size #[.map (some mb), .slice A l.length cap] #[.map (some mb), .slice A l.length cap] 79 HI.out.tbl ?_ ?_ ?_ ?_ ?_ ?_); kernel_rfl; rfl; kernel_rfl; rfl; rfl; intro w7 hk7 hg7; have hb7 : Below w.heap.size w w7 := (HI.out.below.grown hg7 HI.out.below.size (fun b hb => (by injection hb with hb; omega))); have H7 := hide (And.intro hk7 (And.intro hb7 (HQ.out.2.of_eq (hg7.block mb HI.out.map_.lt (fun e => (by injection e with e; have := HI.out.ne; omega)))))); clear hk7 hg7 hb7; simp only [Act.put, List.setIfInBounds_toArray, List.set_cons_zero, List.set_cons_succ]))
      refine bodyPost_ret (results_cell_tmp rfl _ _ w.heap.size 79 #[.map (some mb), .slice A l.length cap] (0, 0) _ rfl H7.out.1 Try.underlying79 rfl (by kernel_rfl)) rfl ?_
      exact ⟨mb, by rw [HQ.out.1]; rfl, (fun _ => ⟨HI.out.ne, H7.out.2.2⟩), H7.out.2.1⟩
end Go.Proofs.Ytidiepbmbbflhaa
end
section
namespace Go.Proofs.Ytidiepbmbbflhaa
open Go Go.RowKit Go.Shelf
def noDefer (o : Oper) : Bool := match o.op with | .defer _ => false | _ => true
theorem noDefer_ne {o : Oper} (h : noDefer o = true) : ∀ c, o.op ≠ .defer c := fun c e => by
  unfold noDefer at h
  rw [e] at h
  cases h
section
variable {P : Program} {ops : Array Oper} {Q : Exit → Act → World → Prop} {r n : Nat}
theorem rows_in {row : String} {args : Array Value} {w : World} {R : Value → World → Prop} {m : Nat} (h : Rows P row args w R) : RowsIn (Fence.wide.inRound r) m P row args w R :=
  fun c cs _ => let ⟨v, w', h1, h2⟩ := h c cs; ⟨v, w', h1, stepsIn_wide.2 h2⟩
theorem upon_in {o : Oper} {a : Act} {next next' : Act → World → Prop} (hn : ∀ a w, next a w → next' a w) : ∀ (res : Result Next), o.upon P a next Q res → o.uponIn (Fence.wide.inRound r) n P a next' Q res := by
  intro res h
  match res, h with
  | .ok (.value v) w', h => exact hn _ _ h
  | .ok .skip w', h => exact hn _ _ h
  | .ok (.defer d) w', h => exact hn _ _ h
  | .ok (.enter f args) w', h =>
    refine ⟨fun e => (by cases e), CallsIn.inRound r (callsIn_wide.2 (Calls.mono h ?_))⟩
    intro e w'' he
    cases e with
    | returned v => exact hn _ _ he
    | panicked c => exact he
    | outgrown => exact he
  | .ok (.row row args) w', h =>
    refine ⟨fun e => (by cases e), rows_in (Rows.mono h ?_)⟩
    intro v w'' he
    exact hn _ _ he
  | .halt (.panic v) w', h => exact h
theorem oper_in {o : Oper} {a : Act} {w : World} {next next' : Act → World → Prop} (hd : noDefer o = true) (hn : ∀ a w, next a w → next' a w) (h : o.wp P a w next Q) : o.wpIn (Fence.wide.inRound r) n P a w next' Q := by
  unfold Oper.wp at h
  refine ⟨fun _ _ => trivial, ?_⟩
  rw [Oper.semAt_eq _ _ _ (noDefer_ne hd)]
  exact upon_in hn _ h
/-- a list of operations, walked plainly -/
theorem list_in (hno : ¬ LetsOut Q) : ∀ (l : List Oper), l.all noDefer = true → ∀ (a : Act) (w : World), wpList P ops Q l a w → wpListIn (Fence.wide.inRound r) n P ops Q l a w
  | [], _, _, _, h => h
  | o :: rest, hd, a, w, h => by
    rw [List.all_cons, Bool.and_eq_true] at hd
    unfold wpList at h
    unfold wpListIn
    split at h
    · rename_i hw
      rw [if_pos hw]
      rcases h with h | h
      · exact oper_in hd.1 (fun a w hk => list_in hno rest hd.2 a w hk) h
      · exact absurd h.2 hno
    · rename_i hw
      rw [if_neg hw]
      exact ⟨fun _ _ => trivial, list_in hno rest hd.2 _ _ h⟩
theorem any_in (hno : ¬ LetsOut Q) (hd : ops.all noDefer = true) {md : Region.Mode} : ∀ (fuel : Nat) (listed : Array Bool) (a : Act) (w : World), wpAny P md ops Q fuel listed a w → wpAnyIn (Fence.wide.inRound r) n P md ops Q fuel listed a w
  | 0, _, _, _, h => h
  | fuel + 1, listed, a, w, h => by
    refine ⟨h.1, fun i hi => ?_⟩
    have h2 := h.2 i hi
    unfold wpOp at h2
    unfold wpOpIn
    cases ho : ops[i]? with
    | none =>
      rw [ho] at h2
      exact any_in hno hd fuel _ a w h2
    | some o =>
      rw [ho] at h2
      dsimp only at h2 ⊢
      have hdo : noDefer o = true := by
        rw [Array.all_eq_true'] at hd
        exact hd o (Array.mem_of_getElem? ho)
      split at h2
      · rename_i hw
        rw [if_pos hw]
        rcases h2 with h2 | h2
        · exact oper_in hdo (fun a w hk => any_in hno hd fuel _ a w hk) h2
        · exact absurd h2.2 hno
      · rename_i hw
        rw [if_neg hw]
        exact ⟨fun _ _ => trivial, any_in hno hd fuel _ _ _ h2⟩
theorem region_in {id : Nat} {l : List Oper} {a : Act} {w : World} (hno : ¬ LetsOut Q) (hd : l.all noDefer = true) (h : wpList P l.toArray Q l a w) : (Code.region id l.toArray false).wpIn (Fence.wide.inRound r) n P Q a w :=
  wpIn_region_lit (list_in hno l hd a w h)
theorem draws_in {id : Nat} {l : List Oper} {a : Act} {w : World} (hm : P.follows .mixedOrders = true) (hno : ¬ LetsOut Q) (hd : l.all noDefer = true) (h : wpAny P .any l.toArray Q l.toArray.size (Array.replicate l.toArray.size false) a w.drew) : (Code.region id l.toArray true).wpIn (Fence.wide.inRound r) n P Q a w :=
  wpIn_region_any hm (any_in hno (by simpa using hd) _ _ a _ h)
theorem not_out_then {K : Act → World → Prop} (h : ¬ LetsOut Q) : ¬ LetsOut (Exit.then K Q) := fun ⟨a, w, hq⟩ => h ⟨a, w, hq⟩
theorem not_out_block {id : Nat} (h : ¬ LetsOut Q) : ¬ LetsOut (Exit.inBlock id Q) := fun ⟨a, w, hq⟩ => h ⟨a, w, hq⟩
theorem not_out_G {α : Type} {B : Nat} {Kp : World → World → Prop} {I : List α → World → Prop} {Ix : Code → List α → World → Prop} {xs : List α} {W : World} : ¬ LetsOut (ownPostG B Kp I Ix xs W) := fun ⟨_, _, h⟩ => h
end
end Go.Proofs.Ytidiepbmbbflhaa
end
section
namespace Go.Proofs.Ytidiepbmbbflhaa
open Go Go.RowKit Go.Shelf
/-- a round leaves alone what lay ahead, but for S -/
structure KeepsS (S : Nat → Prop) (n₀ : Nat) (W W' : World) : Prop where
  size : W.heap.size ≤ W'.heap.size
  old : ∀ k o, k < n₀ → ¬ S k → W.heap[k]? = some o → o.isCells = true → W'.heap[k]? = some o
section
variable {S : Nat → Prop} {n₀ : Nat}
theorem KeepsS.refl (W : World) : KeepsS S n₀ W W := ⟨Nat.le_refl _, fun _ _ _ _ h _ => h⟩
theorem KeepsS.trans {A B C : World} (h : KeepsS S n₀ A B) (k : KeepsS S n₀ B C) : KeepsS S n₀ A C :=
  ⟨Nat.le_trans h.size k.size, fun i o h1 h2 h3 h4 => k.old i o h1 h2 (h.old i o h1 h2 h3 h4) h4⟩
theorem KeepsS.below {W W' : World} (h : Below W.heap.size W W') : KeepsS S n₀ W W' :=
  ⟨h.size, fun k _ _ _ hk _ => (h.block k (Array.getElem?_eq_some_iff.1 hk).1).trans hk⟩
theorem KeepsS.putObj {w : World} (hn : n₀ ≤ w.heap.size) (W : World) (l : Nat) (o o' : Obj) (hl : w.heap.size ≤ l) (_ : W.heap[l]? = some o) (_ : o.isCells = false) (_ : o.isWalk = false) : KeepsS S n₀ W (W.putObj l o') :=
  ⟨by simp, fun k _ h1 _ hk _ => (World.putObj_heap_other (by omega)).trans hk⟩
theorem KeepsS.cell {W W' : World} (h : KeepsS S n₀ W W') {b i : Nat} {v : Value} (hb : b < n₀) (hs : ¬ S b) (hc : W.cell? ⟨b, i, none⟩ = some v) : W'.cell? ⟨b, i, none⟩ = some v := by
  have hlt := World.block_lt_of_cell? W _ hc
  have ho : W.heap[b]? = some W.heap[b] := Array.getElem?_eq_getElem hlt
  have h2 : W'.heap[b]? = W.heap[b]? := by
    rw [ho]
    refine h.old b _ hb hs ho ?_
    cases hob : W.heap[b] with
    | cells => rfl
    | _ => (rw [World.cell?] at hc; simp only [ho, hob] at hc; cases hc)
  exact (World.cell?_of_block h2).trans hc
theorem KeepsS.range {W W' : World} (h : KeepsS S n₀ W W') {b o : Nat} {cs : List Value} (hb : b < n₀) (hs : ¬ S b) (hc : W.rangeAt b o cs) : W'.rangeAt b o cs := fun j v hv => h.cell hb hs (hc j v hv)
/-- a store into S's blocks alone -/
theorem KeepsS.only {W W' : World} (hz : W.heap.size ≤ W'.heap.size) (h : ∀ k, k < n₀ → ¬ S k → W'.heap[k]? = W.heap[k]?) : KeepsS S n₀ W W' := ⟨hz, fun k _ h1 h2 h3 _ => (h k h1 h2).trans h3⟩
end
theorem _root_.Go.KeepsFrom.of_below9 {B : Nat} {W W' : World} (h : Below W.heap.size W W') : KeepsFrom B W W' := ⟨h.size, fun k _ _ hk _ => (h.block k (Array.getElem?_eq_some_iff.1 hk).1).trans hk⟩
/-- what holds of a block of cells abides the turns of what is none -/
theorem blk_kept {W W' : World} {row : Option Nat} {g : Nat} {t : TypeId} {cs : Array Value} (h : Blk W g t cs) (hg : W.grownBy W' row) (hrow : ∀ r, row = some r → ∃ o : Obj, W.heap[r]? = some o ∧ o.isCells = false) : Blk W' g t cs :=
  (hg.block g h.lt fun e => by
    obtain ⟨o, ho, hc⟩ := hrow g e.symm
    rw [show W.heap[g]? = _ from h] at ho
    injection ho with ho
    subst ho
    cases hc).trans h
theorem map_kept {K V : Type} {ek : K → Value} {ok : K → Prop} {ev : V → Value} {W W' : World} {row : Option Nat} {B b : Nat} {m : List (K × V)} (h : MapIs ek ok ev W b m) (hb : b < B) (hg : W.grownBy W' row) (hrow : ∀ r, row = some r → B ≤ r ∧ ∃ o : Obj, W.heap[r]? = some o ∧ o.isCells = false) : MapIs ek ok ev W' b m :=
  h.of_eq (hg.block b h.lt fun e => by have := (hrow b e.symm).1; omega)
theorem exec_idx1 {P : Program} {ρ : Operand → Value} {o : Oper} (ty e : TypeId) (x i : Operand) (ho : o.op = .indexAddr ty x i) (b n cap k : Nat) (hx : ρ x = .slice (some ⟨b, 0, none⟩) n cap) (hi : ρ i = .int .i64 (k : Int)) (hk : k < n) (hu : P.underlying ty = some (.slice e)) (hs : (P.info? e).map (·.size) = some 1) (w : World) :
    (execOp ρ o).run P w = .ok (.value (.pointer (some ⟨b, k, none⟩))) w := by
  have h := exec_index_off (P := P) (ρ := ρ) (o := o) ty e x i ho b 0 n cap (k : Int) .i64 hx hi ⟨by omega, by omega⟩ 1 hu hs w
  rwa [Int.toNat_natCast, Nat.mul_one, Nat.zero_add] at h
section
variable {P : Program} {ops : Array Oper} {Q : Exit → Act → World → Prop} {n : Nat} {rest : List Oper} {o : Oper} {a : Act} {w : World}
theorem at_slotIn (s : Nat) {F : Fence} {op : Op} {t} {p} {af} {g}
    (h : wpListIn F n P ops Q (⟨some s, op, t, p, af, g⟩ :: rest) a w) : wpListIn F n P ops Q (⟨some s, op, t, p, af, g⟩ :: rest) a w := h
theorem wpListIn_value (hg : o.guard = none) (hd : noDefer o = true) (v : Value) (w' : World) (hr : (execOp a.eval o).run P w = .ok (.value v) w') (h : wpListIn Fence.wide n P ops Q rest (a.put o.dst v) w') : wpListIn Fence.wide n P ops Q (o :: rest) a w :=
  wpListIn_plain hg fun K hK => by
    refine ⟨fun _ _ => trivial, ?_⟩
    rw [Oper.semAt_eq _ _ _ (noDefer_ne hd), hr]
    exact hK _ _ h
end
end Go.Proofs.Ytidiepbmbbflhaa
end
section
namespace Go.Proofs.Ytidiepbmbbflhaa
open Go Go.RowKit Go.Shelf
attribute [local go_sem] Oper.semAt_some
set_option maxRecDepth 100000
variable {S : Nat → Prop}
set_option maxHeartbeats 4000000 in
theorem back1_in (n : Nat) (hn : 1 ≤ n) (l Bf Bt n₀ m len cap b off : Nat) (cf : Nat → List Value) (hm : m < len) (hl : len ≤ maxLen) (hb : b < n₀) (hBf : Bf < n₀) (hBt : Bt < n₀) (hSb : ¬ S b) (hSf : ¬ S Bf) (hSt : ¬ S Bt) (hcf : ∀ j, j < len → (cf j).length = 23) (J Jx : List Nat → World → Prop)
    (hY : ∀ pre x W, J pre W → pre.length < m + 1 → YieldAt Fence.wide (n - 1) Try.prog l #[.int .i64 ((m - x : Nat) : Int), .agg (cf (m - x)).toArray] W fun e W' =>
      (e = .returned (.bool true) ∧ J (pre ++ [x]) W' ∧ KeepsS S n₀ W W') ∨ (e = .returned (.bool false) ∧ Jx (pre ++ [x]) W'))
    (W : World) (hf : W.cell? ⟨Bf, 0, none⟩ = some (.int .i64 (m : Int))) (ht : W.cell? ⟨Bt, 1, none⟩ = some (.slice (some ⟨b, off, none⟩) len cap)) (hcs : ∀ j, j < len → W.rangeAt b (off + j * 23) (cf j)) (h0 : J [] W) :
    CallsIn Fence.wide n Try.prog 61 #[.func (.yield l) #[] #[], .pointer (some ⟨Bf, 0, none⟩), .pointer (some ⟨Bt, 0, none⟩)] W fun e W' => (∃ v, e = .returned v) ∧
      ((∃ ys, ys = List.range (m + 1) ∧ J ys W') ∨ (∃ pre, (∃ k, k ≤ m + 1 ∧ pre = List.range k) ∧ Jx pre W')) := by
  have l9 : (len : Int) ≤ 9223372036854775807 := by simp only [maxLen] at hl; omega
  have HCS := hide (And.intro hcs hcf)
  have HF := hide (And.intro hf ht)
  clear hcs hcf hl ht
  refine callsIn_of_wp Try.func61 rfl trivial ?_ rfl
  simp only [Try.ntmps61, List.size_toArray, List.length_cons, List.length_nil, Nat.reduceAdd, Nat.reduceSub, Array.replicate_succ, Array.replicate_zero, List.push_toArray, List.append_toArray, List.nil_append, List.cons_append]
  gi_wp2
  clear hf
  gi_loopw [4] (fun i wr => ∃ k : Nat, ((k = m + 1 ∧ i = .int .i64 (-1)) ∨ ∃ p : Nat, k + p = m ∧ i = .int .i64 (p : Int)) ∧ J (List.range k) wr ∧ KeepsS S n₀ W wr)
    (fun i _ => (intOf i + 1).toNat)
  case atStart => exact ⟨0, .inr ⟨m, by omega, rfl⟩, h0, KeepsS.refl _⟩
  case round =>
    obtain ⟨k, hk, hJs, hnx⟩ := hrel
    rcases hk with ⟨rfl, rfl⟩ | ⟨p, hp, rfl⟩
    · gi_wp2
      go_end0
      exact ⟨⟨_, rfl⟩, .inl ⟨_, rfl, hJs⟩⟩
    · obtain ⟨fn, tmps, assign, body, hy, hR⟩ := hY (List.range k) k wr hJs (by rw [List.length_range]; omega)
      rw [show m - k = p by omega] at hy
      have hb' := hnx.cell hBt hSt HF.out.2
      have hc' := hnx.range hb hSb (HCS.out.1 p (by omega))
      have hszt : (Try.prog.info? 43).map (·.size) = some (cf p).length := by rw [HCS.out.2 p (by omega)]; kernel_rfl
      have n1 : (0 : Int) ≤ (p : Int) := by omega
      have n2 : (p : Int) < (len : Int) := by omega
      have HN := hide hnx
      clear hnx
      gi_wp2_with (first | ((with_reducible refine at_slotIn 15 ?_); (refine wpListIn_value (o := ⟨some 15, _, _, _, _, _⟩) rfl rfl (.pointer (some ⟨b, off + (p : Int).toNat * 23, none⟩)) wr (exec_index_off (o := ⟨some 15, _, _, _, _, _⟩) 25 43 (.tmp 13) (.tmp 14) rfl b off len cap (p : Int) .i64 rfl rfl ⟨n1, n2⟩ 23 Try.underlying25 sz_itm wr) ?_; rw [show off + (p : Int).toNat * 23 = off + p * 23 by omega])) | ((with_reducible refine at_slotIn 16 ?_); (refine wpListIn_value (o := ⟨some 16, _, _, _, _, _⟩) rfl rfl (.agg (cf p).toArray) wr (exec_load_mid (o := ⟨some 16, _, _, _, _, _⟩) 43 (.tmp 15) rfl b (off + p * 23) rfl (cf p) _ wr hc' Try.underlying43 rfl hszt) ?_)))
      refine hR.mono ?_
      rintro e W3 (⟨rfl, hJ3, hk3⟩ | ⟨rfl, hJx3⟩)
      · have H3 := hide (And.intro hJ3 hk3)
        clear hJ3 hk3 hb' hc' hy hR hJs
        gi_wp2_with fail
        go_roundw
        case rel =>
          refine ⟨k + 1, ?_, by rw [List.range_succ]; exact H3.out.1, HN.out.trans H3.out.2⟩
          rcases Nat.eq_zero_or_pos p with rfl | h
          · exact .inl ⟨by omega, by go_num⟩
          · obtain ⟨q, rfl⟩ : ∃ q, p = q + 1 := ⟨p - 1, by omega⟩
            exact .inr ⟨q, by omega, by go_num⟩
        case measure => simp [intOf]
      · clear hb' hc' hy hR hJs
        gi_wp2_with fail
        refine bodyPost_ret (results_none rfl _ _ _) rfl ?_
        exact ⟨⟨_, rfl⟩, .inr ⟨_, ⟨k + 1, by omega, (List.range_succ).symm⟩, hJx3⟩⟩
theorem back_any (w : World) (mv sl : Value) (m : Int) (h1 : mv.oneCell' = true) (h2 : sl.oneCell' = true) : Calls Try.prog 51 #[.agg #[mv, sl], .int .i64 m] w fun e w' =>
    e = .returned (.func (.func 61) #[] #[.pointer (some ⟨w.heap.size + 1, 0, none⟩), .pointer (some ⟨w.heap.size, 0, none⟩)]) ∧ Blk w' w.heap.size 79 #[mv, sl] ∧ Blk w' (w.heap.size + 1) 3 #[.int .i64 m] ∧ Below w.heap.size w w' := by
  go_enter Try.func51, Try.ntmps51
  go_wp2_with (((with_reducible refine at_slot 2 ?_); (refine wpList_boxA (o := ⟨some 2, _, _, _, _, _⟩) rfl 79 (.tmp 0) rfl #[mv, sl] rfl ?_); intro w1 hn; have H1 := hide hn; clear hn; simp only [Act.put, List.setIfInBounds_toArray, List.set_cons_zero, List.set_cons_succ]))
  go_ret
  have h := new1_alloc w1 3 #[.int .i64 m]
  have hs := H1.out.size
  refine ⟨?_, (H1.out.blk.below h.below H1.out.blk.lt), ?_, H1.out.below.trans (Below.mono h.below H1.out.below.size)⟩
  · rw [← hs]; rfl
  · rw [← hs]; exact h.blk
/-- the items from one down to the first one, as a loop is owed them -/
theorem back_stops (n : Nat) (hn : 1 ≤ n) (Bf Bt m len cap b off : Nat) (cf : Nat → List Value) (hm : m < len) (hl : len ≤ maxLen) (hcf : ∀ j, j < len → (cf j).length = 23) (w : World) (hb : b < w.heap.size) (hBf : Bf < w.heap.size) (hBt : Bt < w.heap.size) (hSb : ¬ S b) (hSf : ¬ S Bf) (hSt : ¬ S Bt)
    (hf : w.cell? ⟨Bf, 0, none⟩ = some (.int .i64 (m : Int))) (ht : w.cell? ⟨Bt, 1, none⟩ = some (.slice (some ⟨b, off, none⟩) len cap)) (hcs : ∀ j, j < len → w.rangeAt b (off + j * 23) (cf j)) :
    SeqStopsK Fence.wide n Try.prog 61 #[.pointer (some ⟨Bf, 0, none⟩), .pointer (some ⟨Bt, 0, none⟩)] (fun x : Nat => #[.int .i64 ((m - x : Nat) : Int), .agg (cf (m - x)).toArray]) (KeepsS S w.heap.size) (fun ys => ys = List.range (m + 1)) (fun pre => ∃ k, k ≤ m + 1 ∧ pre = List.range k) (m + 1) w := fun l J Jx W hW _ _ hY h0 =>
  back1_in n hn l Bf Bt w.heap.size m len cap b off cf hm hl hb hBf hBt hSb hSf hSt hcf J Jx hY W ((hW.cell (p := ⟨Bf, 0, none⟩) hBf).trans hf) ((hW.cell (p := ⟨Bt, 0 + 1, none⟩) hBt).trans ht) (fun j hj => rangeAt_same (hcs j hj) (hW.block b hb)) h0
end Go.Proofs.Ytidiepbmbbflhaa
end
