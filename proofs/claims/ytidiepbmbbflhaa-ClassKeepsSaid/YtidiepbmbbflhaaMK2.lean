/- What a round of a range over a function leaves alone; operations inside a fence that lets all through. drv.table.back: the items from one down to the first one. drv.table.needed. drv.Right, drv.Needs. drv.Depth, drv.Users. drv.Users. Sums of bytes, as plain functions on lists of words: what the program's package hash computes. No program is in sight here. Numbers as bytes, plain: seven bits a byte, the lowest first; more says that others follow. The walks of the program's package hash, leaves first: a turned word, mixed words, the constants. The walks of the program's package hash: the first state, the constants of the rounds, the words of a block. -/
import Derived.Test.YtidiepbmbbflhaaMK1
import Derived.Test.YtidiepbmbbflhaaTools
import Derived.Test.YtidiepbmbbflhaaOps
import Derived.WalkMore
import Derived.Test.YtidiepbmbbflhaaAt
import Derived.Laws.BitsAllLaws
import Derived.Laws.World
import GoSem.Core.Value
import Derived.Test.YtidiepbmbbflhaaBase
import Derived.Test.YtidiepbmbbflhaaQuietTail
import Derived.Deep.RegionHeld3
import Derived.Deep.QuietTactic
import Derived.BigQuiet
section
namespace Go.Proofs.Ytidiepbmbbflhaa
open Go Go.RowKit Go.Shelf
/-- a round leaves alone what lay ahead, but for S -/
structure KeepsS (S : Nat → Prop) (n₀ : Nat) (W W' : World) : Prop where
  size : W.heap.size ≤ W'.heap.size
  old : ∀ k o, k < n₀ → ¬ S k → W.heap[k]? = some o → o.isCells = true → W'.heap[k]? = some o
section
variable {S : Nat → Prop} {n₀ : Nat}
theorem KeepsS.refl (W : World) : KeepsS S n₀ W W := ⟨Nat.le_refl _, fun _ _ _ _ h _ => h⟩
theorem KeepsS.trans {A B C : World} (h : KeepsS S n₀ A B) (k : KeepsS S n₀ B C) : KeepsS S n₀ A C :=
  ⟨Nat.le_trans h.size k.size, fun i o h1 h2 h3 h4 => k.old i o h1 h2 (h.old i o h1 h2 h3 h4) h4⟩
theorem KeepsS.below {W W' : World} (h : Below W.heap.size W W') : KeepsS S n₀ W W' :=
  ⟨h.size, fun k _ _ _ hk _ => (h.block k (Array.getElem?_eq_some_iff.1 hk).1).trans hk⟩
theorem KeepsS.putObj {w : World} (hn : n₀ ≤ w.heap.size) (W : World) (l : Nat) (o o' : Obj) (hl : w.heap.size ≤ l) (_ : W.heap[l]? = some o) (_ : o.isCells = false) (_ : o.isWalk = false) : KeepsS S n₀ W (W.putObj l o') :=
  ⟨by simp, fun k _ h1 _ hk _ => (World.putObj_heap_other (by omega)).trans hk⟩
theorem KeepsS.cell {W W' : World} (h : KeepsS S n₀ W W') {b i : Nat} {v : Value} (hb : b < n₀) (hs : ¬ S b) (hc : W.cell? ⟨b, i, none⟩ = some v) : W'.cell? ⟨b, i, none⟩ = some v := by
  have hlt := World.block_lt_of_cell? W _ hc
  have ho : W.heap[b]? = some W.heap[b] := Array.getElem?_eq_getElem hlt
  have h2 : W'.heap[b]? = W.heap[b]? := by
    rw [ho]
    refine h.old b _ hb hs ho ?_
    cases hob : W.heap[b] with
    | cells => rfl
    | _ => (rw [World.cell?] at hc; simp only [ho, hob] at hc; cases hc)
  exact (World.cell?_of_block h2).trans hc
theorem KeepsS.range {W W' : World} (h : KeepsS S n₀ W W') {b o : Nat} {cs : List Value} (hb : b < n₀) (hs : ¬ S b) (hc : W.rangeAt b o cs) : W'.rangeAt b o cs := fun j v hv => h.cell hb hs (hc j v hv)
/-- a store into S's blocks alone -/
theorem KeepsS.only {W W' : World} (hz : W.heap.size ≤ W'.heap.size) (h : ∀ k, k < n₀ → ¬ S k → W'.heap[k]? = W.heap[k]?) : KeepsS S n₀ W W' := ⟨hz, fun k _ h1 h2 h3 _ => (h k h1 h2).trans h3⟩
end
theorem _root_.Go.KeepsFrom.of_below9 {B : Nat} {W W' : World} (h : Below W.heap.size W W') : KeepsFrom B W W' := ⟨h.size, fun k _ _ hk _ => (h.block k (Array.getElem?_eq_some_iff.1 hk).1).trans hk⟩
/-- what holds of a block of cells abides the turns of what is none -/
theorem blk_kept {W W' : World} {row : Option Nat} {g : Nat} {t : TypeId} {cs : Array Value} (h : Blk W g t cs) (hg : W.grownBy W' row) (hrow : ∀ r, row = some r → ∃ o : Obj, W.heap[r]? = some o ∧ o.isCells = false) : Blk W' g t cs :=
  (hg.block g h.lt fun e => by
    obtain ⟨o, ho, hc⟩ := hrow g e.symm
    rw [show W.heap[g]? = _ from h] at ho
    injection ho with ho
    subst ho
    cases hc).trans h
theorem map_kept {K V : Type} {ek : K → Value} {ok : K → Prop} {ev : V → Value} {W W' : World} {row : Option Nat} {B b : Nat} {m : List (K × V)} (h : MapIs ek ok ev W b m) (hb : b < B) (hg : W.grownBy W' row) (hrow : ∀ r, row = some r → B ≤ r ∧ ∃ o : Obj, W.heap[r]? = some o ∧ o.isCells = false) : MapIs ek ok ev W' b m :=
  h.of_eq (hg.block b h.lt fun e => by have := (hrow b e.symm).1; omega)
theorem exec_idx1 {P : Program} {ρ : Operand → Value} {o : Oper} (ty e : TypeId) (x i : Operand) (ho : o.op = .indexAddr ty x i) (b n cap k : Nat) (hx : ρ x = .slice (some ⟨b, 0, none⟩) n cap) (hi : ρ i = .int .i64 (k : Int)) (hk : k < n) (hu : P.underlying ty = some (.slice e)) (hs : (P.info? e).map (·.size) = some 1) (w : World) :
    (execOp ρ o).run P w = .ok (.value (.pointer (some ⟨b, k, none⟩))) w := by
  have h := exec_index_off (P := P) (ρ := ρ) (o := o) ty e x i ho b 0 n cap (k : Int) .i64 hx hi ⟨by omega, by omega⟩ 1 hu hs w
  rwa [Int.toNat_natCast, Nat.mul_one, Nat.zero_add] at h
section
variable {P : Program} {ops : Array Oper} {Q : Exit → Act → World → Prop} {n : Nat} {rest : List Oper} {o : Oper} {a : Act} {w : World}
theorem at_slotIn (s : Nat) {F : Fence} {op : Op} {t} {p} {af} {g}
    (h : wpListIn F n P ops Q (⟨some s, op, t, p, af, g⟩ :: rest) a w) : wpListIn F n P ops Q (⟨some s, op, t, p, af, g⟩ :: rest) a w := h
theorem wpListIn_value (hg : o.guard = none) (hd : noDefer o = true) (v : Value) (w' : World) (hr : (execOp a.eval o).run P w = .ok (.value v) w') (h : wpListIn Fence.wide n P ops Q rest (a.put o.dst v) w') : wpListIn Fence.wide n P ops Q (o :: rest) a w :=
  wpListIn_plain hg fun K hK => by
    refine ⟨fun _ _ => trivial, ?_⟩
    rw [Oper.semAt_eq _ _ _ (noDefer_ne hd), hr]
    exact hK _ _ h
end
end Go.Proofs.Ytidiepbmbbflhaa
end
section
namespace Go.Proofs.Ytidiepbmbbflhaa
open Go Go.RowKit Go.Shelf
attribute [local go_sem] Oper.semAt_some
set_option maxRecDepth 100000
variable {S : Nat → Prop}
set_option maxHeartbeats 4000000 in
theorem back1_in (n : Nat) (hn : 1 ≤ n) (l Bf Bt n₀ m len cap b off : Nat) (cf : Nat → List Value) (hm : m < len) (hl : len ≤ maxLen) (hb : b < n₀) (hBf : Bf < n₀) (hBt : Bt < n₀) (hSb : ¬ S b) (hSf : ¬ S Bf) (hSt : ¬ S Bt) (hcf : ∀ j, j < len → (cf j).length = 23) (J Jx : List Nat → World → Prop)
    (hY : ∀ pre x W, J pre W → pre.length < m + 1 → YieldAt Fence.wide (n - 1) Try.prog l #[.int .i64 ((m - x : Nat) : Int), .agg (cf (m - x)).toArray] W fun e W' =>
      (e = .returned (.bool true) ∧ J (pre ++ [x]) W' ∧ KeepsS S n₀ W W') ∨ (e = .returned (.bool false) ∧ Jx (pre ++ [x]) W'))
    (W : World) (hf : W.cell? ⟨Bf, 0, none⟩ = some (.int .i64 (m : Int))) (ht : W.cell? ⟨Bt, 1, none⟩ = some (.slice (some ⟨b, off, none⟩) len cap)) (hcs : ∀ j, j < len → W.rangeAt b (off + j * 23) (cf j)) (h0 : J [] W) :
    CallsIn Fence.wide n Try.prog 61 #[.func (.yield l) #[] #[], .pointer (some ⟨Bf, 0, none⟩), .pointer (some ⟨Bt, 0, none⟩)] W fun e W' => (∃ v, e = .returned v) ∧
      ((∃ ys, ys = List.range (m + 1) ∧ J ys W') ∨ (∃ pre, (∃ k, k ≤ m + 1 ∧ pre = List.range k) ∧ Jx pre W')) := by
  have l9 : (len : Int) ≤ 9223372036854775807 := by simp only [maxLen] at hl; omega
  have HCS := hide (And.intro hcs hcf)
  have HF := hide (And.intro hf ht)
  clear hcs hcf hl ht
  refine callsIn_of_wp Try.func61 rfl trivial ?_ rfl
  simp only [Try.ntmps61, List.size_toArray, List.length_cons, List.length_nil, Nat.reduceAdd, Nat.reduceSub, Array.replicate_succ, Array.replicate_zero, List.push_toArray, List.append_toArray, List.nil_append, List.cons_append]
  gi_wp2
  clear hf
  gi_loopw [4] (fun i wr => ∃ k : Nat, ((k = m + 1 ∧ i = .int .i64 (-1)) ∨ ∃ p : Nat, k + p = m ∧ i = .int .i64 (p : Int)) ∧ J (List.range k) wr ∧ KeepsS S n₀ W wr)
    (fun i _ => (intOf i + 1).toNat)
  case atStart => exact ⟨0, .inr ⟨m, by omega, rfl⟩, h0, KeepsS.refl _⟩
  case round =>
    obtain ⟨k, hk, hJs, hnx⟩ := hrel
    rcases hk with ⟨rfl, rfl⟩ | ⟨p, hp, rfl⟩
    · gi_wp2
      go_end0
      exact ⟨⟨_, rfl⟩, .inl ⟨_, rfl, hJs⟩⟩
    · obtain ⟨fn, tmps, assign, body, hy, hR⟩ := hY (List.range k) k wr hJs (by rw [List.length_range]; omega)
      rw [show m - k = p by omega] at hy
      have hb' := hnx.cell hBt hSt HF.out.2
      have hc' := hnx.range hb hSb (HCS.out.1 p (by omega))
      have hszt : (Try.prog.info? 43).map (·.size) = some (cf p).length := by rw [HCS.out.2 p (by omega)]; kernel_rfl
      have n1 : (0 : Int) ≤ (p : Int) := by omega
      have n2 : (p : Int) < (len : Int) := by omega
      have HN := hide hnx
      clear hnx
      gi_wp2_with (first | ((with_reducible refine at_slotIn 15 ?_); (refine wpListIn_value (o := ⟨some 15, _, _, _, _, _⟩) rfl rfl (.pointer (some ⟨b, off + (p : Int).toNat * 23, none⟩)) wr (exec_index_off (o := ⟨some 15, _, _, _, _, _⟩) 25 43 (.tmp 13) (.tmp 14) rfl b off len cap (p : Int) .i64 rfl rfl ⟨n1, n2⟩ 23 Try.underlying25 sz_itm wr) ?_; rw [show off + (p : Int).toNat * 23 = off + p * 23 by omega])) | ((with_reducible refine at_slotIn 16 ?_); (refine wpListIn_value (o := ⟨some 16, _, _, _, _, _⟩) rfl rfl (.agg (cf p).toArray) wr (exec_load_mid (o := ⟨some 16, _, _, _, _, _⟩) 43 (.tmp 15) rfl b (off + p * 23) rfl (cf p) _ wr hc' Try.underlying43 rfl hszt) ?_)))
      refine hR.mono ?_
      rintro e W3 (⟨rfl, hJ3, hk3⟩ | ⟨rfl, hJx3⟩)
      · have H3 := hide (And.intro hJ3 hk3)
        clear hJ3 hk3 hb' hc' hy hR hJs
        gi_wp2_with fail
        go_roundw
        case rel =>
          refine ⟨k + 1, ?_, by rw [List.range_succ]; exact H3.out.1, HN.out.trans H3.out.2⟩
          rcases Nat.eq_zero_or_pos p with rfl | h
          · exact .inl ⟨by omega, by go_num⟩
          · obtain ⟨q, rfl⟩ : ∃ q, p = q + 1 := ⟨p - 1, by omega⟩
            exact .inr ⟨q, by omega, by go_num⟩
        case measure => simp [intOf]
      · clear hb' hc' hy hR hJs
        gi_wp2_with fail
        refine bodyPost_ret (results_none rfl _ _ _) rfl ?_
        exact ⟨⟨_, rfl⟩, .inr ⟨_, ⟨k + 1, by omega, (List.range_succ).symm⟩, hJx3⟩⟩
theorem back_any (w : World) (mv sl : Value) (m : Int) (h1 : mv.oneCell' = true) (h2 : sl.oneCell' = true) : Calls Try.prog 51 #[.agg #[mv, sl], .int .i64 m] w fun e w' =>
    e = .returned (.func (.func 61) #[] #[.pointer (some ⟨w.heap.size + 1, 0, none⟩), .pointer (some ⟨w.heap.size, 0, none⟩)]) ∧ Blk w' w.heap.size 79 #[mv, sl] ∧ Blk w' (w.heap.size + 1) 3 #[.int .i64 m] ∧ Below w.heap.size w w' := by
  go_enter Try.func51, Try.ntmps51
  go_wp2_with (((with_reducible refine at_slot 2 ?_); (refine wpList_boxA (o := ⟨some 2, _, _, _, _, _⟩) rfl 79 (.tmp 0) rfl #[mv, sl] rfl ?_); intro w1 hn; have H1 := hide hn; clear hn; simp only [Act.put, List.setIfInBounds_toArray, List.set_cons_zero, List.set_cons_succ]))
  go_ret
  have h := new1_alloc w1 3 #[.int .i64 m]
  have hs := H1.out.size
  refine ⟨?_, (H1.out.blk.below h.below H1.out.blk.lt), ?_, H1.out.below.trans (Below.mono h.below H1.out.below.size)⟩
  · rw [← hs]; rfl
  · rw [← hs]; exact h.blk
/-- the items from one down to the first one, as a loop is owed them -/
theorem back_stops (n : Nat) (hn : 1 ≤ n) (Bf Bt m len cap b off : Nat) (cf : Nat → List Value) (hm : m < len) (hl : len ≤ maxLen) (hcf : ∀ j, j < len → (cf j).length = 23) (w : World) (hb : b < w.heap.size) (hBf : Bf < w.heap.size) (hBt : Bt < w.heap.size) (hSb : ¬ S b) (hSf : ¬ S Bf) (hSt : ¬ S Bt)
    (hf : w.cell? ⟨Bf, 0, none⟩ = some (.int .i64 (m : Int))) (ht : w.cell? ⟨Bt, 1, none⟩ = some (.slice (some ⟨b, off, none⟩) len cap)) (hcs : ∀ j, j < len → w.rangeAt b (off + j * 23) (cf j)) :
    SeqStopsK Fence.wide n Try.prog 61 #[.pointer (some ⟨Bf, 0, none⟩), .pointer (some ⟨Bt, 0, none⟩)] (fun x : Nat => #[.int .i64 ((m - x : Nat) : Int), .agg (cf (m - x)).toArray]) (KeepsS S w.heap.size) (fun ys => ys = List.range (m + 1)) (fun pre => ∃ k, k ≤ m + 1 ∧ pre = List.range k) (m + 1) w := fun l J Jx W hW _ _ hY h0 =>
  back1_in n hn l Bf Bt w.heap.size m len cap b off cf hm hl hb hBf hBt hSb hSf hSt hcf J Jx hY W ((hW.cell (p := ⟨Bf, 0, none⟩) hBf).trans hf) ((hW.cell (p := ⟨Bt, 0 + 1, none⟩) hBt).trans ht) (fun j hj => rangeAt_same (hcs j hj) (hW.block b hb)) h0
end Go.Proofs.Ytidiepbmbbflhaa
end
section
namespace Go.Proofs.Ytidiepbmbbflhaa
open Go Go.RowKit Go.Shelf Go.Maps
attribute [local go_sem] Oper.semAt_some
set_option maxRecDepth 100000
/-- where a class stands -/
def posD {H : Type} [DecidableEq H] (l : List (Dr.It H)) (c : H) : Nat := (Dr.css l).idxOf c
theorem at_posD {H : Type} [DecidableEq H] {l : List (Dr.It H)} {c : H} (hc : c ∈ Dr.css l) : ∃ x, l[posD l c]? = some x ∧ x.cls = c := Dr.at_idx hc
theorem posD_lt {H : Type} [DecidableEq H] {l : List (Dr.It H)} {c : H} (hc : c ∈ Dr.css l) : posD l c < l.length := Dr.idx_lt hc
/-- one round of marking -/
def mkStep {H : Type} [DecidableEq H] (l : List (Dr.It H)) (m : Nat) (b : List Bool) (x : Nat) : List Bool := if b[m - x]?.getD false then Dr.mset (Dr.css l) (Dr.insAt l (m - x)) b else b
theorem mkStep_len {H : Type} [DecidableEq H] (l : List (Dr.It H)) (m : Nat) (b : List Bool) (x : Nat) : (mkStep l m b x).length = b.length := by
  unfold mkStep
  split
  · exact Dr.mset_len _ _ _
  · rfl
theorem mkFold_len {H : Type} [DecidableEq H] (l : List (Dr.It H)) (m : Nat) : ∀ (p : List Nat) (b : List Bool), (p.foldl (mkStep l m) b).length = b.length
  | [], _ => rfl
  | x :: p, b => by rw [List.foldl_cons, mkFold_len l m p, mkStep_len]
theorem mkFold_markA {H : Type} [DecidableEq H] (l : List (Dr.It H)) (m : Nat) (b : List Bool) : ∀ k, k ≤ m + 1 → Dr.markA l (m + 1) b = Dr.markA l (m + 1 - k) ((List.range k).foldl (mkStep l m) b)
  | 0, _ => rfl
  | k + 1, hk => by
    rw [mkFold_markA l m b k (by omega), List.range_succ, List.foldl_append, show m + 1 - k = (m - k) + 1 by omega, Dr.markA, show m + 1 - (k + 1) = m - k by omega]
    rfl
theorem mkFold_need {H : Type} [DecidableEq H] (l : List (Dr.It H)) (m : Nat) : (List.range (m + 1)).foldl (mkStep l m) ((List.replicate l.length false).set m true) = Dr.needP l m := by
  have h := mkFold_markA l m ((List.replicate l.length false).set m true) (m + 1) (Nat.le_refl _)
  rw [Nat.sub_self] at h
  exact h.symm
theorem kmap_get {l : List Itm} (hr : Dr.Right (l.map itP)) {c : Hsh} (hc : c ∈ Dr.css (l.map itP)) : mget (kmap l) c = some (posD (l.map itP) c) := by
  obtain ⟨x, hx, hxc⟩ := at_posD hc
  obtain ⟨y, hy, rfl⟩ : ∃ y, l[posD (l.map itP) c]? = some y ∧ itP y = x := by
    rw [List.getElem?_map] at hx
    cases h : l[posD (l.map itP) c]? with
    | none => rw [h] at hx; cases hx
    | some y => rw [h] at hx; exact ⟨y, rfl, Option.some.inj hx⟩
  refine mget_at (by rw [kmap_keys]; exact hr.nodup) (j := posD (l.map itP) c) ?_
  unfold kmap
  rw [List.getElem?_map, List.getElem?_zipIdx, hy]
  simp [← hxc, itP]
theorem own_blk1 {w : World} {base g n s : Nat} {e : TypeId} {xs : List Value} (h : w.ownsRow base e s (.slice (some ⟨g, 0, none⟩) n n) n xs) : Blk w g e xs.toArray := by
  obtain ⟨hl, h⟩ := h
  rcases h with ⟨h, _⟩ | ⟨g', cap, cur, h, _, hb, _, _, hs, ht⟩
  · cases h
  · injection h with e1 e2 e3
    injection e1 with e1
    injection e1 with e1
    subst e1 e3
    have : cur = xs.toArray := by rw [← ht, List.take_of_length_le (by simp; omega)]
    rw [← this]
    exact hb
theorem made_bools (n : Nat) : (madeCells #[Value.bool false] n).toList = (List.replicate n false).map Value.bool := by
  apply List.ext_getElem
  · simp [size_madeCells]
  · intro i h1 h2
    simp [madeCells, Nat.mod_one]
theorem bools_set {g : Nat} {w : World} {b : List Bool} (h : Blk w g 4 (b.map Value.bool).toArray) (i : Nat) : Blk (w.setCell ⟨g, i, none⟩ (.bool true)) g 4 ((b.set i true).map Value.bool).toArray := by
  have h2 := h.set_ i (.bool true)
  rwa [List.setIfInBounds_toArray, show (b.map Value.bool).set i (.bool true) = (b.set i true).map Value.bool by rw [List.map_set]] at h2
theorem bools_at {g : Nat} {w : World} {b : List Bool} (h : Blk w g 4 (b.map Value.bool).toArray) {i : Nat} {v : Bool} (hv : b[i]? = some v) : w.cell? ⟨g, i, none⟩ = some (.bool v) := by
  rw [h.cell, List.getElem?_toArray, List.getElem?_map, hv]
  rfl
theorem info_boolI : (Try.prog.info? 4).map (fun i => (i.zero, i.size, i.bytes)) = some (some (.bool false), 1, 1) := by kernel_rfl
/-- what is marked, and where it lies -/
structure NSt (w : World) (mb b off cap : Nat) (l : List Itm) (c : Hsh) (gc gn Bn : Nat) (marks : List Bool) (W : World) : Prop where
  tbl : Blk W w.heap.size 79 #[.map (some mb), .slice (some ⟨b, off, none⟩) l.length cap]
  cls : Blk W gc 27 (bv c).toArray
  need : Blk W gn 4 (marks.map Value.bool).toArray
  box : Blk W Bn 84 #[.slice (some ⟨gn, 0, none⟩) l.length l.length]
  map_ : MapIs hV okH evN W mb (kmap l)
  below : Below w.heap.size w W
  len : marks.length = l.length
  lo : mb < w.heap.size ∧ b < w.heap.size ∧ w.heap.size < gc ∧ gc < gn ∧ gn < Bn
section
variable {w W W' : World} {mb b off cap : Nat} {l : List Itm} {c : Hsh} {gc gn Bn : Nat} {marks : List Bool}
theorem NSt.grow (h : NSt w mb b off cap l c gc gn Bn marks W) (hb : Below W.heap.size W W') : NSt w mb b off cap l c gc gn Bn marks W' :=
  ⟨h.tbl.below hb h.tbl.lt, h.cls.below hb h.cls.lt, h.need.below hb h.need.lt, h.box.below hb h.box.lt, h.map_.below hb h.map_.lt, h.below.trans (Below.mono hb h.below.size), h.len, h.lo⟩
theorem NSt.set (h : NSt w mb b off cap l c gc gn Bn marks W) (i : Nat) (hk : Blk W' gn 4 ((marks.map Value.bool).toArray.setIfInBounds i (.bool true))) (hg : W.grownBy W' (some gn)) : NSt w mb b off cap l c gc gn Bn (marks.set i true) W' := by
  have hlo := h.lo
  refine ⟨(hg.block _ h.tbl.lt (fun e => by have := Option.some.inj e; omega)).trans h.tbl, (hg.block _ h.cls.lt (fun e => by have := Option.some.inj e; omega)).trans h.cls, ?_, (hg.block _ h.box.lt (fun e => by have := Option.some.inj e; omega)).trans h.box, h.map_.of_eq (hg.block _ h.map_.lt (fun e => by have := Option.some.inj e; omega)), h.below.grown hg h.below.size (fun k e => by have := Option.some.inj e; omega), by rw [List.length_set, h.len], hlo⟩
  rwa [List.setIfInBounds_toArray, show (marks.map Value.bool).set i (.bool true) = (marks.set i true).map Value.bool by rw [List.map_set]] at hk
theorem NSt.own {row : Option Nat} {N : Nat} (hN : w.heap.size ≤ N) (h : NSt w mb b off cap l c gc gn Bn marks W) (hg : W.grownBy W' row) (hr : ∀ r, row = some r → N ≤ r ∧ ∃ o : Obj, W.heap[r]? = some o ∧ o.isCells = false) : NSt w mb b off cap l c gc gn Bn marks W' := by
  have hr' : ∀ r, row = some r → ∃ o : Obj, W.heap[r]? = some o ∧ o.isCells = false := fun r e => (hr r e).2
  exact ⟨blk_kept h.tbl hg hr', blk_kept h.cls hg hr', blk_kept h.need hg hr', blk_kept h.box hg hr', map_kept (B := N) h.map_ (by have := h.lo; omega) hg hr, h.below.grown hg h.below.size (fun k e => by have := (hr k e).1; omega), h.len, h.lo⟩
end
/-- only one block that there was has turned -/
structure OnlyT (g : Nat) (W W' : World) : Prop where
  size : W.heap.size ≤ W'.heap.size
  same : ∀ k, k < W.heap.size → k ≠ g → W'.heap[k]? = W.heap[k]?
theorem OnlyT.refl (g : Nat) (W : World) : OnlyT g W W := ⟨Nat.le_refl _, fun _ _ _ => rfl⟩
theorem OnlyT.trans {g : Nat} {A B C : World} (h : OnlyT g A B) (k : OnlyT g B C) : OnlyT g A C := ⟨Nat.le_trans h.size k.size, fun i h1 h2 => (k.same i (Nat.lt_of_lt_of_le h1 h.size) h2).trans (h.same i h1 h2)⟩
theorem OnlyT.of_below {g : Nat} {W W' : World} (h : Below W.heap.size W W') : OnlyT g W W' := ⟨h.size, fun k h1 _ => h.block k h1⟩
theorem OnlyT.of_grown {g : Nat} {W W' : World} (h : W.grownBy W' (some g)) : OnlyT g W W' := ⟨h.size, fun k h1 h2 => h.block k h1 fun e => h2 (Option.some.inj e)⟩
theorem OnlyT.keepsS {g N : Nat} {W W' : World} (h : OnlyT g W W') : KeepsS (· = g) N W W' := ⟨h.size, fun k o _ h2 h3 _ => (h.same k (Array.getElem?_eq_some_iff.1 h3).1 h2).trans h3⟩
theorem OnlyT.from {g N : Nat} {W W' : World} {t : TypeId} {cs : Array Value} (h : OnlyT g W W') (hb : Blk W g t cs) : KeepsFrom N W W' := ⟨h.size, fun k o _ h3 h4 => (h.same k (Array.getElem?_eq_some_iff.1 h3).1 fun e => by
  subst e
  rw [show W.heap[k]? = _ from hb] at h3
  injection h3 with h3
  subst h3
  cases h4).trans h3⟩
theorem exec_idx0 {P : Program} {ρ : Operand → Value} {o : Oper} (ty e : TypeId) (x i : Operand) (ho : o.op = .indexAddr ty x i) (b n cap k : Nat) (hx : ρ x = .slice (some ⟨b, 0, none⟩) n cap) (hi : ρ i = .int .i64 (k : Int)) (hk : k < n) (s : Nat) (hu : P.underlying ty = some (.slice e)) (hs : (P.info? e).map (·.size) = some s) (w : World) :
    (execOp ρ o).run P w = .ok (.value (.pointer (some ⟨b, k * s, none⟩))) w := by
  have h := exec_index_off (P := P) (ρ := ρ) (o := o) ty e x i ho b 0 n cap (k : Int) .i64 hx hi ⟨by omega, by omega⟩ s hu hs w
  rwa [Int.toNat_natCast, Nat.zero_add] at h
theorem look_at {w : World} {mb : Nat} {m : List (Hsh × Nat)} (hm : MapIs hV okH evN w mb m) {c : Hsh} (hc : okH c) {n : Nat} (hg : mget m c = some n) {ρ : Operand → Value} {o : Oper} (x y : Operand) (ho : o.op = .lookup 77 x y false) (hx : ρ x = .map (some mb)) (hy : ρ y = .agg (bv c).toArray) :
    (execOp ρ o).run Try.prog w = .ok (.value (.int .i64 (n : Int))) w := by
  have h := exec_lookup (P := Try.prog) (o := o) (ρ := ρ) 77 x y false ho (.map (some mb)) (.agg (bv c).toArray) _ hx hy (hm.look hash_enc hc Try.underlying77 (z_int w))
  rw [hg] at h
  exact h
theorem elems_fun {α : Type} {L : Lay α} {w : World} {B b off : Nat} {l : List α} (h : ElemsAt L w B b off l) : ∃ cf : Nat → List Value, ∀ j x, l[j]? = some x → w.rangeAt b (off + j * L.n) (cf j) ∧ L.At w B (cf j) x := by
  have key : ∀ j, ∃ cs : List Value, ∀ x, l[j]? = some x → w.rangeAt b (off + j * L.n) cs ∧ L.At w B cs x := fun j => by
    cases hj : l[j]? with
    | none => exact ⟨[], fun x hx => by cases hx⟩
    | some x =>
      obtain ⟨cs, h1, h2⟩ := h j x hj
      exact ⟨cs, fun y hy => by injection hy with hy; subst hy; exact ⟨h1, h2⟩⟩
  exact ⟨fun j => Classical.choose (key j), fun j x hx => Classical.choose_spec (key j) x hx⟩
theorem insAt_it {l : List Itm} {n : Nat} {x : Itm} (h : l[n]? = some x) : Dr.insAt (l.map itP) n = clsP x.2.2.1 := by
  unfold Dr.insAt
  rw [List.getElem?_map, h]
  rfl
theorem mset_snoc {H : Type} [DecidableEq H] (cs : List H) (ins : List H) (b : List Bool) (c : H) : Dr.mset cs (ins ++ [c]) b = (Dr.mset cs ins b).set (cs.idxOf c) true := by
  unfold Dr.mset
  rw [List.foldl_append]
  rfl
theorem fin_tmpD {P : Program} {fn : Func} {t D : Nat} {R : Ending → World → Prop} {tmps : Array Value} {W : World} {v : Value} (h : fn.results = #[.tmp t]) (hv : tmps.getD t undef = v) (hK : W.heap[D]? = some (.deferred (some []))) (hR : R (.returned v) (W.putObj D (.deferred none))) :
    bodyPostM Fence.wide 5 P fn R .ret { tmps := tmps, defers := [{ target := .collected D, args := #[] }] } W := by
  have hv' : tmps[t]?.getD undef = v := by simpa using hv
  exact ⟨by simp, .inl ⟨_, _, rfl, run_takeDeferred hK, v, by simp [results, h, go_sem, hv'], hR⟩⟩
theorem own_form9 {w : World} {B n s : Nat} {e : TypeId} {u : Value} {xs : List Value} (h : w.ownsRow B e s u n xs) : ∃ A c, u = .slice A n c := by
  rcases owned_formN h with ⟨e, h0, _⟩ | ⟨g, cap, cur, e, _⟩
  · exact ⟨none, 0, by rw [e, h0]⟩
  · exact ⟨_, _, e⟩
theorem flat_hash {l : List Hsh} (hl : ∀ h ∈ l, okH h) {k : Nat} {h : Hsh} (hk : l[k]? = some h) : ((l.flatMap bv).drop (k * 20)).take 20 = bv h := by
  rw [List.flatMap_def]
  refine flat_at (s := 20) (l.map bv) k (bv h) ?_ (by rw [List.getElem?_map, hk]; rfl)
  intro b hb
  obtain ⟨x, hx, rfl⟩ := List.mem_map.1 hb
  rw [bvL]
  exact hl x hx
theorem ins_knownH {H : Type} [DecidableEq H] {l : List (Dr.It H)} (hr : Dr.Right l) {n : Nat} {x : Dr.It H} (h : l[n]? = some x) : ∀ c ∈ x.ins, c ∈ Dr.css l := fun c hc => by
  have h1 := hr.ins n x h c hc
  have h2 := (List.getElem?_eq_some_iff.1 h).1
  refine List.idxOf_lt_length_iff.1 (Nat.lt_of_lt_of_le h1 ?_)
  simp [Dr.css]
  omega
theorem ins_known {l : List Itm} (hr : Dr.Right (l.map itP)) {n : Nat} {x : Itm} (h : l[n]? = some x) : ∀ c ∈ clsP x.2.2.1, c ∈ Dr.css (l.map itP) :=
  ins_knownH hr (n := n) (x := itP x) (by rw [List.getElem?_map, h]; rfl)
def NeedPost (w : World) (l : List Itm) (m : Nat) (w' : World) (e : Ending) : Prop := ∃ g, e = .returned (.slice (some ⟨g, 0, none⟩) l.length l.length) ∧ Blk w' g 4 ((Dr.needP (l.map itP) m).map Value.bool).toArray ∧ w.heap.size ≤ g ∧ Below w.heap.size w w'
set_option maxHeartbeats 8000000 in
theorem needed_any (w : World) (l : List Itm) (mb : Nat) (A : Option Addr) (cap : Nat) (h : itmsLay.At w w.heap.size [.slice A l.length cap] l) (hl : ∀ x ∈ l, x.2.2.1.length ≤ 1000000) (hlen : l.length ≤ 1000000) (hr : Dr.Right (l.map itP)) (hm : MapIs hV okH evN w mb (kmap l)) (c : Hsh) (hc : okH c) (hcm : c ∈ Dr.css (l.map itP)) :
    Calls Try.prog 44 #[.agg #[.map (some mb), .slice A l.length cap], .agg (bv c).toArray] w fun e w' => NeedPost w l (posD (l.map itP) c) w' e := by
  obtain ⟨ibo, hih, hq0, hq1, hq2⟩ := info_parts info_boolI
  have HK := hide (And.intro hih (And.intro hq0 (And.intro hq1 hq2)))
  clear hih hq0 hq1 hq2
  obtain ⟨A', cap', e, hcl, hcm9, _, hA⟩ := slice_open h
  injection e with e1 e2 e3
  subst e1 e3
  have hml := posD_lt hcm
  rw [List.length_map] at hml
  have hget := kmap_get hr hcm
  obtain ⟨m, hmd⟩ : ∃ m, m = posD (l.map itP) c := ⟨_, rfl⟩
  rw [← hmd] at hml hget ⊢
  clear hmd e2
  obtain ⟨b, off, rfl, hlb, hE⟩ := hA (by omega)
  have HM := hide (And.intro hm hget)
  have HE := hide (And.intro hE (And.intro hlb hr))
  have hszc := hszD hc
  have m0 : (0 : Int) ≤ (m : Int) := by omega
  have m1 : (m : Int) < (l.length : Int) := by omega
  clear hA hcl hcm hm hget hE hlb hr h
  refine (callsIn_wide (n := 5)).1 ?_
  refine callsIn_of_wp_marks Try.func44 rfl trivial ?_ rfl
  simp only [Try.ntmps44, List.size_toArray, List.length_cons, List.length_nil, Nat.reduceAdd, Nat.reduceSub, Array.replicate_succ, Array.replicate_zero, List.push_toArray, List.append_toArray, List.nil_append, List.cons_append]
  refine wpIn_wide.2 ?_
  go_wp2_with (first | go_step3 | ((with_reducible refine at_slot 2 ?_); (refine wpList_boxA (o := ⟨some 2, _, _, _, _, _⟩) rfl 79 (.tmp 0) rfl #[.map (some mb), .slice (some ⟨b, off, none⟩) l.length cap] rfl ?_); intro w1 hn; have H1 := hide hn; clear hn; simp only [Act.put, List.setIfInBounds_toArray, List.set_cons_zero, List.set_cons_succ]) | ((with_reducible refine at_slot 3 ?_); (refine wpList_boxA (o := ⟨some 3, _, _, _, _, _⟩) rfl 27 (.tmp 1) rfl (bv c).toArray rfl ?_); intro w2 hn; have H2 := hide (And.intro (H1.out.blk.below hn.below H1.out.blk.lt) (And.intro hn.blk (And.intro (H1.out.below.trans (Below.mono hn.below H1.out.below.size)) (And.intro H1.out.size hn.size)))); clear hn; simp only [Act.put, List.setIfInBounds_toArray, List.set_cons_zero, List.set_cons_succ]) | ((with_reducible refine at_slot 11 ?_); (refine wpList_value (o := ⟨some 11, _, _, _, _, _⟩) rfl (.slice (some ⟨b, off, none⟩) l.length cap) w2 (exec_load_cell (o := ⟨some 11, _, _, _, _, _⟩) 25 (.tmp 10) rfl ⟨w.heap.size, 1, none⟩ rfl _ _ w2 Try.underlying25 rfl (show w2.cell? ⟨w.heap.size, 1, none⟩ = some (.slice (some ⟨b, off, none⟩) l.length cap) from H2.out.1.cell 1)) ?_)) | (at_make; refine wpList_make_full _ rfl _ _ 84 rfl w2.heap.size 4 ibo _ 1 Try.underlying84 HK.out.1 HK.out.2.1 HK.out.2.2.1 _ _ _ _ l.length rfl rfl ?hC ?hC2 ?hB ?hM ?hZ ?_))
  case hC => rfl
  case hC2 => rfl
  case hB => have := HK.out.2.2.2; rw [this]; omega
  case hM => simp only [maxLen]; omega
  case hZ => exact Nat.le_refl _
  intro w3 own3 gr3
  have hb3 : Below w2.heap.size w2 w3 := (Below.refl _ w2).grown gr3 (Nat.le_refl _) (fun k hk => by cases hk)
  rw [made_bools] at own3
  have hk3 := own_blk1 own3
  have H3 := hide (And.intro (H2.out.1.below hb3 H2.out.1.lt) (And.intro (H2.out.2.1.below hb3 H2.out.2.1.lt) (And.intro (H2.out.2.2.1.trans (Below.mono hb3 H2.out.2.2.1.size)) (And.intro hk3 (And.intro hk3.lt H2.out.2.2.2)))))
  clear own3 gr3 hb3 hk3
  go_wp2_with (first | go_step3 | ((with_reducible refine at_slot 5 ?_); (refine wpList_newZ (o := ⟨some 5, _, _, _, _, _⟩) rfl 84 #[.slice none 0 0] (by kernel_rfl) ?_); intro w4 hn; have H4 := hide (And.intro (H3.out.1.below hn.below H3.out.1.lt) (And.intro (H3.out.2.1.below hn.below H3.out.2.1.lt) (And.intro (H3.out.2.2.1.trans (Below.mono hn.below H3.out.2.2.1.size)) (And.intro (H3.out.2.2.2.1.below hn.below H3.out.2.2.2.1.lt) (And.intro hn.blk hn.size))))); clear hn; simp only [Act.put, List.setIfInBounds_toArray, List.set_cons_zero, List.set_cons_succ]) | ((with_reducible refine at_store 5 13 ?_); (refine wpList_store1 (o := ⟨none, _, _, _, _, _⟩) rfl 84 (.tmp 5) (.tmp 13) rfl w3.heap.size (0) 84 #[.slice none 0 0] H4.out.2.2.2.2.1 (by decide) (by kernel_rfl) (.slice (some ⟨w2.heap.size, 0, none⟩) l.length l.length) rfl rfl rfl ?_); intro w5 hk hg hz; have h4z : w3.heap.size < w4.heap.size := (by have := H4.out.2.2.2.2.2; omega); have hst : NSt w mb b off cap l c w1.heap.size w2.heap.size w3.heap.size (List.replicate l.length false) w5 := ⟨(hg.block _ H4.out.1.lt (fun e => (by have := Option.some.inj e; have := H2.out.2.2.2.1; have := H2.out.2.2.2.2; have := H3.out.2.2.2.2.1; omega))).trans H4.out.1, (hg.block _ H4.out.2.1.lt (fun e => (by have := Option.some.inj e; have := H2.out.2.2.2.1; have := H2.out.2.2.2.2; have := H3.out.2.2.2.2.1; omega))).trans H4.out.2.1, (hg.block _ H4.out.2.2.2.1.lt (fun e => (by have := Option.some.inj e; have := H2.out.2.2.2.1; have := H2.out.2.2.2.2; have := H3.out.2.2.2.2.1; omega))).trans H4.out.2.2.2.1, hk, (HM.out.1.below (H4.out.2.2.1.grown hg H4.out.2.2.1.size (fun k e => (by have := Option.some.inj e; have := H2.out.2.2.2.1; have := H2.out.2.2.2.2; have := H3.out.2.2.2.2.1; omega))) HM.out.1.lt), (H4.out.2.2.1.grown hg H4.out.2.2.1.size (fun k e => (by have := Option.some.inj e; have := H2.out.2.2.2.1; have := H2.out.2.2.2.2; have := H3.out.2.2.2.2.1; omega))), List.length_replicate, HM.out.1.lt, HE.out.2.1, (by have := H2.out.2.2.2.1; omega), (by have := H2.out.2.2.2.2; omega), H3.out.2.2.2.2.1⟩; have H5 := hide hst; clear hk hg hz hst h4z; simp only [Act.put, List.setIfInBounds_toArray, List.set_cons_zero, List.set_cons_succ]))
  refine Fre.wp_made (X := Bel) 6 [] (by kernel_rfl) (by kernel_rfl) (by simp) (by simp) (by simp) ?_
  simp only [List.take_succ_cons, List.take_zero, List.drop_succ_cons, List.drop_zero]
  refine Fre.made_val (.slice (some ⟨w2.heap.size, 0, none⟩) l.length l.length) (by kernel_rfl) (by kernel_rfl) (by kernel_rfl) (fun W9 hW9 => exec_load_cell (o := ⟨some 14, _, _, _, _, _⟩) 84 (.tmp 5) rfl ⟨w3.heap.size, 0, none⟩ rfl _ _ W9 Try.underlying84 rfl (((H5.out.grow hW9).box).cell 0)) ?_
  simp only [Act.put, List.setIfInBounds_toArray, List.set_cons_zero, List.set_cons_succ]
  refine Fre.made_val (.pointer (some ⟨w.heap.size, 0, none⟩)) (by kernel_rfl) (by kernel_rfl) (by kernel_rfl) (fun _ _ => by kernel_rfl) ?_
  simp only [Act.put, List.setIfInBounds_toArray, List.set_cons_zero, List.set_cons_succ]
  refine Fre.made_val (.map (some mb)) (by kernel_rfl) (by kernel_rfl) (by kernel_rfl) (fun W9 hW9 => exec_load_cell (o := ⟨some 16, _, _, _, _, _⟩) 77 (.tmp 15) rfl ⟨w.heap.size, 0, none⟩ rfl _ _ W9 Try.underlying77 rfl (((H5.out.grow hW9).tbl).cell 0)) ?_
  simp only [Act.put, List.setIfInBounds_toArray, List.set_cons_zero, List.set_cons_succ]
  refine Fre.made_val (.agg (bv c).toArray) (by kernel_rfl) (by kernel_rfl) (by kernel_rfl) (fun W9 hW9 => exec_load_blk (o := ⟨some 17, _, _, _, _, _⟩) 27 (.tmp 3) rfl w1.heap.size rfl 27 _ _ W9 ((H5.out.grow hW9).cls) Try.underlying27 rfl hszc) ?_
  simp only [Act.put, List.setIfInBounds_toArray, List.set_cons_zero, List.set_cons_succ]
  refine Fre.made_val (.int .i64 (m : Int)) (by kernel_rfl) (by kernel_rfl) (by kernel_rfl) (fun W9 hW9 => look_at ((H5.out.grow hW9).map_) hc HM.out.2 (.tmp 16) (.tmp 17) rfl rfl rfl) ?_
  simp only [Act.put, List.setIfInBounds_toArray, List.set_cons_zero, List.set_cons_succ]
  refine Fre.made_val (.pointer (some ⟨w2.heap.size, m, none⟩)) (by kernel_rfl) (by kernel_rfl) (by kernel_rfl) (fun W9 hW9 => exec_idx1 84 4 (.tmp 14) (.tmp 18) rfl w2.heap.size l.length l.length m rfl rfl hml Try.underlying84 (by kernel_rfl) W9) ?_
  simp only [Act.put, List.setIfInBounds_toArray, List.set_cons_zero, List.set_cons_succ]
  intro w6 hx6
  have H6 := hide (H5.out.grow hx6)
  clear hx6
  dsimp only [Fre.ended, List.drop]
  go_wp2_with (first | go_step3 | ((with_reducible refine at_storeC 19 ?_); (refine wpList_store1 (o := ⟨none, _, _, _, _, _⟩) rfl 4 (.tmp 19) (.const (.bool true)) rfl w2.heap.size (m) 4 ((List.replicate l.length false).map Value.bool).toArray H6.out.need (by simp; exact hml) (by kernel_rfl) (.bool true) rfl rfl rfl ?_); intro w7 hk hg hz; have H7 := hide (H6.out.set m hk hg); clear hk hg hz; simp only [Act.put, List.setIfInBounds_toArray, List.set_cons_zero, List.set_cons_succ]))
  refine Fre.wp_made (X := Bel) 5 [] (by kernel_rfl) (by kernel_rfl) (by simp) (by simp) (by simp) ?_
  simp only [List.take_succ_cons, List.take_zero, List.drop_succ_cons, List.drop_zero]
  refine Fre.made_val (.agg #[.map (some mb), .slice (some ⟨b, off, none⟩) l.length cap]) (by kernel_rfl) (by kernel_rfl) (by kernel_rfl) (fun W9 hW9 => exec_load_blk (o := ⟨some 20, _, _, _, _, _⟩) 79 (.tmp 2) rfl w.heap.size rfl 79 _ _ W9 ((H7.out.grow hW9).tbl) Try.underlying79 rfl (by kernel_rfl)) ?_
  simp only [Act.put, List.setIfInBounds_toArray, List.set_cons_zero, List.set_cons_succ]
  refine Fre.made_val (.pointer (some ⟨w.heap.size, 0, none⟩)) (by kernel_rfl) (by kernel_rfl) (by kernel_rfl) (fun _ _ => by kernel_rfl) ?_
  simp only [Act.put, List.setIfInBounds_toArray, List.set_cons_zero, List.set_cons_succ]
  refine Fre.made_val (.map (some mb)) (by kernel_rfl) (by kernel_rfl) (by kernel_rfl) (fun W9 hW9 => exec_load_cell (o := ⟨some 22, _, _, _, _, _⟩) 77 (.tmp 21) rfl ⟨w.heap.size, 0, none⟩ rfl _ _ W9 Try.underlying77 rfl (((H7.out.grow hW9).tbl).cell 0)) ?_
  simp only [Act.put, List.setIfInBounds_toArray, List.set_cons_zero, List.set_cons_succ]
  refine Fre.made_val (.agg (bv c).toArray) (by kernel_rfl) (by kernel_rfl) (by kernel_rfl) (fun W9 hW9 => exec_load_blk (o := ⟨some 23, _, _, _, _, _⟩) 27 (.tmp 3) rfl w1.heap.size rfl 27 _ _ W9 ((H7.out.grow hW9).cls) Try.underlying27 rfl hszc) ?_
  simp only [Act.put, List.setIfInBounds_toArray, List.set_cons_zero, List.set_cons_succ]
  refine Fre.made_val (.int .i64 (m : Int)) (by kernel_rfl) (by kernel_rfl) (by kernel_rfl) (fun W9 hW9 => look_at ((H7.out.grow hW9).map_) hc HM.out.2 (.tmp 22) (.tmp 23) rfl rfl rfl) ?_
  simp only [Act.put, List.setIfInBounds_toArray, List.set_cons_zero, List.set_cons_succ]
  intro w8 hx8
  have H8 := hide (H7.out.grow hx8)
  clear hx8
  dsimp only [Fre.ended, List.drop]
  go_wp2_with fail
  refine (back_any w8 _ _ _ rfl rfl).mono ?_
  rintro e w9 ⟨rfl, hbt, hbf, hb9⟩
  dsimp only
  have H9 := hide (And.intro (H8.out.grow hb9) (And.intro hbt (And.intro hbf hb9)))
  clear hbt hbf hb9
  go_wp2_with fail
  obtain ⟨cf, hcf⟩ := elems_fun HE.out.1
  have hlen9 : ∀ j, j < l.length → (cf j).length = 23 := fun j hj => itmLay.len (hcf j _ (List.getElem?_eq_getElem hj)).2
  have hcs9 : ∀ j, j < l.length → w9.rangeAt b (off + j * 23) (cf j) := fun j hj => rangeAt_same (hcf j _ (List.getElem?_eq_getElem hj)).1 (H9.out.1.below.block b HE.out.2.1)
  have HCF := hide hcf
  have hmlen : l.length ≤ maxLen := by simp only [maxLen]; omega
  have hz9 : w8.heap.size + 1 < w9.heap.size := H9.out.2.2.1.lt
  have hzb : b < w9.heap.size := by have := H9.out.1.below.size; have := HE.out.2.1; omega
  have hz8 : w3.heap.size < w8.heap.size := H8.out.box.lt
  have hlo := H9.out.1.lo
  refine (wpIn_wide (n := 5)).1 ?_
  refine wpIn_rangeFunc_ownH (F := Fence.wide) (n := 5) (α := Nat) rfl (by omega) (gf := 61) (lb := #[.pointer (some ⟨w8.heap.size + 1, 0, none⟩), .pointer (some ⟨w8.heap.size, 0, none⟩)]) rfl trivial (enters_of Try.func61 (by kernel_rfl) rfl)
    (back_stops (S := fun k => k = w2.heap.size) 4 (by omega) (w8.heap.size + 1) w8.heap.size m l.length cap b off cf hml hmlen hlen9 w9 hzb hz9 (by omega) (by omega) (by omega) (by omega) (H9.out.2.2.1.cell 0) (H9.out.2.1.cell 1) hcs9) KeepsS.trans (KeepsS.putObj (Nat.le_refl _)) (Below.refl _ _) (fun _ => rfl)
    (fun pre W => NSt w mb b off cap l c w1.heap.size w2.heap.size w3.heap.size (pre.foldl (mkStep (l.map itP) m) ((List.replicate l.length false).set m true)) W) (fun _ _ _ => False) (fun pre X Y row hs hg hr => hs.own H9.out.1.below.size hg hr) (fun c pre X Y row hs hg hr => hs) H9.out.1
    (fun x a' W => ∃ Bx, Blk W Bx 43 (cf (m - x)).toArray ∧ a' = { tmps := #[.agg #[.map (some mb), .slice (some ⟨b, off, none⟩) l.length cap], .agg (bv c).toArray, .pointer (some ⟨w.heap.size, 0, none⟩), .pointer (some ⟨w1.heap.size, 0, none⟩), .slice none 0 0, .pointer (some ⟨w3.heap.size, 0, none⟩), .int .i64 ((m - x : Nat) : Int), .pointer (some ⟨Bx, 0, none⟩), undef, undef, .pointer (some ⟨w.heap.size, 1, none⟩), .slice (some ⟨b, off, none⟩) l.length cap, .int .i64 (l.length : Int), .slice (some ⟨w2.heap.size, 0, none⟩) l.length l.length, .slice (some ⟨w2.heap.size, 0, none⟩) l.length l.length, .pointer (some ⟨w.heap.size, 0, none⟩), .map (some mb), .agg (bv c).toArray, .int .i64 (m : Int), .pointer (some ⟨w2.heap.size, m, none⟩), .agg #[.map (some mb), .slice (some ⟨b, off, none⟩) l.length cap], .pointer (some ⟨w.heap.size, 0, none⟩), .map (some mb), .agg (bv c).toArray, .int .i64 (m : Int), .func (.func 61) #[] #[.pointer (some ⟨w8.heap.size + 1, 0, none⟩), .pointer (some ⟨w8.heap.size, 0, none⟩)], .int .i64 ((m - x : Nat) : Int), .agg (cf (m - x)).toArray, undef, undef, undef, undef, undef, undef, undef, undef, undef, undef, undef, undef, undef, undef, undef, undef, undef, undef, undef, undef, undef], defers := [] })
    (fun x a' _ X Y row hs hg hr => by obtain ⟨Bx, h2, h3⟩ := hs; exact ⟨Bx, blk_kept h2 hg (fun r e => (hr r e).2), h3⟩) ?assign ?body ?done ?stop
  case assign =>
    intro l0 pre x W K hi hK
    obtain ⟨n, hn⟩ : ∃ n, n = m - x := ⟨_, rfl⟩
    rw [← hn] at hK ⊢
    have hn2 : n < l.length := by omega
    have hsz9 := hlen9 n hn2
    have hszt2 : (Try.prog.info? 43).map (·.size) = some (cf n).toArray.size := by rw [List.size_toArray, hsz9]; kernel_rfl
    have hszzt : zcT.size = (cf n).toArray.size := by rw [show (cf n).toArray.size = 23 by rw [List.size_toArray]; exact hsz9]; kernel_rfl
    have hone9 : (cf n).toArray.all (·.oneCell') = true := all_oneCell_toArray (itmLay.one (HCF.out n _ (List.getElem?_eq_getElem hn2)).2)
    have HIW := hide hi
    have HHK := hide hK
    have HN := hide hn
    clear hi hK hsz9 hn hcs9
    dsimp only
    gi_wp2_with (refine list_in (fun h9 => (by obtain ⟨_, _, h9⟩ := h9; exact h9)) _ (by rfl) _ _ ?_; go_wp2_with (first | ((with_reducible refine at_slot 7 ?_); (refine wpList_newZ (o := ⟨some 7, _, _, _, _, _⟩) rfl 43 zcT (by kernel_rfl) ?_); intro wa hn; have HA1 := hide hn; clear hn; simp only [Act.put, List.setIfInBounds_toArray, List.set_cons_zero, List.set_cons_succ]) | ((with_reducible refine at_store 7 27 ?_); (with_reducible refine wpList_store_blkA (o := ⟨none, _, _, _, _, _⟩) rfl 43 (.tmp 7) (.tmp 27) rfl W.heap.size zcT (cf n).toArray 43 HA1.out.blk ?_ ?_ ?_ ?_ ?_ ?_); exact hszt2; exact hszzt; exact hone9; rfl; rfl; intro w7 hk7 hg7; have HB1 := hide (And.intro hk7 (HA1.out.below.grown hg7 (by have := HA1.out.size; omega) (fun b hb => (by have := Option.some.inj hb; omega)))); clear hk7 hg7; simp only [Act.put, List.setIfInBounds_toArray, List.set_cons_zero, List.set_cons_succ])))
    exact HHK.out _ _ (KeepsFrom.of_below9 HB1.out.2) (KeepsS.below HB1.out.2) (HIW.out.grow HB1.out.2) ⟨W.heap.size, HB1.out.1, rfl⟩
  case body =>
    rintro l0 pre x a' W hl0 _ hst ⟨Bx, hbx, rfl⟩ hlen2
    obtain ⟨n, hn⟩ : ∃ n, n = m - x := ⟨_, rfl⟩
    have hn2 : n < l.length := by omega
    have hnx : (pre ++ [x]).foldl (mkStep (l.map itP) m) ((List.replicate l.length false).set m true) = mkStep (l.map itP) m (pre.foldl (mkStep (l.map itP) m) ((List.replicate l.length false).set m true)) x := by rw [List.foldl_append]; rfl
    obtain ⟨mk, hmk⟩ : ∃ mk, mk = (pre.foldl (mkStep (l.map itP) m) ((List.replicate l.length false).set m true)) := ⟨_, rfl⟩
    rw [← hmk] at hst hnx
    rw [← hn] at hbx ⊢
    have hmlen2 : n < mk.length := by rw [hst.len]; exact hn2
    obtain ⟨y, hy⟩ : ∃ y, l[n]? = some y := ⟨_, List.getElem?_eq_getElem hn2⟩
    have hcfn := (HCF.out n y hy).2
    obtain ⟨q1, q2, hcfe, hyo, hyd⟩ := itmLay_at.1 hcfn
    rw [hcfe] at hbx ⊢
    have hybnd := hl y (List.mem_of_getElem? hy)
    have HX := hide (And.intro hbx (And.intro hyo (And.intro hyd (And.intro hy (And.intro hn hnx)))))
    have HST := hide hst
    clear hbx hyo hyd hy hn hnx hst hcfn hcfe hmk hcs9
    dsimp only
    cases hmn : mk[n]?.getD false
    · have hmn2 : mk[n]? = some false := by rw [List.getElem?_eq_getElem hmlen2] at hmn ⊢; exact congrArg some hmn
      have HMN := hide (bools_at HST.out.need hmn2)
      have hms : mkStep (l.map itP) m mk x = mk := by unfold mkStep; rw [← HX.out.2.2.2.2.1, hmn]; rfl
      have HMS := hide hms
      clear hmn hmn2 hms
      gi_wp2_with (refine list_in (fun h9 => (by obtain ⟨_, _, h9⟩ := h9; exact h9)) _ (by rfl) _ _ ?_; go_wp2_with (first | ((with_reducible refine at_slot 28 ?_); (refine wpList_value (o := ⟨some 28, _, _, _, _, _⟩) rfl (.slice (some ⟨w2.heap.size, 0, none⟩) l.length l.length) W (exec_load_cell (o := ⟨some 28, _, _, _, _, _⟩) 84 (.tmp 5) rfl ⟨w3.heap.size, 0, none⟩ rfl _ _ W Try.underlying84 rfl (show W.cell? ⟨w3.heap.size, 0, none⟩ = some (.slice (some ⟨w2.heap.size, 0, none⟩) l.length l.length) from HST.out.box.cell 0)) ?_)) | ((with_reducible refine at_slot 30 ?_); (refine wpList_value (o := ⟨some 30, _, _, _, _, _⟩) rfl (.pointer (some ⟨w2.heap.size, n, none⟩)) W (exec_idx1 84 4 (.tmp 28) (.tmp 29) rfl w2.heap.size l.length l.length n rfl rfl hn2 Try.underlying84 (by kernel_rfl) W) ?_)) | ((with_reducible refine at_slot 31 ?_); (refine wpList_value (o := ⟨some 31, _, _, _, _, _⟩) rfl (.bool false) W (exec_load_cell (o := ⟨some 31, _, _, _, _, _⟩) 4 (.tmp 30) rfl ⟨w2.heap.size, n, none⟩ rfl _ _ W Try.underlying4 rfl (show W.cell? ⟨w2.heap.size, n, none⟩ = some (.bool false) from HMN.out)) ?_))))
      refine ⟨KeepsFrom.refl _ _, KeepsS.refl _, ?_⟩
      show NSt w mb b off cap l c w1.heap.size w2.heap.size w3.heap.size _ W
      rw [HX.out.2.2.2.2.2, HMS.out]
      exact HST.out
    · have hmn2 : mk[n]? = some true := by rw [List.getElem?_eq_getElem hmlen2] at hmn ⊢; exact congrArg some hmn
      have HMN := hide (bools_at HST.out.need hmn2)
      have hms : mkStep (l.map itP) m mk x = Dr.mset (Dr.css (l.map itP)) (clsP y.2.2.1) mk := by unfold mkStep; rw [← HX.out.2.2.2.2.1, hmn, insAt_it HX.out.2.2.2.1]; rfl
      have HMS := hide hms
      clear hmn hmn2 hms
      have hyat : DrvAt W W.heap.size y.2 q1 q2 := HX.out.2.2.1.alike9 HST.out.below
      have hyd9 := hyat.okn
      gi_wp2_with (first | (refine list_in (fun h9 => (by obtain ⟨_, _, h9⟩ := h9; exact h9)) _ (by rfl) _ _ ?_; go_wp2_with (first | ((with_reducible refine at_slot 28 ?_); (refine wpList_value (o := ⟨some 28, _, _, _, _, _⟩) rfl (.slice (some ⟨w2.heap.size, 0, none⟩) l.length l.length) W (exec_load_cell (o := ⟨some 28, _, _, _, _, _⟩) 84 (.tmp 5) rfl ⟨w3.heap.size, 0, none⟩ rfl _ _ W Try.underlying84 rfl (show W.cell? ⟨w3.heap.size, 0, none⟩ = some (.slice (some ⟨w2.heap.size, 0, none⟩) l.length l.length) from HST.out.box.cell 0)) ?_)) | ((with_reducible refine at_slot 30 ?_); (refine wpList_value (o := ⟨some 30, _, _, _, _, _⟩) rfl (.pointer (some ⟨w2.heap.size, n, none⟩)) W (exec_idx1 84 4 (.tmp 28) (.tmp 29) rfl w2.heap.size l.length l.length n rfl rfl hn2 Try.underlying84 (by kernel_rfl) W) ?_)) | ((with_reducible refine at_slot 31 ?_); (refine wpList_value (o := ⟨some 31, _, _, _, _, _⟩) rfl (.bool true) W (exec_load_cell (o := ⟨some 31, _, _, _, _, _⟩) 4 (.tmp 30) rfl ⟨w2.heap.size, n, none⟩ rfl _ _ W Try.underlying4 rfl (show W.cell? ⟨w2.heap.size, n, none⟩ = some (.bool true) from HMN.out)) ?_)) | ((with_reducible refine at_slot 34 ?_); (refine wpList_value (o := ⟨some 34, _, _, _, _, _⟩) rfl (.agg (dC y.2 q1 q2).toArray) W (exec_load_mid (o := ⟨some 34, _, _, _, _, _⟩) 34 (.tmp 33) rfl Bx (20) rfl (dC y.2 q1 q2) _ W (item_drv HX.out.2.1 HX.out.1) Try.underlying34 rfl (by kernel_rfl)) ?_)) | ((go_at_call 34; refine (classes_any W y.2 q1 q2 hyat hybnd).mono ?_); rintro e wc ⟨uc, rfl, hoc, hbc⟩; have HC := hide (And.intro hoc hbc); clear hoc hbc; obtain ⟨Ac, cc, rfl⟩ := own_form9 HC.out.1; dsimp only))))
      obtain ⟨N, hN⟩ : ∃ N, N = (clsP y.2.2.1).length := ⟨_, rfl⟩
      rw [← hN] at HC ⊢
      have hcok := cls_ok hyd9
      have hN9 : (N : Int) ≤ 1000000 := by have := clsP_len y.2.2.1 y.2.2.1.length; rw [List.take_length] at this; omega
      have hins := ins_known HE.out.2.2 HX.out.2.2.2.1
      have HCO := hide (And.intro hcok (And.intro hN hins))
      clear hcok hN hins hyd9
      gi_loopw [37] (fun x37 wr => ∃ k : Nat, k ≤ N ∧ x37 = .int .i64 (k : Int) ∧ NSt w mb b off cap l c w1.heap.size w2.heap.size w3.heap.size (Dr.mset (Dr.css (l.map itP)) ((clsP y.2.2.1).take k) mk) wr ∧ OnlyT w2.heap.size W wr ∧ wr.ownsRow W.heap.size 27 20 (.slice Ac N cc) N ((clsP y.2.2.1).flatMap bv)) (fun x37 _ => N - (intOf x37).toNat)
      case atStart => exact ⟨0, by omega, rfl, HST.out.grow HC.out.2, OnlyT.of_below HC.out.2, HC.out.1⟩
      case round =>
        obtain ⟨wi, rfl⟩ : ∃ wi, wi = wr := ⟨_, rfl⟩
        obtain ⟨k, hk, rfl, hst, hot, hown⟩ := hrel
        have HI := hide (And.intro hst (And.intro hot hown))
        clear hst hot hown
        have k0 : (0 : Int) ≤ (k : Int) := by omega
        by_cases hk2 : k < N
        · have k1 : (k : Int) < (N : Int) := by omega
          obtain ⟨z, hz⟩ : ∃ z, (clsP y.2.2.1)[k]? = some z := ⟨_, List.getElem?_eq_getElem (by rw [← HCO.out.2.1]; exact hk2)⟩
          have hzo := HCO.out.1 z (List.mem_of_getElem? hz)
          obtain ⟨g5, cap5, he5⟩ := owned_placeN HI.out.2.2 (by omega)
          injection he5 with e51 _ e53
          subst e51 e53
          have hrz : wi.rangeAt g5 (k * 20) (bv z) := own_range HI.out.2.2 (k * 20) 20 _ (flat_hash HCO.out.1 hz)
          have HRZ := hide hrz
          have hszx2 := hszD hzo
          have hszx : (Try.prog.info? 27).map (·.size) = some (bv z).length := by simpa using hszx2
          have hszz : zcH.size = (bv z).toArray.size := by rw [show (bv z).toArray.size = 20 by rw [List.size_toArray, bvL]; exact hzo]; kernel_rfl
          have hone : (bv z).toArray.all (·.oneCell') = true := all_oneCell_toArray (bv1 z)
          have hzk := HCO.out.2.2 z (List.mem_of_getElem? hz)
          have hpz := posD_lt hzk
          have hgz := kmap_get HE.out.2.2 hzk
          obtain ⟨p, hp⟩ : ∃ p, p = posD (l.map itP) z := ⟨_, rfl⟩
          rw [List.length_map] at hpz
          rw [← hp] at hpz hgz
          have HZ := hide (And.intro hz (And.intro hzo (And.intro hp hgz)))
          clear hz hzo hp hgz hzk hrz
          gi_wp2_with (first | (refine list_in (fun h9 => (by obtain ⟨_, _, h9⟩ := h9; exact h9)) _ (by rfl) _ _ ?_; go_wp2_with (first | ((with_reducible refine at_slot 39 ?_); (refine wpList_value (o := ⟨some 39, _, _, _, _, _⟩) rfl (.pointer (some ⟨g5, k * 20, none⟩)) wi (exec_idx0 45 27 (.tmp 35) (.tmp 37) rfl g5 N cc k rfl rfl hk2 20 Try.underlying45 sz_hash wi) ?_)) | ((with_reducible refine at_slot 40 ?_); (refine wpList_value (o := ⟨some 40, _, _, _, _, _⟩) rfl (.agg (bv z).toArray) wi (exec_load_mid (o := ⟨some 40, _, _, _, _, _⟩) 27 (.tmp 39) rfl g5 (k * 20) rfl (bv z) _ wi HRZ.out Try.underlying27 rfl hszx) ?_)) | ((with_reducible refine at_slot 9 ?_); ((with_reducible refine wpList_box (o1 := ⟨some 9, _, _, _, _, _⟩) (o2 := ⟨none, _, _, _, _, _⟩) rfl rfl 27 (.tmp 9) (.tmp 40) ?_ zcH (bv z).toArray ?_ hszx2 ?_ hone ?_ ?_ ?_); rfl; kernel_rfl; exact hszz; rfl; rfl; intro wb hmm hbb; have HB := hide (And.intro hmm hbb); clear hmm hbb; simp only [Act.put, List.setIfInBounds_toArray, List.set_cons_zero, List.set_cons_succ])))))
          have HJ := hide (HI.out.1.grow HB.out.2)
          refine draws_in (by kernel_rfl) (fun h9 => (by obtain ⟨_, _, h9⟩ := h9; exact h9)) (by rfl) ?_
          refine Fre.wp_made_any (X := Bel) 6 [] (by kernel_rfl) (by kernel_rfl) (by simp) (by simp) (by simp) ?_
          simp only [List.take_succ_cons, List.take_zero, List.drop_succ_cons, List.drop_zero]
          refine Fre.made_val (.slice (some ⟨w2.heap.size, 0, none⟩) l.length l.length) (by kernel_rfl) (by kernel_rfl) (by kernel_rfl) (fun W9 hW9 => exec_load_cell (o := ⟨some 41, _, _, _, _, _⟩) 84 (.tmp 5) rfl ⟨w3.heap.size, 0, none⟩ rfl _ _ W9 Try.underlying84 rfl (((HJ.out.grow hW9).box).cell 0)) ?_
          simp only [Act.put, List.setIfInBounds_toArray, List.set_cons_zero, List.set_cons_succ]
          refine Fre.made_val (.pointer (some ⟨w.heap.size, 0, none⟩)) (by kernel_rfl) (by kernel_rfl) (by kernel_rfl) (fun _ _ => by kernel_rfl) ?_
          simp only [Act.put, List.setIfInBounds_toArray, List.set_cons_zero, List.set_cons_succ]
          refine Fre.made_val (.map (some mb)) (by kernel_rfl) (by kernel_rfl) (by kernel_rfl) (fun W9 hW9 => exec_load_cell (o := ⟨some 43, _, _, _, _, _⟩) 77 (.tmp 42) rfl ⟨w.heap.size, 0, none⟩ rfl _ _ W9 Try.underlying77 rfl (((HJ.out.grow hW9).tbl).cell 0)) ?_
          simp only [Act.put, List.setIfInBounds_toArray, List.set_cons_zero, List.set_cons_succ]
          refine Fre.made_val (.agg (bv z).toArray) (by kernel_rfl) (by kernel_rfl) (by kernel_rfl) (fun W9 hW9 => exec_load_blk (o := ⟨some 44, _, _, _, _, _⟩) 27 (.tmp 9) rfl wi.heap.size rfl 27 _ _ W9 (HB.out.1.below hW9 HB.out.1.lt) Try.underlying27 rfl hszx2) ?_
          simp only [Act.put, List.setIfInBounds_toArray, List.set_cons_zero, List.set_cons_succ]
          refine Fre.made_val (.int .i64 (p : Int)) (by kernel_rfl) (by kernel_rfl) (by kernel_rfl) (fun W9 hW9 => look_at ((HJ.out.grow hW9).map_) HZ.out.2.1 HZ.out.2.2.2 (.tmp 43) (.tmp 44) rfl rfl rfl) ?_
          simp only [Act.put, List.setIfInBounds_toArray, List.set_cons_zero, List.set_cons_succ]
          refine Fre.made_val (.pointer (some ⟨w2.heap.size, p, none⟩)) (by kernel_rfl) (by kernel_rfl) (by kernel_rfl) (fun W9 hW9 => exec_idx1 84 4 (.tmp 41) (.tmp 45) rfl w2.heap.size l.length l.length p rfl rfl hpz Try.underlying84 (by kernel_rfl) W9) ?_
          simp only [Act.put, List.setIfInBounds_toArray, List.set_cons_zero, List.set_cons_succ]
          intro wd hxd
          have HD := hide (And.intro (HJ.out.grow hxd) (HB.out.2.trans (Below.mono hxd HB.out.2.size)))
          clear hxd
          dsimp only [Fre.ended, List.drop]
          go_wp2_with ((with_reducible refine at_storeC 46 ?_); (refine wpList_store1 (o := ⟨none, _, _, _, _, _⟩) rfl 4 (.tmp 46) (.const (.bool true)) rfl w2.heap.size (p) 4 ((Dr.mset (Dr.css (l.map itP)) ((clsP y.2.2.1).take k) mk).map Value.bool).toArray HD.out.1.need (by have := HD.out.1.len; simp; omega) (by kernel_rfl) (.bool true) rfl rfl rfl ?_); intro we hk hg hz; have HE9 := hide (And.intro (HD.out.1.set p hk hg) (OnlyT.of_grown hg)); clear hk hg hz; simp only [Act.put, List.setIfInBounds_toArray, List.set_cons_zero, List.set_cons_succ])
          have hsn : (Dr.mset (Dr.css (l.map itP)) ((clsP y.2.2.1).take k) mk).set p true = Dr.mset (Dr.css (l.map itP)) ((clsP y.2.2.1).take (k + 1)) mk := by rw [List.take_add_one, HZ.out.1, HZ.out.2.2.1]; exact (mset_snoc _ _ _ _).symm
          have HSN := hide hsn
          clear hsn
          gi_wp2_with fail
          go_roundw
          case rel => exact ⟨k + 1, by omega, by go_num, by rw [← HSN.out]; exact HE9.out.1, (HI.out.2.1.trans (OnlyT.of_below HD.out.2)).trans HE9.out.2, owned_keepN (owned_keepN HI.out.2.2 fun g _ hl => HD.out.2.block g hl) fun g hg hl => HE9.out.2.same g hl (fun e => by have := (owned_ltN HI.out.2.2 hg).1; have := HST.out.need.lt; omega)⟩
          case measure => simp [intOf]; omega
        · obtain rfl : k = N := by omega
          gi_wp2_with fail
          refine ⟨HI.out.2.1.from HST.out.need, HI.out.2.1.keepsS, ?_⟩
          show NSt w mb b off cap l c w1.heap.size w2.heap.size w3.heap.size _ wi
          rw [HX.out.2.2.2.2.2, HMS.out]
          have h9 := HI.out.1
          rw [HCO.out.2.1, List.take_length] at h9
          exact h9
  case done =>
    rintro D ys W hD rfl hst hK
    have hst2 := hst
    rw [show (List.range (m + 1)).foldl (mkStep (l.map itP) m) ((List.replicate l.length false).set m true) = Dr.needP (l.map itP) m by rw [show l.length = (l.map itP).length by rw [List.length_map]]; exact mkFold_need _ _] at hst2
    have HW := hide hst2
    clear hst hst2
    go_wp2_with (first | go_step3 | ((with_reducible refine at_slot 48 ?_); (refine wpList_value (o := ⟨some 48, _, _, _, _, _⟩) rfl (.slice (some ⟨w2.heap.size, 0, none⟩) l.length l.length) W (exec_load_cell (o := ⟨some 48, _, _, _, _, _⟩) 84 (.tmp 5) rfl ⟨w3.heap.size, 0, none⟩ rfl _ _ W Try.underlying84 rfl (show W.cell? ⟨w3.heap.size, 0, none⟩ = some (.slice (some ⟨w2.heap.size, 0, none⟩) l.length l.length) from HW.out.box.cell 0)) ?_)))
    refine fin_tmpD rfl rfl hK ⟨w2.heap.size, rfl, (grownBy_putObj' W D (.deferred none)).block _ HW.out.need.lt (fun e => by have := Option.some.inj e; omega) |>.trans HW.out.need, by omega, HW.out.below.grown (grownBy_putObj' W D (.deferred none)) HW.out.below.size (fun k e => by have := Option.some.inj e; have := H9.out.1.below.size; omega)⟩
  case stop =>
    rintro D c' pre W hD _ hf
    exact hf.elim
end Go.Proofs.Ytidiepbmbbflhaa
end
section
namespace Go.Proofs.Ytidiepbmbbflhaa
open Go Go.RowKit Go.Maps
set_option maxRecDepth 100000
theorem itms_alike {w w' : World} {v : Value} {l : List Itm} (h : itmsLay.At w w.heap.size [v] l) (hb : Below w.heap.size w w') : itmsLay.At w' w'.heap.size [v] l :=
  itmsLay.widen (itmsLay.alike h fun b hb9 => hb.block b hb9) hb.size
theorem outA_snoc {H : Type} : ∀ (l : List H) (b : List Bool) (k : Nat) (x : H) (v : Bool), l[k]? = some x → b[k]? = some v → Dr.outA (l.take (k + 1)) (b.take (k + 1)) = Dr.outA (l.take k) (b.take k) ++ (if v = true then [x] else [])
  | y :: l, u :: b, 0, x, v, h1, h2 => by
    injection h1 with h1
    injection h2 with h2
    subst h1 h2
    cases u <;> rfl
  | y :: l, u :: b, k + 1, x, v, h1, h2 => by
    have ih := outA_snoc l b k x v (by simpa using h1) (by simpa using h2)
    show Dr.outA (y :: l.take (k + 1)) (u :: b.take (k + 1)) = Dr.outA (y :: l.take k) (u :: b.take k) ++ _
    cases u
    · exact ih
    · exact congrArg (y :: ·) ih
  | [], _, k, x, v, h1, _ => by simp at h1
  | _ :: _, [], k, x, v, _, h2 => by simp at h2
/-- the error of Needs; what it tells -/
def needsE (l : List Itm) (c : Hsh) : Int := if Dr.rightP (l.map itP) = true then (if (mget (kmap l) c).isSome = true then 0 else 5) else 2
def needsL (l : List Itm) (c : Hsh) : List Hsh := if Dr.rightP (l.map itP) = true then (if (mget (kmap l) c).isSome = true then Dr.needsP (l.map itP) c else []) else []
theorem known_mem {l : List Itm} {c : Hsh} (h : (mget (kmap l) c).isSome = true) : c ∈ Dr.css (l.map itP) := by rw [← kmap_keys]; exact mem_keys.2 h
theorem known_not {l : List Itm} {c : Hsh} (h : (mget (kmap l) c).isSome = false) : c ∉ Dr.css (l.map itP) := fun hm => by
  rw [← kmap_keys] at hm
  rw [mem_keys.1 hm] at h
  cases h
theorem needsP_eq {l : List (Dr.It Hsh)} {c : Hsh} : Dr.needsP l c = Dr.outA (Dr.css l) (Dr.needP l (posD l c)) := rfl
theorem css_at {l : List Itm} {k : Nat} {x : Itm} (h : l[k]? = some x) : (Dr.css (l.map itP))[k]? = some x.1 := by
  unfold Dr.css
  rw [List.getElem?_map, List.getElem?_map, h]
  rfl
theorem css_len (l : List Itm) : (Dr.css (l.map itP)).length = l.length := by simp [Dr.css]
theorem right_any (w : World) (l : List Itm) (A : Option Addr) (cap : Nat) (h : itmsLay.At w w.heap.size [.slice A l.length cap] l) (hl : ∀ x ∈ l, x.2.2.1.length ≤ 1000000) :
    Calls Try.prog 24 #[.slice A l.length cap] w fun e w' => e = .returned (.bool (Dr.rightP (l.map itP))) ∧ Below w.heap.size w w' := by
  go_enter Try.func24, Try.ntmps24
  go_wp2_with fail
  refine (tabOf_any w l A cap h hl).mono ?_
  rintro e w2 ⟨mb, rfl, _, hb⟩
  dsimp only
  have H2 := hide hb
  clear hb
  go_wp2_with (first | ((with_reducible refine at_slot 3 ?_); (refine wpList_newZ (o := ⟨some 3, _, _, _, _, _⟩) rfl 79 #[.map none, .slice none 0 0] (by kernel_rfl) ?_); intro w3 hn; have H3 := hide hn; clear hn; simp only [Act.put, List.setIfInBounds_toArray, List.set_cons_zero, List.set_cons_succ]) | ((with_reducible refine at_store 3 8 ?_); (with_reducible refine wpList_store_blkA (o := ⟨none, _, _, _, _, _⟩) rfl 79 (.tmp 3) (.tmp 8) rfl w2.heap.size #[.map none, .slice none 0 0] #[.map (some mb), .slice A l.length cap] 79 H3.out.blk ?_ ?_ ?_ ?_ ?_ ?_); kernel_rfl; rfl; kernel_rfl; rfl; rfl; intro w4 hk4 hg4; have H4 := hide (H2.out.trans (Below.mono (H3.out.below.grown hg4 (by have := H3.out.size; omega) (fun b hb => (by have := Option.some.inj hb; omega))) H2.out.size)); clear hk4 hg4; simp only [Act.put, List.setIfInBounds_toArray, List.set_cons_zero, List.set_cons_succ]))
  go_ret
  exact ⟨rfl, H4.out⟩
theorem outA_le {H : Type} : ∀ (l : List H) (b : List Bool) (j : Nat), (Dr.outA (l.take j) (b.take j)).length ≤ j
  | _, _, 0 => by simp [Dr.outA]
  | [], _, j + 1 => by simp [Dr.outA]
  | x :: l, [], j + 1 => by simp [Dr.outA]
  | x :: l, true :: b, j + 1 => by
    have := outA_le l b j
    show (x :: Dr.outA (l.take j) (b.take j)).length ≤ _
    rw [List.length_cons]
    omega
  | x :: l, false :: b, j + 1 => by
    have := outA_le l b j
    show (Dr.outA (l.take j) (b.take j)).length ≤ _
    omega
theorem item_cls9 {x : Itm} {v1 v2 : Value} {w : World} {b o : Nat} (h : w.rangeAt b o (tC x v1 v2)) : w.rangeAt b o (bv x.1) := rangeAt_left (c2 := dC x.2 v1 v2) (by simpa [tC] using h)
set_option maxHeartbeats 8000000 in
theorem needs_any (w : World) (l : List Itm) (A : Option Addr) (cap : Nat) (h : itmsLay.At w w.heap.size [.slice A l.length cap] l) (hl : ∀ x ∈ l, x.2.2.1.length ≤ 1000000) (hlen : l.length ≤ 1000000) (c : Hsh) (hc : okH c) :
    Calls Try.prog 29 #[.slice A l.length cap, .agg (bv c).toArray] w fun e w' => ∃ u, e = .returned (.tuple #[u, .int .i64 (needsE l c)]) ∧ w'.ownsRow w.heap.size 27 20 u (needsL l c).length ((needsL l c).flatMap bv) ∧ Below w.heap.size w w' := by
  obtain ⟨ih, hih, hq0, hq1, hq2⟩ := info_parts info_hashI
  have HJ := hide (And.intro hih (And.intro hq0 (And.intro hq1 hq2)))
  clear hih hq0 hq1 hq2
  obtain ⟨A', cap', e, hcl, hcm9, _, hA⟩ := slice_open h
  injection e with e1 e2 e3
  subst e1 e3
  have k9 : (l.length : Int) ≤ 9223372036854775807 := by omega
  have hszc := hszD hc
  have HA := hide hA
  clear hA hcl hcm9 e2
  go_enter Try.func29, Try.ntmps29
  go_wp2_with (first | ((with_reducible refine at_slot 3 ?_); (refine wpList_boxA (o := ⟨some 3, _, _, _, _, _⟩) rfl 27 (.tmp 1) rfl (bv c).toArray rfl ?_); intro w1 hn; have H1 := hide hn; clear hn; simp only [Act.put, List.setIfInBounds_toArray, List.set_cons_zero, List.set_cons_succ]))
  refine (tabOf_any w1 l A cap (itms_alike h H1.out.below) hl).mono ?_
  rintro e w2 ⟨mb, rfl, hmap, hb⟩
  dsimp only
  have H2 := hide (And.intro (H1.out.blk.below hb H1.out.blk.lt) (And.intro (H1.out.below.trans (Below.mono hb H1.out.below.size)) hmap))
  clear hb hmap
  cases hR : Dr.rightP (l.map itP)
  · have HE : Hid (needsE l c = 2 ∧ needsL l c = []) := hide (by unfold needsE needsL; rw [hR]; exact ⟨rfl, rfl⟩)
    clear hR
    go_wp2_with (first | ((with_reducible refine at_slot 6 ?_); (refine wpList_newZ (o := ⟨some 6, _, _, _, _, _⟩) rfl 79 #[.map none, .slice none 0 0] (by kernel_rfl) ?_); intro w3 hn; have H3 := hide hn; clear hn; simp only [Act.put, List.setIfInBounds_toArray, List.set_cons_zero, List.set_cons_succ]) | ((with_reducible refine at_store 6 13 ?_); (with_reducible refine wpList_store_blkA (o := ⟨none, _, _, _, _, _⟩) rfl 79 (.tmp 6) (.tmp 13) rfl w2.heap.size #[.map none, .slice none 0 0] #[.map (some mb), .slice A l.length cap] 79 H3.out.blk ?_ ?_ ?_ ?_ ?_ ?_); kernel_rfl; rfl; kernel_rfl; rfl; rfl; intro w4 hk4 hg4; have h24 := H3.out.below.grown hg4 (by have := H3.out.size; omega) (fun b hb => (by have := Option.some.inj hb; omega)); have H4 := hide (And.intro hk4 (And.intro (H2.out.1.below h24 H2.out.1.lt) (And.intro (H2.out.2.1.trans (Below.mono h24 H2.out.2.1.size)) h24))); clear hk4 hg4 h24; simp only [Act.put, List.setIfInBounds_toArray, List.set_cons_zero, List.set_cons_succ]))
    refine bodyPost_ret (v := .tuple #[.slice none 0 0, .int .i64 2]) (by simp [results, Try.results29, go_sem]) rfl ?_
    refine ⟨_, by rw [HE.out.1], ?_, H4.out.2.2.1⟩
    rw [HE.out.2]
    exact World.ownsRow_nil _ _ _ _
  · have HRT := hide hR
    have hmk := (H2.out.2.2 hR).2
    have HMK := hide hmk
    clear hR hmk
    have hhc := hc
    go_wp2_with (first | ((with_reducible refine at_slot 6 ?_); (refine wpList_newZ (o := ⟨some 6, _, _, _, _, _⟩) rfl 79 #[.map none, .slice none 0 0] (by kernel_rfl) ?_); intro w3 hn; have H3 := hide hn; clear hn; simp only [Act.put, List.setIfInBounds_toArray, List.set_cons_zero, List.set_cons_succ]) | ((with_reducible refine at_store 6 13 ?_); (with_reducible refine wpList_store_blkA (o := ⟨none, _, _, _, _, _⟩) rfl 79 (.tmp 6) (.tmp 13) rfl w2.heap.size #[.map none, .slice none 0 0] #[.map (some mb), .slice A l.length cap] 79 H3.out.blk ?_ ?_ ?_ ?_ ?_ ?_); kernel_rfl; rfl; kernel_rfl; rfl; rfl; intro w4 hk4 hg4; have h24 := H3.out.below.grown hg4 (by have := H3.out.size; omega) (fun b hb => (by have := Option.some.inj hb; omega)); have H4 := hide (And.intro hk4 (And.intro (H2.out.1.below h24 H2.out.1.lt) (And.intro (H2.out.2.1.trans (Below.mono h24 H2.out.2.1.size)) h24))); clear hk4 hg4 h24; simp only [Act.put, List.setIfInBounds_toArray, List.set_cons_zero, List.set_cons_succ]) | ((with_reducible refine at_slot 18 ?_); (refine wpList_value (o := ⟨some 18, _, _, _, _, _⟩) rfl (.map (some mb)) w4 (exec_load_cell (o := ⟨some 18, _, _, _, _, _⟩) 77 (.tmp 17) rfl ⟨w2.heap.size, 0, none⟩ rfl _ _ w4 Try.underlying77 rfl (show w4.cell? ⟨w2.heap.size, 0, none⟩ = some (.map (some mb)) from H4.out.1.cell 0)) ?_)) | ((with_reducible refine at_slot 19 ?_); (refine wpList_value (o := ⟨some 19, _, _, _, _, _⟩) rfl (.agg ((bv c).toArray)) w4 (exec_load_blk (o := ⟨some 19, _, _, _, _, _⟩) 27 (.tmp 3) rfl w.heap.size rfl 27 _ _ w4 H4.out.2.1 Try.underlying27 rfl hszc) ?_)) | ((with_reducible refine at_slot 20 ?_); (refine wpList_row1 (o := ⟨some 20, _, _, _, _, _⟩) rfl 45 (.tmp 19) rfl 27 20 (.agg zcH) (.agg (bv c).toArray) rfl Try.underlying45 sz_hash (by decide) (by decide) (fun w => by kernel_rfl) (by rw [Value.cells, List.size_toArray, bvL]; exact hhc) ?_); intro w5 hn; have H5 := hide hn; clear hn; simp only [Act.put, List.setIfInBounds_toArray, List.set_cons_zero, List.set_cons_succ]))
    have hm5 : MapIs hV okH evN w5 mb (kmap l) := HMK.out.below (H4.out.2.2.2.trans (Below.mono H5.out.below H4.out.2.2.2.size)) HMK.out.lt
    have hone5 : OneH c (.slice (some ⟨w4.heap.size, 0, none⟩) 1 1) w5 := ⟨_, rfl, H5.out.blk⟩
    have hat5 := hone5.at_ hc
    have HM5 := hide hm5
    clear hm5 hone5
    refine (all_any w5 mb (kmap l) HM5.out [c] _ hat5).mono ?_
    rintro e w6 ⟨rfl, hb⟩
    rw [all_one]
    dsimp only
    have h46 := H5.out.below.trans (Below.mono hb H5.out.below.size)
    have H6 := hide (And.intro (H4.out.1.below h46 H4.out.1.lt) (And.intro (H4.out.2.1.below h46 H4.out.2.1.lt) (And.intro (H4.out.2.2.1.trans (Below.mono h46 H4.out.2.2.1.size)) (HM5.out.below hb HM5.out.lt))))
    clear hb h46 hat5
    cases hK : (mget (kmap l) c).isSome
    · have HE : Hid (needsE l c = 5 ∧ needsL l c = []) := hide (by unfold needsE needsL; rw [HRT.out, hK]; exact ⟨rfl, rfl⟩)
      clear hK
      go_wp2_with fail
      refine bodyPost_ret (v := .tuple #[.slice none 0 0, .int .i64 5]) (by simp [results, Try.results29, go_sem]) rfl ?_
      refine ⟨_, by rw [HE.out.1], ?_, H6.out.2.2.1⟩
      rw [HE.out.2]
      exact World.ownsRow_nil _ _ _ _
    · have HE : Hid (needsE l c = 0 ∧ needsL l c = Dr.needsP (l.map itP) c) := hide (by unfold needsE needsL; rw [HRT.out, hK]; exact ⟨rfl, rfl⟩)
      have HCM := hide (known_mem hK)
      clear hK
      go_wp2_with (first | ((with_reducible refine at_slot 23 ?_); (refine wpList_value (o := ⟨some 23, _, _, _, _, _⟩) rfl (.agg (#[.map (some mb), .slice A l.length cap])) w6 (exec_load_blk (o := ⟨some 23, _, _, _, _, _⟩) 79 (.tmp 6) rfl w2.heap.size rfl 79 _ _ w6 H6.out.1 Try.underlying79 rfl (by kernel_rfl)) ?_)) | ((with_reducible refine at_slot 24 ?_); (refine wpList_value (o := ⟨some 24, _, _, _, _, _⟩) rfl (.agg ((bv c).toArray)) w6 (exec_load_blk (o := ⟨some 24, _, _, _, _, _⟩) 27 (.tmp 3) rfl w.heap.size rfl 27 _ _ w6 H6.out.2.1 Try.underlying27 rfl hszc) ?_)))
      refine (needed_any w6 l mb A cap (itms_alike h H6.out.2.2.1) hl hlen ((Dr.rightP_iff _).1 HRT.out) H6.out.2.2.2 c hc HCM.out).mono ?_
      rintro e w7 ⟨gn, rfl, hkn, hgn, hb⟩
      dsimp only
      have hnl : (Dr.needP (l.map itP) (posD (l.map itP) c)).length = l.length := by rw [Dr.needP_len, List.length_map]
      have H7 := hide (And.intro hkn (And.intro (H6.out.2.2.1.trans (Below.mono hb H6.out.2.2.1.size)) (Nat.le_trans H6.out.2.2.1.size hgn)))
      have HNL := hide hnl
      clear hkn hgn hb hnl
      go_wp2_with fail
      go_loopw [4, 27] (fun x4 x27 wr => ∃ (j : Nat) (u : Value), j ≤ l.length ∧ u = x4 ∧ x27 = .int .i64 (j : Int) ∧ Blk wr gn 4 ((Dr.needP (l.map itP) (posD (l.map itP) c)).map Value.bool).toArray ∧ wr.ownsRow w.heap.size 27 20 u (Dr.outA ((Dr.css (l.map itP)).take j) ((Dr.needP (l.map itP) (posD (l.map itP) c)).take j)).length ((Dr.outA ((Dr.css (l.map itP)).take j) ((Dr.needP (l.map itP) (posD (l.map itP) c)).take j)).flatMap bv) ∧ Below w.heap.size w wr) (fun _ x27 _ => l.length - (intOf x27).toNat)
      case atStart => exact ⟨0, _, by omega, rfl, rfl, H7.out.1, World.ownsRow_nil _ _ _ _, H7.out.2.1⟩
      case round =>
        obtain ⟨wo, rfl⟩ : ∃ wo, wo = wr := ⟨_, rfl⟩
        obtain ⟨j, x4, hj, rfl, rfl, hk, hown, hbw⟩ := hrel
        have HI := hide (And.intro hk (And.intro hown hbw))
        clear hk hown hbw
        have j0 : (0 : Int) ≤ (j : Int) := by omega
        by_cases hj2 : j < l.length
        · have j1 : (j : Int) < (l.length : Int) := by omega
          obtain ⟨x, hx⟩ : ∃ x, l[j]? = some x := ⟨_, List.getElem?_eq_getElem hj2⟩
          obtain ⟨b, off, rfl, hlb, hE⟩ := HA.out (by omega)
          obtain ⟨cs, hr, hatx⟩ := hE j x hx
          obtain ⟨q1, q2, rfl, hxo, hxd⟩ := itmLay_at.1 hatx
          obtain ⟨B1, k1, rfl, _⟩ := slice_open hxd.ins
          obtain ⟨B2, k2, rfl, _⟩ := slice_open hxd.rcp
          obtain ⟨q1, hq1⟩ : ∃ q1, q1 = Value.slice B1 x.2.2.1.length k1 := ⟨_, rfl⟩
          obtain ⟨q2, hq2⟩ : ∃ q2, q2 = Value.slice B2 x.2.2.2.length k2 := ⟨_, rfl⟩
          have hone1 : q1.oneCell' = true ∧ q2.oneCell' = true := by rw [hq1, hq2]; exact ⟨rfl, rfl⟩
          rw [← hq1, ← hq2] at hr hatx
          rw [← hq1, ← hq2] at hxd
          have hbnd := hl x (List.mem_of_getElem? hx)
          have HX := hide (And.intro (rangeAt_same hr (HI.out.2.2.block b (by omega))) (And.intro hxo hxd))
          have HXX := hide hx
          have hszt2 : (Try.prog.info? 43).map (·.size) = some (tC x q1 q2).toArray.size := by rw [show (tC x q1 q2).toArray.size = 23 by rw [List.size_toArray]; exact tC_len hxo]; kernel_rfl
          have hszt : (Try.prog.info? 43).map (·.size) = some (tC x q1 q2).length := by simpa using hszt2
          have hszzt : zcT.size = (tC x q1 q2).toArray.size := by rw [show (tC x q1 q2).toArray.size = 23 by rw [List.size_toArray]; exact tC_len hxo]; kernel_rfl
          have honet : (tC x q1 q2).toArray.all (·.oneCell') = true := all_oneCell_toArray (tC_one x hone1.1 hone1.2)
          have hszx : (Try.prog.info? 27).map (·.size) = some (bv x.1).length := by have := hszD hxo; simpa using this
          have hszx2 := hszD hxo
          clear hx hE hr hatx hxd hq1 hq2
          have hhc := hxo
          obtain ⟨v, hv⟩ : ∃ v, (Dr.needP (l.map itP) (posD (l.map itP) c))[j]? = some v := ⟨_, List.getElem?_eq_getElem (by rw [HNL.out]; exact hj2)⟩
          have hsn := outA_snoc _ _ j x.1 v (css_at HXX.out) hv
          have hcv := bools_at HI.out.1 hv
          have HSN := hide hsn
          have HCV := hide hcv
          have hol : (Dr.outA ((Dr.css (l.map itP)).take j) ((Dr.needP (l.map itP) (posD (l.map itP) c)).take j)).length ≤ j := outA_le _ _ j
          clear hsn hcv hv
          cases v
          · go_wp2_with (first | ((with_reducible refine at_slot 30 ?_); (refine wpList_value (o := ⟨some 30, _, _, _, _, _⟩) rfl (.pointer (some ⟨gn, j, none⟩)) wo (exec_idx1 84 4 (.tmp 25) (.tmp 27) rfl gn l.length l.length j rfl rfl hj2 Try.underlying84 (by kernel_rfl) wo) ?_)) | ((with_reducible refine at_slot 31 ?_); (refine wpList_value (o := ⟨some 31, _, _, _, _, _⟩) rfl (.bool false) wo (exec_load_cell (o := ⟨some 31, _, _, _, _, _⟩) 4 (.tmp 30) rfl ⟨gn, j, none⟩ rfl _ _ wo Try.underlying4 rfl (show wo.cell? ⟨gn, j, none⟩ = some (.bool false) from HCV.out)) ?_)))
            go_roundw
            case rel => exact ⟨j + 1, x4, by omega, rfl, by go_num, HI.out.1, by rw [HSN.out]; simpa using HI.out.2.1, HI.out.2.2⟩
            case measure => simp [intOf]; omega
          · go_wp2_with (first | ((with_reducible refine at_slot 30 ?_); (refine wpList_value (o := ⟨some 30, _, _, _, _, _⟩) rfl (.pointer (some ⟨gn, j, none⟩)) wo (exec_idx1 84 4 (.tmp 25) (.tmp 27) rfl gn l.length l.length j rfl rfl hj2 Try.underlying84 (by kernel_rfl) wo) ?_)) | ((with_reducible refine at_slot 31 ?_); (refine wpList_value (o := ⟨some 31, _, _, _, _, _⟩) rfl (.bool true) wo (exec_load_cell (o := ⟨some 31, _, _, _, _, _⟩) 4 (.tmp 30) rfl ⟨gn, j, none⟩ rfl _ _ wo Try.underlying4 rfl (show wo.cell? ⟨gn, j, none⟩ = some (.bool true) from HCV.out)) ?_)) | ((with_reducible refine at_slot 36 ?_); (refine wpList_value (o := ⟨some 36, _, _, _, _, _⟩) rfl (.pointer (some ⟨b, off + (j : Int).toNat * 23, none⟩)) wo (exec_index_off (o := ⟨some 36, _, _, _, _, _⟩) 25 43 (.tmp 34) (.tmp 35) rfl b off l.length cap (j : Int) .i64 rfl rfl ⟨j0, j1⟩ 23 Try.underlying25 sz_itm wo) ?_; rw [show off + (j : Int).toNat * 23 = off + j * 23 by omega])) | ((with_reducible refine at_slot 38 ?_); (refine wpList_value (o := ⟨some 38, _, _, _, _, _⟩) rfl (.agg (bv x.1).toArray) wo (exec_load_mid (o := ⟨some 38, _, _, _, _, _⟩) 27 (.tmp 37) rfl b (off + j * 23) rfl (bv x.1) _ wo (item_cls9 HX.out.1) Try.underlying27 rfl hszx) ?_)) | ((with_reducible refine at_slot 39 ?_); (refine wpList_row1 (o := ⟨some 39, _, _, _, _, _⟩) rfl 45 (.tmp 38) rfl 27 20 (.agg zcH) (.agg (bv x.1).toArray) rfl Try.underlying45 sz_hash (by decide) (by decide) (fun w => by kernel_rfl) (by rw [Value.cells, List.size_toArray, bvL]; exact hhc) ?_); intro w8 hn; have H8 := hide hn; have h8 := hide (And.intro (hn.src (cs := bv x.1) (n := 20) (by rw [bvL]; exact hxo) (bv1 x.1)) (owned_keepN HI.out.2.1 fun g _ hl9 => hn.below.block g hl9)); clear hn; simp only [Act.put, List.setIfInBounds_toArray, List.set_cons_zero, List.set_cons_succ]) | (at_builtin; ((with_reducible refine at_slot 40 ?_); refine wpList_appS (o := ⟨some 40, _, _, _, _, _⟩) rfl _ _ 45 rfl w.heap.size 27 ih _ 20 20 Try.underlying45 HJ.out.1 HJ.out.2.1 HJ.out.2.2.1 HJ.out.2.2.2 rfl (by decide) _ ((Dr.outA ((Dr.css (l.map itP)).take j) ((Dr.needP (l.map itP) (posD (l.map itP) c)).take j)).length) ((Dr.outA ((Dr.css (l.map itP)).take j) ((Dr.needP (l.map itP) (posD (l.map itP) c)).take j)).flatMap bv) h8.out.2 (some ⟨wo.heap.size, 0, none⟩) 1 1 (bv x.1) h8.out.1 ?hm1 ?hb1 ?hz1 rfl rfl ?_)))
            case hm1 => simp only [maxLen]; omega
            case hb1 => omega
            case hz1 => have := HI.out.2.2.size; have := H8.out.below.size; omega
            intro u9 w9 own9 gr9 _
            have h9 : w9.ownsRow w.heap.size 27 20 u9 (Dr.outA ((Dr.css (l.map itP)).take (j + 1)) ((Dr.needP (l.map itP) (posD (l.map itP) c)).take (j + 1))).length ((Dr.outA ((Dr.css (l.map itP)).take (j + 1)) ((Dr.needP (l.map itP) (posD (l.map itP) c)).take (j + 1))).flatMap bv) := by rw [HSN.out]; simpa using own9
            have hkb : Blk w9 gn 4 ((Dr.needP (l.map itP) (posD (l.map itP) c)).map Value.bool).toArray := (gr9.block _ (by have := HI.out.1.lt; have := H8.out.below.size; omega) (fun e => owned_neN h8.out.2 (HI.out.1.below H8.out.below HI.out.1.lt) (by decide) e.symm)).trans (HI.out.1.below H8.out.below HI.out.1.lt)
            have hb9 : Below w.heap.size w w9 := (HI.out.2.2.trans (Below.mono H8.out.below HI.out.2.2.size)).grown gr9 (by have := HI.out.2.2.size; have := H8.out.below.size; omega) (fun k hk => (owned_ltN h8.out.2 hk).1)
            have H9 := hide (And.intro hkb (And.intro h9 hb9))
            clear own9 gr9 h9 hkb hb9
            go_wp2_with fail
            go_roundw
            case rel => exact ⟨j + 1, u9, by omega, rfl, by go_num, H9.out.1, H9.out.2.1, H9.out.2.2⟩
            case measure => simp [intOf]; omega
        · obtain rfl : j = l.length := by omega
          have ho := HI.out.2.1
          rw [List.take_of_length_le (by rw [css_len]; exact Nat.le_refl _), List.take_of_length_le (by rw [HNL.out]; exact Nat.le_refl _), ← needsP_eq] at ho
          have HO := hide ho
          clear ho
          obtain ⟨u9, hu9⟩ : ∃ u9, u9 = x4 := ⟨_, rfl⟩
          go_wp2_with fail
          refine bodyPost_ret (v := .tuple #[x4, .int .i64 0]) (by simp [results, Try.results29, go_sem]) rfl ?_
          refine ⟨_, by rw [HE.out.1], ?_, HI.out.2.2⟩
          rw [HE.out.2]
          exact HO.out
end Go.Proofs.Ytidiepbmbbflhaa
end
section
namespace Go.Proofs.Ytidiepbmbbflhaa
open Go Go.RowKit Go.Maps
set_option maxRecDepth 100000
def depthR (l : List Itm) (c : Hsh) : Nat := if Dr.rightP (l.map itP) = true then (if (mget (kmap l) c).isSome = true then Dr.depthP (l.map itP) c else 0) else 0
theorem maxOf_snoc (l : List Nat) (x : Nat) : Dr.maxOf (l ++ [x]) = max (Dr.maxOf l) x := by
  unfold Dr.maxOf
  rw [List.foldl_append]
  rfl
theorem maxOf_le {l : List Nat} {b : Nat} (h : ∀ x ∈ l, x ≤ b) : Dr.maxOf l ≤ b := by
  unfold Dr.maxOf
  have key : ∀ (l : List Nat) (a : Nat), a ≤ b → (∀ x ∈ l, x ≤ b) → l.foldl max a ≤ b := by
    intro l
    induction l with
    | nil => intro a ha _; exact ha
    | cons x l ih =>
      intro a ha hx
      exact ih _ (Nat.max_le.2 ⟨ha, hx x (List.mem_cons_self ..)⟩) fun y hy => hx y (List.mem_cons_of_mem _ hy)
  exact key l 0 (Nat.zero_le _) h
theorem depF_snoc {H : Type} [DecidableEq H] (l : List (Dr.It H)) (x : Dr.It H) (h : H) : Dr.depF (l ++ [x]) (fun _ => 0) h = if h = x.cls then Dr.maxOf (x.ins.map (Dr.depF l fun _ => 0)) + 1 else Dr.depF l (fun _ => 0) h := by
  rw [Dr.depF_app]
  rfl
/-- the depths of the first ones, in a map -/
def DepOk (l : List Itm) (j : Nat) (dm : List (Hsh × Nat)) : Prop := ∀ h, (mget dm h).getD 0 = Dr.depF ((l.take j).map itP) (fun _ => 0) h ∧ (mget dm h).getD 0 ≤ j
theorem dep_zero (l : List Itm) : DepOk l 0 [] := fun h => ⟨rfl, Nat.le_refl _⟩
theorem dep_step {l : List Itm} {j : Nat} {dm : List (Hsh × Nat)} {x : Itm} (h : DepOk l j dm) (hx : l[j]? = some x) : DepOk l (j + 1) (mput dm x.1 (Dr.maxOf ((clsP x.2.2.1).map fun c => (mget dm c).getD 0) + 1)) := fun c => by
  have e : (l.take (j + 1)).map itP = (l.take j).map itP ++ [itP x] := by rw [List.take_add_one, hx]; simp
  have em : ((clsP x.2.2.1).map fun c => (mget dm c).getD 0) = (clsP x.2.2.1).map (Dr.depF ((l.take j).map itP) fun _ => 0) := List.map_congr_left fun d _ => (h d).1
  rw [mget_mput, e, depF_snoc]
  by_cases hc : c = x.1
  · rw [if_pos hc, if_pos (show c = (itP x).cls from hc), em]
    refine ⟨rfl, ?_⟩
    show Dr.maxOf _ + 1 ≤ j + 1
    have : Dr.maxOf ((clsP x.2.2.1).map (Dr.depF ((l.take j).map itP) fun _ => 0)) ≤ j := maxOf_le fun y hy => by
      obtain ⟨d, _, rfl⟩ := List.mem_map.1 hy
      rw [← (h d).1]
      exact (h d).2
    omega
  · rw [if_neg hc, if_neg (show ¬ c = (itP x).cls from hc)]
    exact ⟨(h c).1, Nat.le_trans (h c).2 (Nat.le_succ _)⟩
theorem dep_max {l : List Itm} {j : Nat} {dm : List (Hsh × Nat)} (h : DepOk l j dm) (ks : List Hsh) : Dr.maxOf (ks.map fun c => (mget dm c).getD 0) ≤ j := maxOf_le fun y hy => by
  obtain ⟨d, _, rfl⟩ := List.mem_map.1 hy
  exact (h d).2
theorem depthP_eq {l : List Itm} {c : Hsh} : Dr.depthP (l.map itP) c = Dr.depF ((l.take (posD (l.map itP) c + 1)).map itP) (fun _ => 0) c := by
  rw [List.map_take]
  rfl
def evD (n : Nat) : Value := .int .i64 (n : Int)
theorem look_dep {w : World} {mb : Nat} {m : List (Hsh × Nat)} (hm : MapIs hV okH evN w mb m) {c : Hsh} (hc : okH c) {ρ : Operand → Value} {o : Oper} (x y : Operand) (ho : o.op = .lookup 61 x y false) (hx : ρ x = .map (some mb)) (hy : ρ y = .agg (bv c).toArray) :
    (execOp ρ o).run Try.prog w = .ok (.value (.int .i64 (((mget m c).getD 0 : Nat) : Int))) w := by
  have h := exec_lookup (P := Try.prog) (o := o) (ρ := ρ) 61 x y false ho (.map (some mb)) (.agg (bv c).toArray) _ hx hy (hm.look hash_enc hc Try.underlying61 (z_int w))
  have e : ((mget m c).map evN).getD (.int .i64 0) = .int .i64 (((mget m c).getD 0 : Nat) : Int) := by cases mget m c <;> rfl
  rw [e] at h
  exact h
theorem wpList_row1_w {P : Program} {ops : Array Oper} {rest : List Oper} {o : Oper} {a : Act} {w : World} {Q : Exit → Act → World → Prop} (hw : Region.wanted o (yielded ops a.tmps) = true) (t : TypeId) (x : Operand) (ho : o.op = .buildSlice t 1 #[(0, x)]) (e n : Nat) (z v : Value) (hx : a.eval x = v) (ht : P.underlying t = some (.slice e)) (hs : (P.info? e).map (·.size) = some n) (hn : 0 < n) (h24 : n ≤ 16777216) (hz : ∀ w, (zeroValue e).run P w = .ok z w) (hv : v.cells.size = n)
    (h : ∀ w', New1 w w' e v.cells → wpList P ops Q rest (a.put o.dst (.slice (some ⟨w.heap.size, 0, none⟩) 1 1)) w') : wpList P ops Q (o :: rest) a w :=
  wpList_value_w hw _ _ (exec_buildSliceP t x ho hx ht hs hn h24 hz hv w) (h _ (new1_alloc w e v.cells))
theorem run_sliceTo {P : Program} (t e s : Nat) (ht : P.underlying t = some (.slice e)) (hs : (P.info? e).map (·.size) = some s) (A : Option Addr) (len cap n : Nat) (hn : n ≤ cap) (w : World) :
    (Instr.sliceAt t (.slice A len cap) none (some (.int .i64 (n : Int))) none).run P w = .ok (.slice A n cap) w := by
  have e2 : P.elem t = e := by simp [Program.elem, ht]
  rw [run_sliceAt_slice w t _ _ _ _ (by rw [e2]; exact ht)]
  have h := run_slice_h (P := P) w t A len cap (by rw [e2]; exact ht) .i64 (n : Int) (by omega) (by omega)
  rw [h, e2]
  cases hi : P.info? e with
  | none => simp [hi] at hs
  | some i =>
    have h1 : i.size = s := by simpa [hi] using hs
    have e0 : A.map (fun a => a.add 0) = A := by cases A <;> simp [Addr.add]
    simp [sizeOf, typeInfo, hi, h1, sliced, e0]
theorem exec_sliceTo {P : Program} {ρ : Operand → Value} {o : Oper} (t e s : Nat) (x y : Operand) (ho : o.op = .slice t x none (some y) none) (A : Option Addr) (len cap n : Nat) (hx : ρ x = .slice A len cap) (hy : ρ y = .int .i64 (n : Int)) (ht : P.underlying t = some (.slice e)) (hs : (P.info? e).map (·.size) = some s) (hn : n ≤ cap) (w : World) :
    (execOp ρ o).run P w = .ok (.value (.slice A n cap)) w := by
  refine exec_slice t x none (some y) none ho _ (fun W => ?_) w
  rw [hx, Option.map_some, hy]
  exact run_sliceTo t e s ht hs A len cap n hn W
end Go.Proofs.Ytidiepbmbbflhaa
end
section
namespace Go.Proofs.Ytidiepbmbbflhaa
open Go Go.RowKit Go.Maps
set_option maxRecDepth 100000
theorem usersP_snoc {H : Type} [DecidableEq H] (l : List (Dr.It H)) (x : Dr.It H) (c : H) : Dr.usersP (l ++ [x]) c = Dr.usersP l c ++ (if c ∈ x.ins then [x.cls] else []) := by
  unfold Dr.usersP
  rw [List.filter_append, List.map_append]
  congr 1
  by_cases h : c ∈ x.ins
  · simp [h]
  · simp [h]
theorem usersP_le {H : Type} [DecidableEq H] (l : List (Dr.It H)) (c : H) : (Dr.usersP l c).length ≤ l.length := by
  unfold Dr.usersP
  rw [List.length_map]
  exact List.length_filter_le _ _
theorem users_le (l : List Itm) (c : Hsh) (j : Nat) : (Dr.usersP ((l.take j).map itP) c).length ≤ j := by
  refine Nat.le_trans (usersP_le _ _) ?_
  rw [List.length_map, List.length_take]
  omega
theorem users_take {l : List Itm} {j : Nat} {x : Itm} {c : Hsh} (h : l[j]? = some x) : Dr.usersP ((l.take (j + 1)).map itP) c = Dr.usersP ((l.take j).map itP) c ++ (if c ∈ clsP x.2.2.1 then [x.1] else []) := by
  rw [List.take_add_one, h]
  have e : (l.take j ++ (some x).toList).map itP = (l.take j).map itP ++ [itP x] := by simp
  rw [e, usersP_snoc]
  congr 1
  by_cases hm : c ∈ clsP x.2.2.1
  · rw [if_pos hm, if_pos (show c ∈ (itP x).ins from hm)]
    rfl
  · rw [if_neg hm, if_neg (show ¬ c ∈ (itP x).ins from hm)]
def usersT (l : List Itm) (c : Hsh) (j : Nat) : List Hsh := Dr.usersP ((l.take j).map itP) c
theorem usersT_le (l : List Itm) (c : Hsh) (j : Nat) : (usersT l c j).length ≤ j := users_le l c j
theorem usersT_all (l : List Itm) (c : Hsh) : usersT l c l.length = Dr.usersP (l.map itP) c := by unfold usersT; rw [List.take_length]
/-- what is added while a class's classes are gone through -/
def addU (x : Itm) (c : Hsh) (k : Nat) : List Hsh := if c ∈ (clsP x.2.2.1).take k then [x.1] else []
theorem addU_zero (x : Itm) (c : Hsh) : addU x c 0 = [] := by simp [addU]
theorem addU_le (x : Itm) (c : Hsh) (k : Nat) : (addU x c k).length ≤ 1 := by
  unfold addU
  split <;> simp
theorem addU_all {x : Itm} {c : Hsh} : addU x c (clsP x.2.2.1).length = if c ∈ clsP x.2.2.1 then [x.1] else [] := by
  unfold addU
  rw [List.take_length]
theorem usersT_step {l : List Itm} {j : Nat} {x : Itm} {c : Hsh} (h : l[j]? = some x) : usersT l c (j + 1) = usersT l c j ++ addU x c (clsP x.2.2.1).length := by rw [addU_all]; exact users_take h
theorem cls_nodup : ∀ (l : List Nam) (out : List Hsh), out.Nodup → (l.foldl (fun out x => if x.2.2.2 = true ∧ x.2.2.1 ∉ out then out ++ [x.2.2.1] else out) out).Nodup
  | [], out, h => h
  | x :: l, out, h => by
    refine cls_nodup l _ ?_
    dsimp only
    split
    · rename_i hc
      rw [List.nodup_append]
      exact ⟨h, by simp, fun a ha b hb e => hc.2 (by rw [List.mem_singleton.1 hb] at e; exact e ▸ ha)⟩
    · exact h
theorem clsP_nodup (l : List Nam) : (clsP l).Nodup := cls_nodup l [] List.nodup_nil
theorem addU_step {x : Itm} {c z : Hsh} {k : Nat} (hz : (clsP x.2.2.1)[k]? = some z) : if z = c then addU x c k = [] ∧ addU x c (k + 1) = [x.1] else addU x c (k + 1) = addU x c k := by
  have e : (clsP x.2.2.1).take (k + 1) = (clsP x.2.2.1).take k ++ [z] := by rw [List.take_add_one, hz]; rfl
  split
  · rename_i h
    subst h
    have hn := clsP_nodup x.2.2.1
    have hnot : z ∉ (clsP x.2.2.1).take k := fun hm => by
      have h2 : ((clsP x.2.2.1).take (k + 1)).Nodup := hn.sublist (List.take_sublist _ _)
      rw [e, List.nodup_append] at h2
      exact h2.2.2 z hm z (List.mem_singleton.2 rfl) rfl
    unfold addU
    rw [if_neg hnot, e, if_pos (by simp)]
    exact ⟨rfl, rfl⟩
  · rename_i h
    unfold addU
    rw [e]
    have h' : ¬ c = z := fun e => h e.symm
    simp [h']
set_option maxHeartbeats 8000000 in
theorem users_any (w : World) (l : List Itm) (A : Option Addr) (cap : Nat) (h : itmsLay.At w w.heap.size [.slice A l.length cap] l) (hl : ∀ x ∈ l, x.2.2.1.length ≤ 1000000) (hlen : l.length ≤ 1000000) (c : Hsh) (hc : okH c) :
    Calls Try.prog 15 #[.slice A l.length cap, .agg (bv c).toArray] w fun e w' => ∃ u, e = .returned u ∧ w'.ownsRow w.heap.size 27 20 u (Dr.usersP (l.map itP) c).length ((Dr.usersP (l.map itP) c).flatMap bv) ∧ Below w.heap.size w w' := by
  obtain ⟨ih, hih, hq0, hq1, hq2⟩ := info_parts info_hashI
  have HJ := hide (And.intro hih (And.intro hq0 (And.intro hq1 hq2)))
  clear hih hq0 hq1 hq2
  obtain ⟨A', cap', e, hcl, hcm9, _, hA⟩ := slice_open h
  injection e with e1 e2 e3
  subst e1 e3
  have k9 : (l.length : Int) ≤ 9223372036854775807 := by omega
  have hszc := hszD hc
  have HA := hide hA
  clear hA hcl hcm9 e2
  go_enter Try.func15, Try.ntmps15
  go_wp2_with (first | ((with_reducible refine at_slot 3 ?_); (refine wpList_boxA (o := ⟨some 3, _, _, _, _, _⟩) rfl 27 (.tmp 1) rfl (bv c).toArray rfl ?_); intro w1 hn; have H1 := hide hn; clear hn; simp only [Act.put, List.setIfInBounds_toArray, List.set_cons_zero, List.set_cons_succ]))
  go_loopw [4, 11] (fun x4 x11 wr => ∃ (j : Nat) (u : Value), j ≤ l.length ∧ u = x4 ∧ x11 = .int .i64 (j : Int) ∧ Blk wr w.heap.size 27 (bv c).toArray ∧ wr.ownsRow w1.heap.size 27 20 u (usersT l c j).length ((usersT l c j).flatMap bv) ∧ Below w.heap.size w wr) (fun _ x11 _ => l.length - (intOf x11).toNat)
  case atStart => exact ⟨0, _, by omega, rfl, rfl, H1.out.blk, World.ownsRow_nil _ _ _ _, H1.out.below⟩
  case round =>
    obtain ⟨wo, rfl⟩ : ∃ wo, wo = wr := ⟨_, rfl⟩
    obtain ⟨j, x4, hj, rfl, rfl, hk, hown, hbw⟩ := hrel
    have HI := hide (And.intro hk (And.intro hown hbw))
    clear hk hown hbw
    have j0 : (0 : Int) ≤ (j : Int) := by omega
    by_cases hj2 : j < l.length
    · have j1 : (j : Int) < (l.length : Int) := by omega
      obtain ⟨x, hx⟩ : ∃ x, l[j]? = some x := ⟨_, List.getElem?_eq_getElem hj2⟩
      obtain ⟨b, off, rfl, hlb, hE⟩ := HA.out (by omega)
      obtain ⟨cs, hr, hatx⟩ := hE j x hx
      obtain ⟨q1, q2, rfl, hxo, hxd⟩ := itmLay_at.1 hatx
      obtain ⟨B1, k1, rfl, _⟩ := slice_open hxd.ins
      obtain ⟨B2, k2, rfl, _⟩ := slice_open hxd.rcp
      obtain ⟨q1, hq1⟩ : ∃ q1, q1 = Value.slice B1 x.2.2.1.length k1 := ⟨_, rfl⟩
      obtain ⟨q2, hq2⟩ : ∃ q2, q2 = Value.slice B2 x.2.2.2.length k2 := ⟨_, rfl⟩
      have hone1 : q1.oneCell' = true ∧ q2.oneCell' = true := by rw [hq1, hq2]; exact ⟨rfl, rfl⟩
      rw [← hq1, ← hq2] at hr hatx
      rw [← hq1, ← hq2] at hxd
      have hbnd := hl x (List.mem_of_getElem? hx)
      have HX := hide (And.intro (rangeAt_same hr (HI.out.2.2.block b (by omega))) (And.intro hxo hxd))
      have HXX := hide hx
      have hszt2 : (Try.prog.info? 43).map (·.size) = some (tC x q1 q2).toArray.size := by rw [show (tC x q1 q2).toArray.size = 23 by rw [List.size_toArray]; exact tC_len hxo]; kernel_rfl
      have hszt : (Try.prog.info? 43).map (·.size) = some (tC x q1 q2).length := by simpa using hszt2
      have hszzt : zcT.size = (tC x q1 q2).toArray.size := by rw [show (tC x q1 q2).toArray.size = 23 by rw [List.size_toArray]; exact tC_len hxo]; kernel_rfl
      have honet : (tC x q1 q2).toArray.all (·.oneCell') = true := all_oneCell_toArray (tC_one x hone1.1 hone1.2)
      have hszx : (Try.prog.info? 27).map (·.size) = some (bv x.1).length := by have := hszD hxo; simpa using this
      have hszx2 := hszD hxo
      clear hx hE hr hatx hxd hq1 hq2
      go_wp2_with (first | ((with_reducible refine at_slot 13 ?_); (refine wpList_value (o := ⟨some 13, _, _, _, _, _⟩) rfl (.pointer (some ⟨b, off + (j : Int).toNat * 23, none⟩)) wo (exec_index_off (o := ⟨some 13, _, _, _, _, _⟩) 25 43 (.tmp 9) (.tmp 11) rfl b off l.length cap (j : Int) .i64 rfl rfl ⟨j0, j1⟩ 23 Try.underlying25 sz_itm wo) ?_; rw [show off + (j : Int).toNat * 23 = off + j * 23 by omega])) | ((with_reducible refine at_slot 14 ?_); (refine wpList_value (o := ⟨some 14, _, _, _, _, _⟩) rfl (.agg (tC x q1 q2).toArray) wo (exec_load_mid (o := ⟨some 14, _, _, _, _, _⟩) 43 (.tmp 13) rfl b (off + j * 23) rfl (tC x q1 q2) _ wo HX.out.1 Try.underlying43 rfl hszt) ?_)) | ((with_reducible refine at_slot 6 ?_); ((with_reducible refine wpList_box (o1 := ⟨some 6, _, _, _, _, _⟩) (o2 := ⟨none, _, _, _, _, _⟩) rfl rfl 43 (.tmp 6) (.tmp 14) ?_ zcT (tC x q1 q2).toArray ?_ hszt2 ?_ honet ?_ ?_ ?_); rfl; kernel_rfl; exact hszzt; rfl; rfl; intro w8 hmm hbb; have H8 := hide (And.intro hmm hbb); clear hmm hbb; simp only [Act.put, List.setIfInBounds_toArray, List.set_cons_zero, List.set_cons_succ])) | ((with_reducible refine at_slot 16 ?_); (refine wpList_value (o := ⟨some 16, _, _, _, _, _⟩) rfl (.agg (dC x.2 q1 q2).toArray) w8 (exec_load_mid (o := ⟨some 16, _, _, _, _, _⟩) 34 (.tmp 15) rfl wo.heap.size (20) rfl (dC x.2 q1 q2) _ w8 (item_drv HX.out.2.1 H8.out.1) Try.underlying34 rfl (by kernel_rfl)) ?_)))
      have hat8 : DrvAt w8 w8.heap.size x.2 q1 q2 := HX.out.2.2.alike9 (HI.out.2.2.trans (Below.mono H8.out.2 HI.out.2.2.size))
      have hcok := cls_ok hat8.okn
      refine (classes_any w8 x.2 q1 q2 hat8 hbnd).mono ?_
      rintro e w9 ⟨uc, rfl, hoc, hb⟩
      obtain ⟨Ac, cc, rfl⟩ := own_form9 hoc
      dsimp only
      have h9 := H8.out.2.trans (Below.mono hb H8.out.2.size)
      obtain ⟨N, hN⟩ : ∃ N, N = (clsP x.2.2.1).length := ⟨_, rfl⟩
      rw [← hN] at hoc ⊢
      have hN9 : (N : Int) ≤ 1000000 := by have := clsP_len x.2.2.1 x.2.2.1.length; rw [List.take_length] at this; omega
      have H9 := hide (And.intro (H8.out.1.below hb H8.out.1.lt) (And.intro (owned_keepN HI.out.2.1 fun g _ hl9 => h9.block g hl9) (And.intro hoc (And.intro (HI.out.1.below h9 HI.out.1.lt) (HI.out.2.2.trans (Below.mono h9 HI.out.2.2.size))))))
      have HCO := hide (And.intro hcok hN)
      have hol : (usersT l c j).length ≤ j := usersT_le l c j
      have HZ9 := hide (And.intro H8.out.1.lt (And.intro HI.out.2.2.size hb.size))
      have HZ1 := hide (And.intro (show w1.heap.size ≤ w8.heap.size from by have := H1.out.size; have := HI.out.1.lt; have := H8.out.1.lt; omega) (show w1.heap.size ≤ wo.heap.size from by have := H1.out.size; have := HI.out.1.lt; omega))
      clear hb h9 hoc hcok hN hat8
      go_wp2_with fail
      go_loopw [4, 19] (fun x4 x19 wr => ∃ (k : Nat) (u : Value), k ≤ N ∧ u = x4 ∧ x19 = .int .i64 (k : Int) ∧ Blk wr wo.heap.size 43 (tC x q1 q2).toArray ∧ Blk wr w.heap.size 27 (bv c).toArray ∧ wr.ownsRow w8.heap.size 27 20 (.slice Ac N cc) N ((clsP x.2.2.1).flatMap bv) ∧ wr.ownsRow w1.heap.size 27 20 u ((usersT l c j) ++ addU x c k).length (((usersT l c j) ++ addU x c k).flatMap bv) ∧ (∀ g, u.ownBlock = some g → g < w8.heap.size ∨ w9.heap.size ≤ g) ∧ Below w.heap.size w wr ∧ w9.heap.size ≤ wr.heap.size) (fun _ x19 _ => N - (intOf x19).toNat)
      case atStart => exact ⟨0, x4, by omega, rfl, rfl, H9.out.1, H9.out.2.2.2.1, H9.out.2.2.1, by rw [addU_zero, List.append_nil]; exact H9.out.2.1, (fun g hg => .inl (Nat.lt_of_lt_of_le (owned_ltN HI.out.2.1 hg).2 H8.out.2.size)), H9.out.2.2.2.2, Nat.le_refl _⟩
      case round =>
        obtain ⟨wi, rfl⟩ : ∃ wi, wi = wr := ⟨_, rfl⟩
        obtain ⟨k, u4, hk, rfl, rfl, hbi, hbc, hoc, hou, hub, hbw, hsz9⟩ := hrel
        have HB := hide (And.intro hbi (And.intro hbc (And.intro hoc (And.intro hou (And.intro hub (And.intro hbw hsz9))))))
        clear hbi hbc hoc hou hub hbw hsz9
        have k0 : (0 : Int) ≤ (k : Int) := by omega
        by_cases hk2 : k < N
        · have k1 : (k : Int) < (N : Int) := by omega
          obtain ⟨z, hz⟩ : ∃ z, (clsP x.2.2.1)[k]? = some z := ⟨_, List.getElem?_eq_getElem (by rw [← HCO.out.2]; exact hk2)⟩
          have hzo := HCO.out.1 z (List.mem_of_getElem? hz)
          obtain ⟨g5, cap5, he5⟩ := owned_placeN HB.out.2.2.1 (by omega)
          injection he5 with e51 _ e53
          subst e51 e53
          have hrz : wi.rangeAt g5 (k * 20) (bv z) := own_range HB.out.2.2.1 (k * 20) 20 _ (flat_hash HCO.out.1 hz)
          have HRZ := hide hrz
          have hszy2 := hszD hzo
          have hszy : (Try.prog.info? 27).map (·.size) = some (bv z).length := by simpa using hszy2
          have hszz : zcH.size = (bv z).toArray.size := by rw [show (bv z).toArray.size = 20 by rw [List.size_toArray, bvL]; exact hzo]; kernel_rfl
          have hone : (bv z).toArray.all (·.oneCell') = true := all_oneCell_toArray (bv1 z)
          have hads := addU_step (c := c) hz
          have HADS := hide hads
          have HZO := hide (And.intro hzo hz)
          clear hz hzo hrz hads
          by_cases hzc : z = c
          · have hd := decide_eq_true hzc
            have HD := hide hd
            rw [if_pos hzc] at HADS
            clear hd hzc
            have hhc := HX.out.2.1
            go_wp2_with (first | ((with_reducible refine at_slot 21 ?_); (refine wpList_value (o := ⟨some 21, _, _, _, _, _⟩) rfl (.pointer (some ⟨g5, k * 20, none⟩)) wi (exec_idx0 45 27 (.tmp 17) (.tmp 19) rfl g5 N cc k rfl rfl hk2 20 Try.underlying45 sz_hash wi) ?_)) | ((with_reducible refine at_slot 22 ?_); (refine wpList_value (o := ⟨some 22, _, _, _, _, _⟩) rfl (.agg (bv z).toArray) wi (exec_load_mid (o := ⟨some 22, _, _, _, _, _⟩) 27 (.tmp 21) rfl g5 (k * 20) rfl (bv z) _ wi HRZ.out Try.underlying27 rfl hszy) ?_)) | ((with_reducible refine at_slot 8 ?_); ((with_reducible refine wpList_box (o1 := ⟨some 8, _, _, _, _, _⟩) (o2 := ⟨none, _, _, _, _, _⟩) rfl rfl 27 (.tmp 8) (.tmp 22) ?_ zcH (bv z).toArray ?_ hszy2 ?_ hone ?_ ?_ ?_); rfl; kernel_rfl; exact hszz; rfl; rfl; intro wb hmm hbb; have HBX := hide (And.intro hmm hbb); clear hmm hbb; simp only [Act.put, List.setIfInBounds_toArray, List.set_cons_zero, List.set_cons_succ])) | ((with_reducible refine at_slot 23 ?_); (refine wpList_value (o := ⟨some 23, _, _, _, _, _⟩) rfl (.agg ((bv z).toArray)) wb (exec_load_blk (o := ⟨some 23, _, _, _, _, _⟩) 27 (.tmp 8) rfl wi.heap.size rfl 27 _ _ wb HBX.out.1 Try.underlying27 rfl hszy2) ?_)) | ((with_reducible refine at_slot 24 ?_); (refine wpList_value (o := ⟨some 24, _, _, _, _, _⟩) rfl (.agg ((bv c).toArray)) wb (exec_load_blk (o := ⟨some 24, _, _, _, _, _⟩) 27 (.tmp 3) rfl w.heap.size rfl 27 _ _ wb (HB.out.2.1.below HBX.out.2 HB.out.2.1.lt) Try.underlying27 rfl hszc) ?_)) | ((with_reducible refine at_slot 25 ?_); (refine wpList_value (o := ⟨some 25, _, _, _, _, _⟩) rfl (.bool true) wb (exec_binop_agg (o := ⟨some 25, _, _, _, _, _⟩) .eql 27 (.tmp 23) (.tmp 24) _ rfl (bv z).toArray (bv c).toArray rfl rfl (by kernel_rfl) _ (fun W => by have h := bin_eq_hash z c HZO.out.1 hc W; rw [HD.out] at h; exact h) wb) ?_)) | ((with_reducible refine at_slot 28 ?_); (refine wpList_value (o := ⟨some 28, _, _, _, _, _⟩) rfl (.agg (bv x.1).toArray) wb (exec_load_mid (o := ⟨some 28, _, _, _, _, _⟩) 27 (.tmp 27) rfl wo.heap.size (0) rfl (bv x.1) _ wb (item_cls HX.out.2.1 (HB.out.1.below HBX.out.2 HB.out.1.lt)) Try.underlying27 rfl hszx) ?_)) | ((with_reducible refine at_slot 29 ?_); (refine wpList_row1 (o := ⟨some 29, _, _, _, _, _⟩) rfl 45 (.tmp 28) rfl 27 20 (.agg zcH) (.agg (bv x.1).toArray) rfl Try.underlying45 sz_hash (by decide) (by decide) (fun w => by kernel_rfl) (by rw [Value.cells, List.size_toArray, bvL]; exact hhc) ?_); intro wc hn; have HC := hide (And.intro (hn.src (cs := bv x.1) (n := 20) (by rw [bvL]; exact hxo) (bv1 x.1)) (And.intro (owned_keepN HB.out.2.2.2.1 fun g _ hl9 => (HBX.out.2.trans (Below.mono hn.below HBX.out.2.size)).block g hl9) (HBX.out.2.trans (Below.mono hn.below HBX.out.2.size)))); clear hn; simp only [Act.put, List.setIfInBounds_toArray, List.set_cons_zero, List.set_cons_succ]) | (at_builtin; ((with_reducible refine at_slot 30 ?_); refine wpList_appS (o := ⟨some 30, _, _, _, _, _⟩) rfl _ _ 45 rfl w1.heap.size 27 ih _ 20 20 Try.underlying45 HJ.out.1 HJ.out.2.1 HJ.out.2.2.1 HJ.out.2.2.2 rfl (by decide) _ (((usersT l c j) ++ addU x c k).length) (((usersT l c j) ++ addU x c k).flatMap bv) HC.out.2.1 (some ⟨wb.heap.size, 0, none⟩) 1 1 (bv x.1) HC.out.1 ?hm1 ?hb1 ?hz1 rfl rfl ?_)))
            case hm1 => have := addU_le x c k; (try rw [List.length_append]); simp only [maxLen]; omega
            case hb1 => have := addU_le x c k; (try rw [List.length_append]); omega
            case hz1 => have := HB.out.2.2.2.2.2.2; have := HZ9.out.2.2; have := HZ9.out.1; have := HC.out.2.2.size; have := HZ1.out; omega
            intro u9 wd own9 gr9 hub9
            have h9 : wd.ownsRow w1.heap.size 27 20 u9 ((usersT l c j) ++ addU x c (k + 1)).length (((usersT l c j) ++ addU x c (k + 1)).flatMap bv) := by rw [HADS.out.2]; have e := HADS.out.1; rw [e] at own9; simpa using own9
            have hwo : w1.heap.size ≤ wo.heap.size := HZ1.out.2
            have hbi9 := HB.out.1.below HC.out.2.2 HB.out.1.lt
            have hbc9 := HB.out.2.1.below HC.out.2.2 HB.out.2.1.lt
            have hoc9 := owned_keepN HB.out.2.2.1 fun g _ hl9 => HC.out.2.2.block g hl9
            have r1 : Blk wd wo.heap.size 43 (tC x q1 q2).toArray := (gr9.block _ hbi9.lt (fun e => owned_neN HC.out.2.1 hbi9 (by decide) e.symm)).trans hbi9
            have r2 : Blk wd w.heap.size 27 (bv c).toArray := (gr9.block _ hbc9.lt (fun e => by have := (owned_ltN HC.out.2.1 e.symm).1; have := H1.out.size; omega)).trans hbc9
            have r3 := owned_keepN hoc9 fun g hg hl9 => gr9.block g hl9 (fun e => by have h1 := owned_ltN H9.out.2.2.1 hg; rcases HB.out.2.2.2.2.1 g e.symm with h2 | h2 <;> omega)
            have r4 : ∀ g, u9.ownBlock = some g → g < w8.heap.size ∨ w9.heap.size ≤ g := fun g hg => by
              rcases hub9 with h1 | h1
              · exact HB.out.2.2.2.2.1 g (by rw [← h1]; exact hg)
              · rw [h1] at hg
                have := Option.some.inj hg
                have h2 := HB.out.2.2.2.2.2.2
                have h3 := HC.out.2.2.size
                have h4 := HBX.out.2.size
                exact .inr (by omega)
            have r5 : Below w.heap.size w wd := (HB.out.2.2.2.2.2.1.trans (Below.mono HC.out.2.2 HB.out.2.2.2.2.2.1.size)).grown gr9 (Nat.le_trans HB.out.2.2.2.2.2.1.size HC.out.2.2.size) (fun k9 hk9 => by have := (owned_ltN HC.out.2.1 hk9).1; have := H1.out.size; omega)
            have r6 : w9.heap.size ≤ wd.heap.size := Nat.le_trans HB.out.2.2.2.2.2.2 (Nat.le_trans HC.out.2.2.size gr9.size)
            have HG := hide (And.intro r1 (And.intro r2 (And.intro r3 (And.intro h9 (And.intro r4 (And.intro r5 r6))))))
            clear own9 gr9 h9 hub9 r1 r2 r3 r4 r5 r6 hbi9 hbc9 hoc9
            go_wp2_with fail
            go_roundw
            case rel => exact ⟨k + 1, u9, by omega, rfl, by go_num, HG.out⟩
            case measure => simp [intOf]; omega
          · have hd := decide_eq_false hzc
            have HD := hide hd
            rw [if_neg hzc] at HADS
            clear hd hzc
            go_wp2_with (first | ((with_reducible refine at_slot 21 ?_); (refine wpList_value (o := ⟨some 21, _, _, _, _, _⟩) rfl (.pointer (some ⟨g5, k * 20, none⟩)) wi (exec_idx0 45 27 (.tmp 17) (.tmp 19) rfl g5 N cc k rfl rfl hk2 20 Try.underlying45 sz_hash wi) ?_)) | ((with_reducible refine at_slot 22 ?_); (refine wpList_value (o := ⟨some 22, _, _, _, _, _⟩) rfl (.agg (bv z).toArray) wi (exec_load_mid (o := ⟨some 22, _, _, _, _, _⟩) 27 (.tmp 21) rfl g5 (k * 20) rfl (bv z) _ wi HRZ.out Try.underlying27 rfl hszy) ?_)) | ((with_reducible refine at_slot 8 ?_); ((with_reducible refine wpList_box (o1 := ⟨some 8, _, _, _, _, _⟩) (o2 := ⟨none, _, _, _, _, _⟩) rfl rfl 27 (.tmp 8) (.tmp 22) ?_ zcH (bv z).toArray ?_ hszy2 ?_ hone ?_ ?_ ?_); rfl; kernel_rfl; exact hszz; rfl; rfl; intro wb hmm hbb; have HBX := hide (And.intro hmm hbb); clear hmm hbb; simp only [Act.put, List.setIfInBounds_toArray, List.set_cons_zero, List.set_cons_succ])) | ((with_reducible refine at_slot 23 ?_); (refine wpList_value (o := ⟨some 23, _, _, _, _, _⟩) rfl (.agg ((bv z).toArray)) wb (exec_load_blk (o := ⟨some 23, _, _, _, _, _⟩) 27 (.tmp 8) rfl wi.heap.size rfl 27 _ _ wb HBX.out.1 Try.underlying27 rfl hszy2) ?_)) | ((with_reducible refine at_slot 24 ?_); (refine wpList_value (o := ⟨some 24, _, _, _, _, _⟩) rfl (.agg ((bv c).toArray)) wb (exec_load_blk (o := ⟨some 24, _, _, _, _, _⟩) 27 (.tmp 3) rfl w.heap.size rfl 27 _ _ wb (HB.out.2.1.below HBX.out.2 HB.out.2.1.lt) Try.underlying27 rfl hszc) ?_)) | ((with_reducible refine at_slot 25 ?_); (refine wpList_value (o := ⟨some 25, _, _, _, _, _⟩) rfl (.bool false) wb (exec_binop_agg (o := ⟨some 25, _, _, _, _, _⟩) .eql 27 (.tmp 23) (.tmp 24) _ rfl (bv z).toArray (bv c).toArray rfl rfl (by kernel_rfl) _ (fun W => by have h := bin_eq_hash z c HZO.out.1 hc W; rw [HD.out] at h; exact h) wb) ?_)))
            go_roundw
            case rel => exact ⟨k + 1, u4, by omega, rfl, by go_num, HB.out.1.below HBX.out.2 HB.out.1.lt, HB.out.2.1.below HBX.out.2 HB.out.2.1.lt, owned_keepN HB.out.2.2.1 (fun g _ hl9 => HBX.out.2.block g hl9), by rw [HADS.out]; exact owned_keepN HB.out.2.2.2.1 (fun g _ hl9 => HBX.out.2.block g hl9), HB.out.2.2.2.2.1, HB.out.2.2.2.2.2.1.trans (Below.mono HBX.out.2 HB.out.2.2.2.2.2.1.size), Nat.le_trans HB.out.2.2.2.2.2.2 HBX.out.2.size⟩
            case measure => simp [intOf]; omega
        · obtain rfl : k = N := by omega
          have hfin : (usersT l c (j + 1)) = (usersT l c j) ++ addU x c k := by rw [HCO.out.2]; exact usersT_step HXX.out
          have HF := hide hfin
          clear hfin
          go_wp2_with fail
          go_roundw
          case rel => exact ⟨j + 1, u4, by omega, rfl, by go_num, HB.out.2.1, by rw [HF.out]; exact HB.out.2.2.2.1, HB.out.2.2.2.2.2.1⟩
          case measure => simp [intOf]; omega
    · obtain rfl : j = l.length := by omega
      have ho := HI.out.2.1
      rw [usersT_all] at ho
      have HO := hide ho
      clear ho
      go_wp2_with fail
      go_ret
      exact ⟨_, rfl, owned_baseN HO.out (fun g hg => by have := (owned_ltN HO.out hg).1; have := H1.out.size; omega), HI.out.2.2⟩
end Go.Proofs.Ytidiepbmbbflhaa
end
section
namespace Go.Proofs.Ytidiepbmbbflhaa.Sha
open Go

abbrev W := BitVec 32

/-- a byte as a word -/
def bw (b : UInt8) : W := BitVec.ofNat 32 b.toNat

/-- a word, right-turned by some numbers, put together -/
def mix (x : W) (ks : List Nat) : W := ks.foldl (fun acc k => acc ^^^ x.rotateRight k) 0

/-- four bytes of a block, the highest first -/
def word (b : List UInt8) (t : Nat) : W := (bw (b.getD (4 * t) 0) <<< 24) ||| (bw (b.getD (4 * t + 1) 0) <<< 16) ||| (bw (b.getD (4 * t + 2) 0) <<< 8) ||| bw (b.getD (4 * t + 3) 0)

/-- the words of a block, up to number n -/
def ws (b : List UInt8) : Nat → List W
  | 0 => []
  | t + 1 => ws b t ++ [if t < 16 then word b t else
      (mix ((ws b t).getD (t - 2) 0) [17, 19] ^^^ ((ws b t).getD (t - 2) 0) >>> 10) + (ws b t).getD (t - 7) 0 + (mix ((ws b t).getD (t - 15) 0) [7, 18] ^^^ ((ws b t).getD (t - 15) 0) >>> 3) + (ws b t).getD (t - 16) 0]
theorem length_ws (b : List UInt8) (t : Nat) : (ws b t).length = t := by induction t with | zero => rfl | succ t ih => simp [ws, ih]

/-- the constants of the rounds -/
def ks : List W := [
  0x428a2f98, 0x71374491, 0xb5c0fbcf, 0xe9b5dba5, 0x3956c25b, 0x59f111f1, 0x923f82a4, 0xab1c5ed5,
  0xd807aa98, 0x12835b01, 0x243185be, 0x550c7dc3, 0x72be5d74, 0x80deb1fe, 0x9bdc06a7, 0xc19bf174,
  0xe49b69c1, 0xefbe4786, 0x0fc19dc6, 0x240ca1cc, 0x2de92c6f, 0x4a7484aa, 0x5cb0a9dc, 0x76f988da,
  0x983e5152, 0xa831c66d, 0xb00327c8, 0xbf597fc7, 0xc6e00bf3, 0xd5a79147, 0x06ca6351, 0x14292967,
  0x27b70a85, 0x2e1b2138, 0x4d2c6dfc, 0x53380d13, 0x650a7354, 0x766a0abb, 0x81c2c92e, 0x92722c85,
  0xa2bfe8a1, 0xa81a664b, 0xc24b8b70, 0xc76c51a3, 0xd192e819, 0xd6990624, 0xf40e3585, 0x106aa070,
  0x19a4c116, 0x1e376c08, 0x2748774c, 0x34b0bcb5, 0x391c0cb3, 0x4ed8aa4a, 0x5b9cca4f, 0x682e6ff3,
  0x748f82ee, 0x78a5636f, 0x84c87814, 0x8cc70208, 0x90befffa, 0xa4506ceb, 0xbef9a3f7, 0xc67178f2]

/-- eight words -/
structure St where
  a : W
  b : W
  c : W
  d : W
  e : W
  f : W
  g : W
  h : W
deriving DecidableEq

def St.list (s : St) : List W := [s.a, s.b, s.c, s.d, s.e, s.f, s.g, s.h]
def first : St := ⟨0x6a09e667, 0xbb67ae85, 0x3c6ef372, 0xa54ff53a, 0x510e527f, 0x9b05688c, 0x1f83d9ab, 0x5be0cd19⟩

/-- the two sums of a round -/
def rp (s : St) (k w : W) : W := s.h + mix s.e [6, 11, 25] + (s.g ^^^ (s.e &&& (s.f ^^^ s.g))) + k + w
def rq (s : St) : W := mix s.a [2, 13, 22] + ((s.a &&& (s.b ||| s.c)) ||| (s.b &&& s.c))
/-- a round -/
def rnd (s : St) (k w : W) : St := ⟨rp s k w + rq s, s.a, s.b, s.c, s.d + rp s k w, s.e, s.f, s.g⟩
/-- so many rounds -/
def rnds (s : St) (b : List UInt8) : Nat → St
  | 0 => s
  | t + 1 => rnd (rnds s b t) (ks.getD t 0) ((ws b 64).getD t 0)
def St.add (s t : St) : St := ⟨s.a + t.a, s.b + t.b, s.c + t.c, s.d + t.d, s.e + t.e, s.f + t.f, s.g + t.g, s.h + t.h⟩
/-- a block -/
def comp (s : St) (b : List UInt8) : St := s.add (rnds s b 64)

/-- the bytes of eight words -/
def out (s : St) : List UInt8 := (List.range 32).map fun i => UInt8.ofNat (((s.list.getD (i / 4) 0) >>> (24 - i % 4 * 8)).toNat % 256)

end Go.Proofs.Ytidiepbmbbflhaa.Sha
end
section
namespace Go.Proofs.Ytidiepbmbbflhaa
/-- a number's bytes -/
def num (n : Nat) : List UInt8 := if n < 128 then [UInt8.ofNat n] else UInt8.ofNat (n % 128 + 128) :: num (n / 128)
termination_by n
decreasing_by omega
theorem num_lo {n : Nat} (h : n < 128) : num n = [UInt8.ofNat n] := by rw [num, if_pos h]
theorem num_hi {n : Nat} (h : ¬ n < 128) : num n = UInt8.ofNat (n % 128 + 128) :: num (n / 128) := by rw [num, if_neg h]
theorem num_pos (n : Nat) : 0 < (num n).length := by
  by_cases h : n < 128
  · rw [num_lo h]; simp
  · rw [num_hi h]; simp
theorem num_le (k : Nat) : ∀ n, n < 128 ^ (k + 1) → (num n).length ≤ k + 1 := by
  induction k with
  | zero => intro n h; rw [num_lo (by omega)]; simp
  | succ k ih =>
    intro n h
    by_cases h1 : n < 128
    · rw [num_lo h1]; simp
    · rw [num_hi h1, List.length_cons]
      have h2 : n / 128 < 128 ^ (k + 1) := by rw [Nat.div_lt_iff_lt_mul (by omega)]; rw [Nat.pow_succ] at h; exact h
      have := ih _ h2
      omega
theorem num_len (n : Nat) (h : n < 18446744073709551616) : (num n).length ≤ 10 := num_le 9 n (by omega)
end Go.Proofs.Ytidiepbmbbflhaa
end
section
namespace Go.Proofs.Ytidiepbmbbflhaa
open Go.RowKit

/-! words as numbers: a name that the walk does not look behind -/
def U (x : Sha.W) : Int := (x.toNat : Int)
theorem U_lo (x : Sha.W) : 0 ≤ U x := by unfold U; omega
theorem U_hi (x : Sha.W) : U x ≤ 4294967295 := by unfold U; have := x.isLt; omega
theorem U_zero : U 0 = 0 := rfl
theorem U_xor (x y : Sha.W) : bits .xor .u32 (U x) (U y) = U (x ^^^ y) := by
  unfold U; rw [u32_xor_nat _ _ x.isLt y.isLt, BitVec.toNat_xor]
theorem U_or (x y : Sha.W) : bits .or .u32 (U x) (U y) = U (x ||| y) := by
  unfold U; rw [u32_or_nat _ _ x.isLt y.isLt, BitVec.toNat_or]
theorem U_and (x y : Sha.W) : bits .and .u32 (U x) (U y) = U (x &&& y) := by
  unfold U; rw [u32_and_nat _ _ x.isLt y.isLt, BitVec.toNat_and]
theorem U_add' (x y : Sha.W) : (U x + U y) % 4294967296 = U (x + y) := by
  unfold U; rw [BitVec.toNat_add]; omega
theorem U_add (x y : Sha.W) : IntKind.u32.wrap (U x + U y) = U (x + y) := by
  rw [IntKind.wrap_u32', U_add']
theorem U_shl (x : Sha.W) (j : Nat) : U x * 2 ^ j % 4294967296 = U (x <<< j) := by
  unfold U; rw [BitVec.toNat_shiftLeft, Nat.shiftLeft_eq, Int.natCast_emod, Int.natCast_mul, Int.natCast_pow]; rfl
theorem U_shr (x : Sha.W) (j : Nat) : U x / 2 ^ j = U (x >>> j) := by
  unfold U; rw [BitVec.toNat_ushiftRight, Nat.shiftRight_eq_div_pow, Int.natCast_ediv, Int.natCast_pow]; rfl
theorem U_shr10 (x : Sha.W) : U x / 1024 = U (x >>> 10) := U_shr x 10
theorem U_shr3 (x : Sha.W) : U x / 8 = U (x >>> 3) := U_shr x 3
theorem U_bw (b : UInt8) : U (Sha.bw b) = (b.toNat : Int) := by
  unfold U Sha.bw; rw [BitVec.toNat_ofNat]; have := b.toNat_lt; omega

theorem and31 (k : Nat) (h1 : 1 ≤ k) (h2 : k ≤ 31) : bits .and .u64 (IntKind.u64.wrap (-(k:Int))) 31 = ((32 - k : Nat) : Int) := by
  have e : IntKind.u64.wrap (-(k:Int)) = ((18446744073709551616 - k : Nat) : Int) := by
    rw [IntKind.wrap_u64]; omega
  rw [e, show (31 : Int) = ((31 : Nat) : Int) from rfl, u64_and_nat _ _ (by omega) (by omega), nat_mask5]
  omega
theorem rot_eq (x : Sha.W) (k j : Nat) (h1 : 1 ≤ k) (h2 : k ≤ 31) (hj : j = 32 - k) :
    bits BinOp.or IntKind.u32 (U x * 2 ^ j % 4294967296) (U x / 2 ^ (32 - j)) = U (x.rotateRight k) := by
  subst hj
  rw [U_shl, U_shr, U_or, show 32 - (32 - k) = k by omega]
  congr 1
  rw [BitVec.or_comm, BitVec.rotateRight_def, Nat.mod_eq_of_lt (by omega)]

set_option maxHeartbeats 400000 in
theorem rot_any (x : Sha.W) (k : Nat) (h1 : 1 ≤ k) (h2 : k ≤ 31) (w : World) :
    Calls Try.prog 83 #[.int .u32 (U x), .int .i64 (-(k:Int))] w fun e w' => e = .returned (.int .u32 (U (x.rotateRight k))) ∧ w = w' := by
  have ha := and31 k h1 h2
  obtain ⟨j, hj⟩ : ∃ j, j = 32 - k := ⟨_, rfl⟩
  rw [← hj] at ha
  have hj1 : 1 ≤ j := by omega
  have hj2 : j ≤ 31 := by omega
  have H := hide hj
  clear hj
  go_enter Try.func83, Try.ntmps83
  go_wp2
  go_ret
  exact ⟨ret_int (rot_eq x k j h1 h2 H.out), rfl⟩

theorem mix_snoc (x : Sha.W) (l : List Nat) (k : Nat) : Sha.mix x (l ++ [k]) = Sha.mix x l ^^^ x.rotateRight k := by
  simp [Sha.mix, List.foldl_append]
theorem mix_step (x : Sha.W) (l : List Nat) (k : Nat) (hk : k < l.length) : Sha.mix x (l.take (k + 1)) = Sha.mix x (l.take k) ^^^ x.rotateRight (l.getD k 0) := by
  rw [List.take_succ_eq_append_getElem hk, mix_snoc]; simp [List.getD, hk]

set_option maxHeartbeats 400000 in
theorem mixed_any (x : Sha.W) (l : List Nat) (hl : ∀ k, k < l.length → 1 ≤ l.getD k 0 ∧ l.getD k 0 ≤ 31) (h8 : l.length ≤ 8) (b c : Nat) (w : World)
    (hc : ∀ k, k < l.length → w.cell? ⟨b, k, none⟩ = some (.int .i64 ((l.getD k 0 : Nat) : Int))) :
    Calls Try.prog 79 #[.int .u32 (U x), .slice (some ⟨b, 0, none⟩) l.length c] w fun e w' => e = .returned (.int .u32 (U (Sha.mix x l))) ∧ w = w' := by
  have HL := hide hl
  have HC := hide hc
  clear hl hc
  go_enter Try.func79, Try.ntmps79
  go_wp2
  go_loop [4, 9] (fun a i => ∃ k : Nat, k ≤ l.length ∧ i = .int .i64 k ∧ a = .int .u32 (U (Sha.mix x (l.take k)))) (fun _ i => l.length - (intOf i).toNat)
  case atStart => exact ⟨0, Nat.zero_le _, rfl, by rw [List.take_zero]; rfl⟩
  case round =>
    obtain ⟨k, hk, rfl, rfl⟩ := hrel
    by_cases hlt : k < l.length
    · have hx := U_xor (Sha.mix x (l.take k)) (x.rotateRight (l.getD k 0))
      have hb := HL.out k hlt
      have hcell := HC.out k hlt
      obtain ⟨d, hd⟩ : ∃ d, d = l.getD k 0 := ⟨_, rfl⟩
      rw [← hd] at hx hcell hb
      have HD := hide hd
      clear hd
      obtain ⟨hb1, hb2⟩ := hb
      go_wp2_with (go_at_call 83; refine (rot_any _ _ hb1 hb2 _).mono ?_; rintro e w' ⟨rfl, rfl⟩)
      go_round
      case rel => exact ⟨k + 1, by omega, by go_num, by rw [mix_step x l k hlt, ← HD.out]⟩
      case measure => simp [intOf]; omega
    · go_wp2
      go_ret
      exact ⟨ret_int (by rw [List.take_of_length_le (by omega)]), rfl⟩

theorem mixed2_any (x : Sha.W) (a b : Nat) (ha : 1 ≤ a ∧ a ≤ 31) (hb : 1 ≤ b ∧ b ≤ 31) (g c : Nat) (w : World) (h0 : w.cell? ⟨g, 0, none⟩ = some (.int .i64 (a : Int))) (h1 : w.cell? ⟨g, 1, none⟩ = some (.int .i64 (b : Int))) :
    Calls Try.prog 79 #[.int .u32 (U x), .slice (some ⟨g, 0, none⟩) 2 c] w fun e w' => e = .returned (.int .u32 (U (Sha.mix x [a, b]))) ∧ w = w' :=
  mixed_any x [a, b] (fun k hk => by match k, hk with | 0, _ => exact ha | 1, _ => exact hb) (by simp) g c w (fun k hk => by match k, hk with | 0, _ => exact h0 | 1, _ => exact h1)
theorem mixed3_any (x : Sha.W) (a b d : Nat) (ha : 1 ≤ a ∧ a ≤ 31) (hb : 1 ≤ b ∧ b ≤ 31) (hd : 1 ≤ d ∧ d ≤ 31) (g c : Nat) (w : World) (h0 : w.cell? ⟨g, 0, none⟩ = some (.int .i64 (a : Int))) (h1 : w.cell? ⟨g, 1, none⟩ = some (.int .i64 (b : Int)))
    (h2 : w.cell? ⟨g, 2, none⟩ = some (.int .i64 (d : Int))) :
    Calls Try.prog 79 #[.int .u32 (U x), .slice (some ⟨g, 0, none⟩) 3 c] w fun e w' => e = .returned (.int .u32 (U (Sha.mix x [a, b, d]))) ∧ w = w' :=
  mixed_any x [a, b, d] (fun k hk => by match k, hk with | 0, _ => exact ha | 1, _ => exact hb | 2, _ => exact hd) (by simp) g c w (fun k hk => by match k, hk with | 0, _ => exact h0 | 1, _ => exact h1 | 2, _ => exact h2)
end Go.Proofs.Ytidiepbmbbflhaa
end
section
namespace Go.Proofs.Ytidiepbmbbflhaa
open Go.RowKit
def uv (l : List Sha.W) : Array Value := (l.map fun x => Value.int .u32 (U x)).toArray
theorem uv_one (l : List Sha.W) : (uv l).all (·.oneCell') = true := by
  rw [Array.all_eq_true_iff_forall_mem]; intro v hv; simp [uv] at hv; obtain ⟨x, _, rfl⟩ := hv; rfl
theorem uv_get (l : List Sha.W) (i : Nat) (h : i < l.length) : (uv l)[i]? = some (.int .u32 (U (l.getD i 0))) := by
  simp [uv, h, List.getD]
theorem uv_set (l : List Sha.W) (i : Nat) (x : Sha.W) : (uv l).setIfInBounds i (.int .u32 (U x)) = uv (l.set i x) := by
  simp [uv, List.map_set]
theorem uv_size (l : List Sha.W) : (uv l).size = l.length := by simp [uv]
def uz : Array Value := uv (List.replicate 64 0)
theorem size147 : (Try.prog.info? 149).map (·.size) = some 64 := by kernel_rfl

set_option maxHeartbeats 400000 in
theorem first_any (w : World) : Calls Try.prog 58 #[] w fun e w' => e = .returned (.agg (uv Sha.first.list)) ∧ Below w.heap.size w w' := by
  go_enter Try.func58, Try.ntmps58
  go_wp2
  exact bodyPost_ret (results_cell_row rfl _ _ w.heap.size 115 _ (0,0) _ rfl (heap_alloc_new _ _) Try.underlying115 rfl (by kernel_rfl)) rfl ⟨rfl, (Below.refl _ _).alloc (Nat.le_refl _) _⟩

set_option maxHeartbeats 400000 in
theorem rounds_any (w : World) : Calls Try.prog 77 #[] w fun e w' => e = .returned (.agg (uv Sha.ks)) ∧ Below w.heap.size w w' := by
  go_enter Try.func77, Try.ntmps77
  go_step
  go_step
  apply wp_region_lit
  refine wpList_value (o := ⟨some 0, _, _, _, _, _⟩) rfl (.pointer (some ⟨w.heap.size, 0, none⟩)) (w.alloc (.cells uz 149)) ?ha ?_
  case ha => kernel_rfl
  dsimp only [Act.put, List.setIfInBounds_toArray, List.set_cons_zero, List.set_cons_succ]
  go_step
  go_step
  go_step
  go_step
  apply wp_region_lit
  refine wpList_value (o := ⟨some 1, _, _, _, _, _⟩) rfl (.agg (uv Sha.ks)) (w.alloc (.cells uz 149)) ?hb ?_
  case hb => kernel_rfl
  dsimp only [Act.put, List.setIfInBounds_toArray, List.set_cons_zero, List.set_cons_succ]
  refine wpList_store_blk (o := ⟨none, _, _, _, _, _⟩) rfl 149 _ _ rfl w.heap.size uz (uv Sha.ks) 149 (Blk.new _ _ _) (by rw [uv_size]; exact size147) (by rw [uv_size, uz, uv_size, List.length_replicate]; rfl) (uv_one _) rfl rfl ?_
  rw [World.setRow_alloc_new]
  dsimp only [Act.put]
  go_wp2
  exact bodyPost_ret (results_cell_row rfl _ _ w.heap.size 149 _ (0,0) _ rfl (heap_alloc_new _ _) Try.underlying149 rfl size147) rfl ⟨rfl, (Below.refl _ _).alloc (Nat.le_refl _) _⟩
/-- the words of a block so far, and noughts -/
def wz (B : List UInt8) (t : Nat) : List Sha.W := Sha.ws B t ++ List.replicate (64 - t) 0
theorem length_wz (B : List UInt8) (t : Nat) (h : t ≤ 64) : (wz B t).length = 64 := by simp [wz, Sha.length_ws]; omega

theorem wz_get (B : List UInt8) (t i : Nat) (h : i < t) : (wz B t).getD i 0 = (Sha.ws B t).getD i 0 := by
  simp [wz, List.getD, List.getElem?_append, Sha.length_ws, h]
theorem wz_step (B : List UInt8) (t : Nat) (x : Sha.W) (ht : t < 64) (hx : Sha.ws B (t + 1) = Sha.ws B t ++ [x]) : (wz B t).set t x = wz B (t + 1) := by
  unfold wz
  rw [hx, List.set_append_right _ _ (by rw [Sha.length_ws]; exact Nat.le_refl _), Sha.length_ws, Nat.sub_self, show 64 - t = (64 - (t + 1)) + 1 by omega, List.replicate_succ, List.set_cons_zero, List.append_assoc]
  rfl
theorem r17 : 1 ≤ 17 ∧ 17 ≤ 31 := by decide
theorem r19 : 1 ≤ 19 ∧ 19 ≤ 31 := by decide
theorem r7 : 1 ≤ 7 ∧ 7 ≤ 31 := by decide
theorem r18 : 1 ≤ 18 ∧ 18 ≤ 31 := by decide
theorem U_shr10' (x : Sha.W) : U x / (1024 : Int) = U (x >>> 10) := U_shr x 10
theorem U_shr3' (x : Sha.W) : U x / (8 : Int) = U (x >>> 3) := U_shr x 3
theorem byte_word (b : UInt8) : (b.toNat : Int) % 4294967296 = U (Sha.bw b) := by
  rw [U_bw]; have := b.toNat_lt; omega
theorem word_eq (B : List UInt8) (t : Nat) (x0 x1 x2 x3 : UInt8) (h : B.getD (4 * t) 0 = x0 ∧ B.getD (4 * t + 1) 0 = x1 ∧ B.getD (4 * t + 2) 0 = x2 ∧ B.getD (4 * t + 3) 0 = x3) :
    bits BinOp.or IntKind.u32 (bits BinOp.or IntKind.u32 (bits BinOp.or IntKind.u32 ((x0.toNat : Int) % 4294967296 * 16777216 % 4294967296) ((x1.toNat : Int) % 4294967296 * 65536 % 4294967296))
      ((x2.toNat : Int) % 4294967296 * 256 % 4294967296)) ((x3.toNat : Int) % 4294967296) = U (Sha.word B t) := by
  obtain ⟨rfl, rfl, rfl, rfl⟩ := h
  simp only [byte_word]
  rw [show (16777216 : Int) = 2 ^ 24 from rfl, show (65536 : Int) = 2 ^ 16 from rfl, show (256 : Int) = 2 ^ 8 from rfl, U_shl, U_shl, U_shl, U_or, U_or, U_or]
  rfl

set_option maxRecDepth 100000 in
set_option maxHeartbeats 1000000 in
theorem spread_any (B : List UInt8) (_hB : B.length = 64) (g off : Nat) (w : World)
    (hc : ∀ j, j < 64 → w.cell? ⟨g, off + j, none⟩ = some (.int .u8 ((B.getD j 0).toNat : Int))) :
    Calls Try.prog 78 #[.pointer (some ⟨g, off, none⟩)] w fun e w' => e = .returned (.agg (uv (Sha.ws B 64))) ∧ Below w.heap.size w w' := by
  have hg : g < w.heap.size := World.block_lt_of_cell? w _ (hc 0 (by omega))
  have HC := hide hc
  clear hc
  obtain ⟨N, hN⟩ : ∃ N, N = w.heap.size := ⟨_, rfl⟩
  have HN := hide hN
  clear hN
  go_enter Try.func78, Try.ntmps78
  go_step
  go_step
  apply wp_region_lit
  refine wpList_value (o := ⟨some 2, _, _, _, _, _⟩) rfl (.pointer (some ⟨N, 0, none⟩)) (w.alloc (.cells uz 149)) (by rw [HN.out]; kernel_rfl) ?_
  dsimp only [Act.put, List.setIfInBounds_toArray, List.set_cons_zero, List.set_cons_succ]
  obtain ⟨w1, hw1⟩ : ∃ w1, w1 = w.alloc (.cells uz 149) := ⟨_, rfl⟩
  rw [← hw1]
  have hb0 : Blk w1 N 149 (uv (wz B 0)) := by rw [hw1, HN.out]; exact Blk.new _ _ _
  have hb1 : Below N w w1 := by rw [hw1, HN.out]; exact (Below.refl _ _).alloc (Nat.le_refl _) _
  clear hw1
  go_wp2
  go_loopw [7] (fun i wr => ∃ t : Nat, t ≤ 64 ∧ i = .int .i64 t ∧ Blk wr N 149 (uv (wz B t)) ∧ Below N w wr) (fun i _ => 64 - (intOf i).toNat)
  case atStart => exact ⟨0, by omega, rfl, hb0, hb1⟩
  case round =>
    obtain ⟨t, ht, rfl, hbk, hbel⟩ := hrel
    clear hb0 hb1
    by_cases h64 : t < 64
    · by_cases h16 : t < 16
      · have hcell : ∀ j, j < 64 → wr.cell? ⟨g, off + j, none⟩ = some (.int .u8 ((B.getD j 0).toNat : Int)) := fun j hj => (hbel.cell (by rw [HN.out]; exact hg)).trans (HC.out j hj)
        have c0 := hcell (4 * t) (by omega)
        have c1 := hcell (4 * t + 1) (by omega)
        have c2 := hcell (4 * t + 2) (by omega)
        have c3 := hcell (4 * t + 3) (by omega)
        clear hcell
        have cN := hbk.cell t
        rw [uv_get _ _ (by rw [length_wz _ _ ht]; omega)] at cN
        have fN := hbk.frozen t
        generalize hx0 : B.getD (4 * t) 0 = x0 at *
        generalize hx1 : B.getD (4 * t + 1) 0 = x1 at *
        generalize hx2 : B.getD (4 * t + 2) 0 = x2 at *
        generalize hx3 : B.getD (4 * t + 3) 0 = x3 at *
        have HX := hide (And.intro hx0 (And.intro hx1 (And.intro hx2 hx3)))
        clear hx0 hx1 hx2 hx3
        have HB := hide hbk
        clear hbk
        go_wp2_with fail
        refine wp_quiet_tail_drewN 35 (by kernel_rfl) (by kernel_rfl) ?_
        simp only [List.take_succ_cons, List.take_zero, List.drop_succ_cons, List.drop_zero]
        repeat (go_big_quiet_step (fail))
        refine wpQuiet_nil ?_
        intro nq
        go_wp2
        go_roundw
        case rel =>
          refine ⟨t + 1, by omega, by go_num, ?_, ?_⟩
          · rw [word_eq B t x0 x1 x2 x3 HX.out]
            have := (HB.out.drewN nq).set_ t (.int .u32 (U (Sha.word B t)))
            rwa [uv_set, wz_step B t _ h64 (by simp [Sha.ws, h16])] at this
          · exact (below_drewN hbel nq).setCell (Nat.le_refl _) _
        case measure => simp [intOf]; omega
      · have hl := length_wz B t ht
        have hcell : ∀ j, j < t → wr.cell? ⟨N, j, none⟩ = some (.int .u32 (U ((Sha.ws B t).getD j 0))) := fun j hj => by
          rw [hbk.cell, uv_get _ _ (by omega), wz_get _ _ _ hj]
        have c2 := hcell (t - 2) (by omega)
        have c15 := hcell (t - 15) (by omega)
        have c7 := hcell (t - 7) (by omega)
        have c16 := hcell (t - 16) (by omega)
        clear hcell
        obtain ⟨v0, hv0⟩ : ∃ v0, v0 = Value.int .u32 (U ((wz B t).getD t 0)) := ⟨_, rfl⟩
        have cN := hbk.cell t
        rw [uv_get _ _ (by rw [hl]; omega), ← hv0] at cN
        clear hv0
        have fN := hbk.frozen t
        have hsz : N < wr.heap.size := hbk.lt
        generalize hx2 : (Sha.ws B t).getD (t - 2) 0 = x2 at *
        generalize hx15 : (Sha.ws B t).getD (t - 15) 0 = x15 at *
        generalize hx7 : (Sha.ws B t).getD (t - 7) 0 = x7 at *
        generalize hx16 : (Sha.ws B t).getD (t - 16) 0 = x16 at *
        have HX := hide (And.intro hx2 (And.intro hx15 (And.intro hx7 hx16)))
        clear hx2 hx15 hx7 hx16 hl
        have HB := hide hbk
        clear hbk
        go_wp2_with fail
        go_quiet (fail)
        have n1 : (0 : Int) ≤ (t : Int) := by omega
        have n2 : (t : Int) < 64 := by omega
        have n3 : (0 : Int) ≤ (t : Int) - 7 := by omega
        have n4 : (t : Int) - 7 < 64 := by omega
        have n5 : (0 : Int) ≤ (t : Int) - 16 := by omega
        have n6 : (t : Int) - 16 < 64 := by omega
        have m7 : IntKind.i64.wrap ((t : Int) - 7) = (t : Int) - 7 := IntWalk.i64_in _ (by omega)
        have m16 : IntKind.i64.wrap ((t : Int) - 16) = (t : Int) - 16 := IntWalk.i64_in _ (by omega)
        have o7 : ((t : Int) - 7).toNat = t - 7 := by omega
        have o16 : ((t : Int) - 16).toNat = t - 16 := by omega
        have n7 : (7 : Int) ≤ (t : Int) := by omega
        have n8 : (16 : Int) ≤ (t : Int) := by omega
        have hfr : ∀ (W : World) (c : Array Value) (ty : TypeId) (p : Addr), (W.alloc (.cells c ty)).frozen? p = W.frozen? p := frozen?_alloc_cells
        have hcl : ∀ (k : Nat) (c : Array Value) (ty : TypeId), ((wr.drewN k).alloc (.cells c ty)).cell? ⟨N, t, none⟩ = some v0 := fun k c ty => (World.cell?_alloc_lt _ _ _ hsz).trans cN
        have hsz1 : N < wr.heap.size + 1 := by omega
        have hz1 : ∀ k, N < (wr.drewN k).heap.size := fun _ => hsz
        have hz2 : ∀ k, N < (wr.drewN k).heap.size + 1 := fun _ => hsz1
        have hk : ∀ (j k : Nat) (c c' : Array Value) (ty ty' : TypeId) (v u : Value), j ≠ t → wr.cell? ⟨N, j, none⟩ = some u → ((((wr.drewN k).alloc (.cells c ty)).setCell ⟨N, t, none⟩ v).alloc (.cells c' ty')).cell? ⟨N, j, none⟩ = some u := by
          intro j k c c' ty ty' v u hj hu
          rw [World.cell?_alloc_lt _ _ _ (by simp [World.setCell]; omega), World.cell?_setCell_other _ _ _ _ (by intro h; injection h with _ h2; exact hj h2.symm), World.cell?_alloc_lt _ _ _ hsz]
          exact hu
        have hk7 := fun k c c' ty ty' v => hk (t - 7) k c c' ty ty' v _ (by omega) c7
        have hk16 := fun k c c' ty ty' v => hk (t - 16) k c c' ty ty' v _ (by omega) c16
        clear hk
        have a1 := U_xor (Sha.mix x2 [17, 19]) (x2 >>> 10)
        have a2 := U_xor (Sha.mix x15 [7, 18]) (x15 >>> 3)
        have a3 := U_shr10' x2
        have a4 := U_shr3' x15
        go_wp2_with fail
        go_region_held3 (fun w' => w'.cell? ⟨N, t - 7, none⟩ = some (.int .u32 (U x7)) ∧ w'.cell? ⟨N, t - 16, none⟩ = some (.int .u32 (U x16))) (go_keep)
          (first
            | (go_at_call 79; (with_reducible refine (mixed2_any x2 17 19 r17 r19 _ _ _ ?_ ?_).mono ?_); (focus (simp [cell_alloc])); (focus (simp [cell_alloc])); rintro e w' ⟨rfl, rfl⟩)
            | (go_at_call 79; (with_reducible refine (mixed2_any x15 7 18 r7 r18 _ _ _ ?_ ?_).mono ?_); (focus (simp [cell_alloc])); (focus (simp [cell_alloc])); rintro e w' ⟨rfl, rfl⟩))
        go_wp2
        all_goals
          go_roundw
          case rel =>
            obtain ⟨g2, g15, g7, g16⟩ := HX.out
            refine ⟨t + 1, by omega, by go_num, ?_, ?_⟩
            · rw [U_add', U_add', U_add']
              rw [← wz_step B t _ h64 (by rw [Sha.ws, if_neg h16, g2, g15, g7, g16]), ← uv_set]
              exact Blk.alloc (((HB.out.drewN _).alloc _).set_ t _) _
            · refine Below.alloc (Below.setCell (Below.alloc (below_drewN hbel _) ?_ _) (Nat.le_refl _) _) ?_ _
              · simp; omega
              · simp [World.setCell]; omega
          case measure => simp [intOf]; omega
    · obtain rfl : t = 64 := by omega
      have hsz : (Try.prog.info? 149).map (·.size) = some (uv (wz B 64)).size := by rw [uv_size, length_wz B 64 (Nat.le_refl _)]; exact size147
      have HK := hide hbk
      clear hbk
      go_wp2_with (first
        | ((with_reducible refine at_slot 83 ?_); (with_reducible refine wpList_load_blk (o := ⟨some 83, _, _, _, _, _⟩) rfl 149 (.tmp 2) rfl N 149 (uv (wz B 64)) _ _ HK.out Try.underlying149 hsz ?_ ?_); rfl; dsimp only [Act.put, List.setIfInBounds_toArray, List.set_cons_zero, List.set_cons_succ])
        | ((with_reducible refine wpList_store_blk (o := ⟨none, _, _, _, _, _⟩) rfl 149 (.tmp 2) (.tmp 83) rfl N (uv (wz B 64)) (uv (wz B 64)) 149 HK.out hsz rfl (uv_one _) ?_ ?_ ?_); rfl; rfl; dsimp only [Act.put]))
      have e : wz B 64 = Sha.ws B 64 := by simp [wz]
      refine bodyPost_ret (results_cell_blk rfl _ _ N 149 (uv (wz B 64)) _ _ rfl (Blk.setRow_ HK.out _) Try.underlying149 hsz) rfl ⟨by rw [e], ?_⟩
      have h2 := below_setRow' hbel (Nat.le_refl _) (uv (wz B 64))
      have e2 := HN.out
      rw [← e2]
      exact h2
end Go.Proofs.Ytidiepbmbbflhaa
end
