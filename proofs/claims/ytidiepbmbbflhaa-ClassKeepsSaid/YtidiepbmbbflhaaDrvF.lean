/- drv.Find. -/
import Derived.Test.YtidiepbmbbflhaaDrvE
import Derived.Test.YtidiepbmbbflhaaAt
namespace Go.Proofs.Ytidiepbmbbflhaa
open Go Go.RowKit Go.Maps
set_option maxRecDepth 100000
theorem results_cell_tmp {P : Program} {fn : Func} {p u : Tmp} {ty : TypeId} (h : fn.results = #[.cell p ty, .tmp u]) (tmps : Array Value) (w : World) (g : Nat) (t : TypeId) (cs : Array Value) (fr : Nat × Nat) (d : TypeDesc)
    (hp : tmps.getD p undef = .pointer (some ⟨g, 0, none⟩)) (hg : w.heap[g]? = some (.cells cs t fr))
    (hu : P.underlying ty = some d) (hd : (match d with | .struct _ | .array _ _ => true | _ => false) = true) (hi : (P.info? ty).map (·.size) = some cs.size) :
    (results fn tmps).run P w = .ok (.tuple #[.agg cs, tmps.getD u undef]) w := by
  have hp' : tmps[p]?.getD undef = .pointer (some ⟨g, 0, none⟩) := by simpa using hp
  simp [results, h, hp', asAddr, run_loadVar_row w g t ty cs fr d hg hu hd hi]
def zcT : Array Value := (bv (List.replicate 20 0) ++ [Value.string ⟨#[]⟩, Value.slice none 0 0, Value.slice none 0 0]).toArray
theorem sz_itm : (Try.prog.info? 43).map (·.size) = some 23 := by kernel_rfl
theorem tC_len {x : Itm} {v1 v2 : Value} (h : okH x.1) : (tC x v1 v2).length = 23 := by
  unfold tC
  rw [List.length_append, bvL, show x.1.length = 20 from h]
  rfl
theorem tC_one (x : Itm) {v1 v2 : Value} (h1 : v1.oneCell' = true) (h2 : v2.oneCell' = true) : ∀ v ∈ tC x v1 v2, v.oneCell' = true := by
  intro v hv
  rcases List.mem_append.1 hv with hv | hv
  · exact bv1 _ v hv
  · simp only [dC, List.mem_cons, List.not_mem_nil, or_false] at hv
    rcases hv with rfl | rfl | rfl
    · rfl
    · exact h1
    · exact h2
theorem item_cls {x : Itm} {v1 v2 : Value} {w : World} {g : Nat} (_ : okH x.1) (hb : Blk w g 43 (tC x v1 v2).toArray) : w.rangeAt g 0 (bv x.1) := by
  have h1 := rangeAt_blk hb
  exact rangeAt_left (c2 := dC x.2 v1 v2) (by simpa [tC] using h1)
theorem item_drv {x : Itm} {v1 v2 : Value} {w : World} {g : Nat} (h : okH x.1) (hb : Blk w g 43 (tC x v1 v2).toArray) : w.rangeAt g 20 (dC x.2 v1 v2) := by
  have h1 := rangeAt_blk hb
  have h2 := rangeAt_right (c1 := bv x.1) (c2 := dC x.2 v1 v2) (o := 0) (by simpa [tC] using h1)
  rwa [bvL, show x.1.length = 20 from h] at h2
theorem DrvAt.alike {w w' : World} {B : Nat} {d : Drv} {v1 v2 : Value} (h : DrvAt w B d v1 v2) (ha : Alike B w w') : DrvAt w' B d v1 v2 := ⟨h.name, namsLay.alike h.ins ha, bytesLay.alike h.rcp ha⟩
theorem DrvAt.widen {w : World} {B B' : Nat} {d : Drv} {v1 v2 : Value} (h : DrvAt w B d v1 v2) (hB : B ≤ B') : DrvAt w B' d v1 v2 := ⟨h.name, namsLay.widen h.ins hB, bytesLay.widen h.rcp hB⟩
theorem find_first {l : List Itm} {j : Nat} {x : Itm} {c : Hsh} (hx : l[j]? = some x) (hc : x.1 = c) (hn : ∀ y ∈ l.take j, y.1 ≠ c) : l.find? (fun x => decide (x.1 = c)) = some x := by
  have hj := List.getElem?_eq_some_iff.1 hx
  rw [List.find?_eq_some_iff_getElem]
  refine ⟨by simpa using hc, j, hj.1, hj.2, fun i hi => ?_⟩
  have hj1 := hj.1
  have h9 : i < l.length := by omega
  have : l[i] ∈ l.take j := List.mem_of_getElem? (i := i) (by rw [List.getElem?_take_of_lt hi, List.getElem?_eq_getElem h9])
  simpa using hn _ this
def FoundD (w : World) (l : List Itm) (c : Hsh) (w' : World) (e : Ending) : Prop := ∃ u1 u2, e = .returned (.tuple #[.agg (dC (((l.find? fun x => decide (x.1 = c)).map (·.2)).getD (⟨#[]⟩, [], [])) u1 u2).toArray, .bool (l.find? fun x => decide (x.1 = c)).isSome]) ∧ OwnDrv w' w.heap.size (((l.find? fun x => decide (x.1 = c)).map (·.2)).getD (⟨#[]⟩, [], [])) u1 u2 ∧ Below w.heap.size w w'
set_option maxHeartbeats 4000000 in
theorem find_any (w : World) (l : List Itm) (v : Value) (h : itmsLay.At w w.heap.size [v] l) (c : Hsh) (hc : okH c) (hl : ∀ x ∈ l, x.2.2.1.length ≤ 1000000 ∧ x.2.2.2.length ≤ 1000000) :
    Calls Try.prog 9 #[v, .agg (bv c).toArray] w fun e w' => FoundD w l c w' e := by
  obtain ⟨A, cap, rfl, hcl, hcm, _, hA⟩ := slice_open h
  have k9 : (l.length : Int) ≤ 9223372036854775807 := by simp only [maxLen] at hcm; omega
  have HA := hide hA
  obtain ⟨w1, hw1⟩ : ∃ w1, w1 = w.alloc (.cells (bv c).toArray 27) := ⟨_, rfl⟩
  obtain ⟨w2, hw2⟩ : ∃ w2, w2 = w1.alloc (.cells zcD 34) := ⟨_, rfl⟩
  have hb1 : Below w.heap.size w w1 := by rw [hw1]; exact (Below.refl _ w).alloc (Nat.le_refl _) _
  have hk1 : Blk w1 w.heap.size 27 (bv c).toArray := by rw [hw1]; exact Blk.new _ _ _
  have hb2 : Below w1.heap.size w1 w2 := by rw [hw2]; exact (Below.refl _ w1).alloc (Nat.le_refl _) _
  have hk2 : Blk w2 w1.heap.size 34 zcD := by rw [hw2]; exact Blk.new _ _ _
  have H2 := hide (And.intro (hk1.below hb2 hk1.lt) (And.intro hk2 (hb1.trans (Below.mono hb2 hb1.size))))
  have HZ := hide (show w.heap.size ≤ w1.heap.size from hb1.size)
  have HW1 := hide hw1
  have HW2 := hide hw2
  clear hA h hcl hcm hw1 hw2 hb1 hk1 hb2 hk2
  go_enter Try.func9, Try.ntmps9
  go_wp2_with (first | ((with_reducible refine at_slot 3 ?_); refine wpList_value (o := ⟨some 3, _, _, _, _, _⟩) rfl (.pointer (some ⟨w.heap.size, 0, none⟩)) w1 (by rw [HW1.out]; kernel_rfl) ?_) | ((with_reducible refine at_slot 4 ?_); refine wpList_value (o := ⟨some 4, _, _, _, _, _⟩) rfl (.pointer (some ⟨w1.heap.size, 0, none⟩)) w2 (by rw [HW2.out]; kernel_rfl) ?_))
  go_loopw [10] (fun y wr => ∃ j : Nat, j ≤ l.length ∧ y = .int .i64 (j : Int) ∧ (∀ x ∈ l.take j, x.1 ≠ c) ∧ Blk wr w.heap.size 27 (bv c).toArray ∧ Blk wr w1.heap.size 34 zcD ∧ Below w.heap.size w wr) (fun y _ => l.length - (intOf y).toNat)
  case atStart => exact ⟨0, by omega, rfl, (fun x hx => by simp at hx), H2.out.1, H2.out.2.1, H2.out.2.2⟩
  case round =>
    obtain ⟨wo, rfl⟩ : ∃ wo, wo = wr := ⟨_, rfl⟩
    obtain ⟨j, hj, rfl, hnot, hk, hr, hb⟩ := hrel
    have HI := hide (And.intro hnot (And.intro hk (And.intro hr hb)))
    clear hnot hk hr hb
    have j0 : (0 : Int) ≤ (j : Int) := by omega
    by_cases hj2 : j < l.length
    · have j1 : (j : Int) < (l.length : Int) := by omega
      obtain ⟨x, hx⟩ : ∃ x, l[j]? = some x := ⟨_, List.getElem?_eq_getElem hj2⟩
      obtain ⟨b, off, rfl, hlb, hE⟩ := HA.out (by omega)
      obtain ⟨cs, hr, hatx⟩ := hE j x hx
      obtain ⟨q1, q2, rfl, hxo, hxd⟩ := itmLay_at.1 hatx
      obtain ⟨B1, k1, rfl, _⟩ := slice_open hxd.ins
      obtain ⟨B2, k2, rfl, _⟩ := slice_open hxd.rcp
      obtain ⟨q1, hq1⟩ : ∃ q1, q1 = Value.slice B1 x.2.2.1.length k1 := ⟨_, rfl⟩
      obtain ⟨q2, hq2⟩ : ∃ q2, q2 = Value.slice B2 x.2.2.2.length k2 := ⟨_, rfl⟩
      have hone1 : q1.oneCell' = true ∧ q2.oneCell' = true := by rw [hq1, hq2]; exact ⟨rfl, rfl⟩
      rw [← hq1, ← hq2] at hr hatx
      rw [← hq1, ← hq2] at hxd
      have hbnd := hl x (List.mem_of_getElem? hx)
      have HX := hide (And.intro (rangeAt_same hr (HI.out.2.2.2.block b (by omega))) (And.intro hxo hxd))
      have HXX := hide hx
      have hszt2 : (Try.prog.info? 43).map (·.size) = some (tC x q1 q2).toArray.size := by rw [show (tC x q1 q2).toArray.size = 23 by rw [List.size_toArray]; exact tC_len hxo]; kernel_rfl
      have hszt : (Try.prog.info? 43).map (·.size) = some (tC x q1 q2).length := by simpa using hszt2
      have hszzt : zcT.size = (tC x q1 q2).toArray.size := by rw [show (tC x q1 q2).toArray.size = 23 by rw [List.size_toArray]; exact tC_len hxo]; kernel_rfl
      have honet : (tC x q1 q2).toArray.all (·.oneCell') = true := all_oneCell_toArray (tC_one x hone1.1 hone1.2)
      have hszx : (Try.prog.info? 27).map (·.size) = some (bv x.1).length := by have := hszD hxo; simpa using this
      clear hx hE hr hatx hxo hxd hq1 hq2
      by_cases hxc : x.1 = c
      · have hd := decide_eq_true hxc
        go_wp2_with (first | ((with_reducible refine at_slot 12 ?_); (refine wpList_value (o := ⟨some 12, _, _, _, _, _⟩) rfl (.pointer (some ⟨b, off + (j : Int).toNat * 23, none⟩)) wo (exec_index_off (o := ⟨some 12, _, _, _, _, _⟩) 25 43 (.tmp 8) (.tmp 10) rfl b off l.length cap (j : Int) .i64 rfl rfl ⟨j0, j1⟩ 23 Try.underlying25 sz_itm wo) ?_; rw [show off + (j : Int).toNat * 23 = off + j * 23 by omega])) | ((with_reducible refine at_slot 13 ?_); (refine wpList_value (o := ⟨some 13, _, _, _, _, _⟩) rfl (.agg (tC x q1 q2).toArray) wo (exec_load_mid (o := ⟨some 13, _, _, _, _, _⟩) 43 (.tmp 12) rfl b (off + j * 23) rfl (tC x q1 q2) _ wo HX.out.1 Try.underlying43 rfl hszt) ?_)) | ((with_reducible refine at_slot 7 ?_); ((with_reducible refine wpList_box (o1 := ⟨some 7, _, _, _, _, _⟩) (o2 := ⟨none, _, _, _, _, _⟩) rfl rfl 43 (.tmp 7) (.tmp 13) ?_ zcT (tC x q1 q2).toArray ?_ hszt2 ?_ honet ?_ ?_ ?_); rfl; kernel_rfl; exact hszzt; rfl; rfl; intro w3 hmm hbb; have H3 := hide (And.intro hmm hbb); clear hmm hbb; simp only [Act.put, List.setIfInBounds_toArray, List.set_cons_zero, List.set_cons_succ])) | ((with_reducible refine at_slot 15 ?_); (refine wpList_value (o := ⟨some 15, _, _, _, _, _⟩) rfl (.agg (bv x.1).toArray) w3 (exec_load_mid (o := ⟨some 15, _, _, _, _, _⟩) 27 (.tmp 14) rfl wo.heap.size (0) rfl (bv x.1) _ w3 (item_cls HX.out.2.1 H3.out.1) Try.underlying27 rfl hszx) ?_)) | ((with_reducible refine at_slot 16 ?_); (refine wpList_value (o := ⟨some 16, _, _, _, _, _⟩) rfl (.agg (bv c).toArray) w3 (exec_load_blk (o := ⟨some 16, _, _, _, _, _⟩) 27 (.tmp 3) rfl w.heap.size rfl 27 _ _ w3 ((HI.out.2.1.below H3.out.2 HI.out.2.1.lt)) Try.underlying27 rfl (hszD hc)) ?_)) | ((with_reducible refine at_slot 17 ?_); (refine wpList_value (o := ⟨some 17, _, _, _, _, _⟩) rfl (.bool true) w3 (exec_binop_agg (o := ⟨some 17, _, _, _, _, _⟩) .eql 27 (.tmp 15) (.tmp 16) _ rfl (bv x.1).toArray (bv c).toArray rfl rfl (by kernel_rfl) _ (fun W => by have h := bin_eq_hash x.1 c HX.out.2.1 hc W; rw [hd] at h; exact h) w3) ?_)) | ((with_reducible refine at_slot 19 ?_); (refine wpList_value (o := ⟨some 19, _, _, _, _, _⟩) rfl (.agg (dC x.2 q1 q2).toArray) w3 (exec_load_mid (o := ⟨some 19, _, _, _, _, _⟩) 34 (.tmp 18) rfl wo.heap.size (20) rfl (dC x.2 q1 q2) _ w3 (item_drv HX.out.2.1 H3.out.1) Try.underlying34 rfl (by kernel_rfl)) ?_)))
        have hat3 : DrvAt w3 w3.heap.size x.2 q1 q2 := (HX.out.2.2.alike fun b hb => (H3.out.2.block b (by have := HI.out.2.2.2.size; omega)).trans (HI.out.2.2.2.block b hb)).widen (by have := HI.out.2.2.2.size; have := H3.out.2.size; omega)
        refine (owned_any w3 x.2 q1 q2 hat3 hbnd.1 hbnd.2).mono ?_
        rintro e w4 ⟨p1, p2, rfl, hown4, hb4⟩
        dsimp only
        have h43 := H3.out.2.trans (Below.mono hb4 H3.out.2.size)
        have H4 := hide (And.intro hown4 (And.intro (HI.out.2.2.1.below h43 HI.out.2.2.1.lt) (HI.out.2.2.2.trans (Below.mono h43 HI.out.2.2.2.size))))
        have hfd : l.find? (fun x => decide (x.1 = c)) = some x := find_first HXX.out hxc HI.out.1
        have HFD := hide hfd
        have HS := hide (Nat.le_trans HI.out.2.2.2.size H3.out.2.size)
        obtain ⟨P1, m1, g1, P2, m2, g2, rfl, rfl⟩ := OwnDrv.form hown4
        clear hfd hown4 hb4 hat3 h43
        go_wp2_with ((with_reducible refine at_store 4 20 ?_); (with_reducible refine wpList_store_blkA (o := ⟨none, _, _, _, _, _⟩) rfl 34 (.tmp 4) (.tmp 20) rfl w1.heap.size zcD (dC x.2 (.slice P1 m1 g1) (.slice P2 m2 g2)).toArray 34 H4.out.2.1 ?_ ?_ ?_ ?_ ?_ ?_); kernel_rfl; rfl; kernel_rfl; rfl; rfl; intro w5 hk5 hg5; have hb5 : Below w.heap.size w w5 := (H4.out.2.2.grown hg5 H4.out.2.2.size (fun b hb => (by injection hb with hb; have := HZ.out; omega))); have ho5 : OwnDrv w5 w.heap.size x.2 (.slice P1 m1 g1) (.slice P2 m2 g2) := ((H4.out.1.keep (fun g hg hl => hg5.block g hl (fun e => (by have e := Option.some.inj e; have := H3.out.2.size; have := HI.out.2.2.1.lt; omega)))).lower HS.out); have H5 := hide (And.intro hk5 (And.intro ho5 hb5)); clear hk5 hg5 hb5 ho5; simp only [Act.put, List.setIfInBounds_toArray, List.set_cons_zero, List.set_cons_succ])
        refine bodyPost_ret (results_cell_tmp rfl _ _ w1.heap.size 34 (dC x.2 (.slice P1 m1 g1) (.slice P2 m2 g2)).toArray (0, 0) _ rfl H5.out.1 Try.underlying34 rfl (by kernel_rfl)) rfl ?_
        unfold FoundD
        rw [HFD.out]
        exact ⟨_, _, rfl, H5.out.2.1, H5.out.2.2⟩
      · have hd := decide_eq_false hxc
        have HD := hide hd
        have HNX := hide hxc
        clear hxc
        go_wp2_with (first | ((with_reducible refine at_slot 12 ?_); (refine wpList_value (o := ⟨some 12, _, _, _, _, _⟩) rfl (.pointer (some ⟨b, off + (j : Int).toNat * 23, none⟩)) wo (exec_index_off (o := ⟨some 12, _, _, _, _, _⟩) 25 43 (.tmp 8) (.tmp 10) rfl b off l.length cap (j : Int) .i64 rfl rfl ⟨j0, j1⟩ 23 Try.underlying25 sz_itm wo) ?_; rw [show off + (j : Int).toNat * 23 = off + j * 23 by omega])) | ((with_reducible refine at_slot 13 ?_); (refine wpList_value (o := ⟨some 13, _, _, _, _, _⟩) rfl (.agg (tC x q1 q2).toArray) wo (exec_load_mid (o := ⟨some 13, _, _, _, _, _⟩) 43 (.tmp 12) rfl b (off + j * 23) rfl (tC x q1 q2) _ wo HX.out.1 Try.underlying43 rfl hszt) ?_)) | ((with_reducible refine at_slot 7 ?_); ((with_reducible refine wpList_box (o1 := ⟨some 7, _, _, _, _, _⟩) (o2 := ⟨none, _, _, _, _, _⟩) rfl rfl 43 (.tmp 7) (.tmp 13) ?_ zcT (tC x q1 q2).toArray ?_ hszt2 ?_ honet ?_ ?_ ?_); rfl; kernel_rfl; exact hszzt; rfl; rfl; intro w3 hmm hbb; have H3 := hide (And.intro hmm hbb); clear hmm hbb; simp only [Act.put, List.setIfInBounds_toArray, List.set_cons_zero, List.set_cons_succ])) | ((with_reducible refine at_slot 15 ?_); (refine wpList_value (o := ⟨some 15, _, _, _, _, _⟩) rfl (.agg (bv x.1).toArray) w3 (exec_load_mid (o := ⟨some 15, _, _, _, _, _⟩) 27 (.tmp 14) rfl wo.heap.size (0) rfl (bv x.1) _ w3 (item_cls HX.out.2.1 H3.out.1) Try.underlying27 rfl hszx) ?_)) | ((with_reducible refine at_slot 16 ?_); (refine wpList_value (o := ⟨some 16, _, _, _, _, _⟩) rfl (.agg (bv c).toArray) w3 (exec_load_blk (o := ⟨some 16, _, _, _, _, _⟩) 27 (.tmp 3) rfl w.heap.size rfl 27 _ _ w3 ((HI.out.2.1.below H3.out.2 HI.out.2.1.lt)) Try.underlying27 rfl (hszD hc)) ?_)) | ((with_reducible refine at_slot 17 ?_); (refine wpList_value (o := ⟨some 17, _, _, _, _, _⟩) rfl (.bool false) w3 (exec_binop_agg (o := ⟨some 17, _, _, _, _, _⟩) .eql 27 (.tmp 15) (.tmp 16) _ rfl (bv x.1).toArray (bv c).toArray rfl rfl (by kernel_rfl) _ (fun W => by have h := bin_eq_hash x.1 c HX.out.2.1 hc W; rw [HD.out] at h; exact h) w3) ?_)))
        go_roundw
        case rel => exact ⟨j + 1, by omega, by go_num, (fun y hy => by rw [List.take_add_one, HXX.out] at hy; rcases List.mem_append.1 hy with hy | hy; exact HI.out.1 y hy; rw [show y = x from by simpa using hy]; exact HNX.out), HI.out.2.1.below H3.out.2 HI.out.2.1.lt, HI.out.2.2.1.below H3.out.2 HI.out.2.2.1.lt, HI.out.2.2.2.trans (Below.mono H3.out.2 HI.out.2.2.2.size)⟩
        case measure => simp [intOf]; omega
    · obtain rfl : j = l.length := by omega
      have hnn : l.find? (fun x => decide (x.1 = c)) = none := List.find?_eq_none.2 fun x hx => by simpa using HI.out.1 x (by rw [List.take_length]; exact hx)
      have HNN := hide hnn
      clear hnn
      go_wp2_with (first | ((with_reducible refine at_slot 22 ?_); (refine wpList_value (o := ⟨some 22, _, _, _, _, _⟩) rfl (.agg zcD) wo (by kernel_rfl) ?_)) | ((with_reducible refine at_store 4 22 ?_); (with_reducible refine wpList_store_blkA (o := ⟨none, _, _, _, _, _⟩) rfl 34 (.tmp 4) (.tmp 22) rfl w1.heap.size zcD zcD 34 HI.out.2.2.1 ?_ ?_ ?_ ?_ ?_ ?_); kernel_rfl; rfl; kernel_rfl; rfl; rfl; intro w5 hk5 hg5; have hb5 : Below w.heap.size w w5 := (HI.out.2.2.2.grown hg5 HI.out.2.2.2.size (fun b hb => (by injection hb with hb; have := HZ.out; omega))); have H5 := hide (And.intro hk5 hb5); clear hk5 hg5 hb5; simp only [Act.put, List.setIfInBounds_toArray, List.set_cons_zero, List.set_cons_succ]))
      refine bodyPost_ret (results_cell_tmp rfl _ _ w1.heap.size 34 zcD (0, 0) _ rfl H5.out.1 Try.underlying34 rfl (by kernel_rfl)) rfl ?_
      unfold FoundD
      rw [HNN.out]
      exact ⟨.slice none 0 0, .slice none 0 0, rfl, OwnDrv.nil _ _, H5.out.2⟩
end Go.Proofs.Ytidiepbmbbflhaa
