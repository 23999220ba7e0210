/- class.Add, class.Of. spencelaw19.awake. spencelaw19.awake is true: the chapter's example. spencekit.DrvOf, with any bound (printed by gen/drvof.py); what is counted of a row. spencekit.DrvsOf; spencelaw19.great. Structs and arrays of plain parts as keys: that they read as keys; whether two are one. spencekit: SameNameds, SameDrv. -/
import Derived.Test.YtidiepbmbbflhaaMK6
import Derived.Test.YtidiepbmbbflhaaMK4
import Derived.Test.YtidiepbmbbflhaaMK5
import Derived.Test.YtidiepbmbbflhaaPaths
section
namespace Go.Proofs.Ytidiepbmbbflhaa
open Go Go.RowKit Go.Maps
set_option maxRecDepth 100000
theorem ofB_ok (w : World) (d : Drv) (v1 v2 : Value) (h : DrvAt w w.heap.size d v1 v2) (hp : putE d = 0) (c : Hsh) (hc : hofP d = c) :
    Calls Try.prog 22 #[.agg (dC d v1 v2).toArray] w fun e w' => e = .returned (.agg (bv c).toArray) ∧ Below w.heap.size w w' := hc ▸ of_ok w d v1 v2 h hp
set_option maxHeartbeats 1000000 in
theorem add1_ok (w w1 : World) (g0 g2 g3 g4 g5 : Nat) (l : List Itm) (A : Option Addr) (cap : Nat) (d : Drv) (v1 v2 : Value) (_ : v1.oneCell' = true) (_ : v2.oneCell' = true) (h : itmsLay.At w w.heap.size [.slice A l.length cap] l) (hl : ∀ x ∈ l, x.2.2.1.length ≤ 1000000 ∧ x.2.2.2.length ≤ 1000000) (hn : l.length ≤ 1000000) (hd : DrvAt w w.heap.size d v1 v2) (hdl : d.2.1.length ≤ 1000000 ∧ d.2.2.length ≤ 1000000) (c : Hsh) (hc : hofP d = c) (nl : List Itm) (hr : addP hofP l d = (nl, c, 0))
    (hm : Mem w w1 [blkE g0 28 #[.int .i64 0], blkE g5 27 zcH, blkE g4 25 #[.slice none 0 0], blkE g3 34 (dC d v1 v2).toArray, blkE g2 25 #[.slice A l.length cap]]) :
    Calls Try.prog 19 #[.pointer (some ⟨g2, 0, none⟩), .pointer (some ⟨g3, 0, none⟩), .pointer (some ⟨g4, 0, none⟩), .pointer (some ⟨g5, 0, none⟩)] w1 fun e w' => e = .returned (.tuple #[]) ∧ ∃ u ls, ls.map (·.1) = nl ∧ Mem w w' (itmsL w.heap.size u ls ++ [blkE g0 28 #[.int .i64 0], blkE g5 27 (bv c).toArray, blkE g4 25 #[u], blkE g3 34 (dC d v1 v2).toArray, blkE g2 25 #[.slice A l.length cap]]) := by
  have hcc : okH c := hc ▸ hofP_ok d
  have HAT := hide h
  have HL := hide hl
  have HD := hide hd
  have HC := hide hc
  have HR := hide hr
  have HM := hide hm
  clear h hl hd hc hr hm
  go_enter Try.func19, Try.ntmps19
  go_wp2_with (first | ((with_reducible refine at_slot 5 ?_); (refine wpList_value (o := ⟨some 5, _, _, _, _, _⟩) rfl (.slice A l.length cap) w1 (exec_load_cell (o := ⟨some 5, _, _, _, _, _⟩) 25 (.tmp 0) rfl ⟨g2, 0, none⟩ rfl _ _ w1 Try.underlying25 rfl (range_cell (Blk.range (Mem.blk HM.out 4 rfl)))) ?_)) | ((with_reducible refine at_slot 6 ?_); (refine wpList_value (o := ⟨some 6, _, _, _, _, _⟩) rfl (.agg (dC d v1 v2).toArray) w1 (exec_load_mid (o := ⟨some 6, _, _, _, _, _⟩) 34 (.tmp 1) rfl g3 (0) rfl (dC d v1 v2) _ w1 (Blk.range (Mem.blk HM.out 3 rfl)) Try.underlying34 rfl (dC_szl d v1 v2)) ?_)))
  refine (addW_any w1 l A cap (Mem.lay HM.out HAT.out) HL.out hn d v1 v2 (Mem.drv HM.out HD.out) hdl c HC.out (nl, c, 0) HR.out).mono ?_
  rintro e w2 hq
  unfold AddQ at hq
  rw [if_pos rfl] at hq
  obtain ⟨u, ls, rfl, hls, hm⟩ := hq
  have hu1 : u.oneCell' = true := by obtain ⟨A9, c9, e9⟩ := own_len (Mem.own hm 0 rfl); rw [e9]; rfl
  dsimp only
  have H2 := hide (Mem.seq HM.out (itms_lower hm (Mem.below HM.out).size))
  have HLS := hide hls
  clear hm hls
  go_wp2_with (first | ((with_reducible refine at_store 2 8 ?_); (refine wpList_store1 (o := ⟨none, _, _, _, _, _⟩) rfl 25 (.tmp 2) (.tmp 8) rfl g4 (0) 25 ([.slice none 0 0]).toArray (Mem.blk H2.out 4 rfl) (Nat.le_of_ble_eq_true rfl) (by kernel_rfl) (u) hu1 rfl rfl ?_); intro w3 hk hg hz; have H3 := hide (Mem.st (cs' := ([u]).toArray) H2.out 4 rfl hk hg); clear hk hg hz; simp only [Act.put, List.setIfInBounds_toArray, List.set_cons_zero, List.set_cons_succ]) | ((with_reducible refine at_store 3 9 ?_); (with_reducible refine wpList_store_blkA (o := ⟨none, _, _, _, _, _⟩) rfl 27 (.tmp 3) (.tmp 9) rfl g5 zcH (bv c).toArray 27 (Mem.blk H3.out 3 rfl) ?_ ?_ ?_ ?_ ?_ ?_); (exact (hszD hcc)); (exact sz_eq zcH_sz (hszD hcc)); (exact (bv_1 c)); rfl; rfl; intro w4 hk hg; have H4 := hide (Mem.st H3.out 3 rfl hk hg); clear hk hg; simp only [Act.put, List.setIfInBounds_toArray, List.set_cons_zero, List.set_cons_succ]))
  go_end0
  exact ⟨rfl, u, ls, HLS.out, Mem.pick H4.out [0, 1, 2, 3, 4, 5, 6] (by decide) rfl⟩
set_option maxHeartbeats 1000000 in
theorem add1_no (w w1 : World) (g0 g2 g3 g4 g5 : Nat) (l : List Itm) (A : Option Addr) (cap : Nat) (d : Drv) (v1 v2 : Value) (_ : v1.oneCell' = true) (_ : v2.oneCell' = true) (h : itmsLay.At w w.heap.size [.slice A l.length cap] l) (hl : ∀ x ∈ l, x.2.2.1.length ≤ 1000000 ∧ x.2.2.2.length ≤ 1000000) (hn : l.length ≤ 1000000) (hd : DrvAt w w.heap.size d v1 v2) (hdl : d.2.1.length ≤ 1000000 ∧ d.2.2.length ≤ 1000000) (c : Hsh) (hc : hofP d = c) (nl : List Itm) (c2 : Hsh) (k : Int) (hk : k ≠ 0) (hr : addP hofP l d = (nl, c2, k))
    (hm : Mem w w1 [blkE g0 28 #[.int .i64 0], blkE g5 27 zcH, blkE g4 25 #[.slice none 0 0], blkE g3 34 (dC d v1 v2).toArray, blkE g2 25 #[.slice A l.length cap]]) :
    Calls Try.prog 19 #[.pointer (some ⟨g2, 0, none⟩), .pointer (some ⟨g3, 0, none⟩), .pointer (some ⟨g4, 0, none⟩), .pointer (some ⟨g5, 0, none⟩)] w1 fun e w' => e = .panicked [{ v := thrown k, recovered := false }] ∧ Mem w w' [blkE g0 28 #[.int .i64 0], blkE g5 27 zcH, blkE g4 25 #[.slice none 0 0], blkE g3 34 (dC d v1 v2).toArray, blkE g2 25 #[.slice A l.length cap]] := by
  have HAT := hide h
  have HL := hide hl
  have HD := hide hd
  have HC := hide hc
  have HR := hide hr
  have HM := hide hm
  have HK := hide hk
  clear h hl hd hc hr hm hk
  go_enter Try.func19, Try.ntmps19
  go_wp2_with (first | ((with_reducible refine at_slot 5 ?_); (refine wpList_value (o := ⟨some 5, _, _, _, _, _⟩) rfl (.slice A l.length cap) w1 (exec_load_cell (o := ⟨some 5, _, _, _, _, _⟩) 25 (.tmp 0) rfl ⟨g2, 0, none⟩ rfl _ _ w1 Try.underlying25 rfl (range_cell (Blk.range (Mem.blk HM.out 4 rfl)))) ?_)) | ((with_reducible refine at_slot 6 ?_); (refine wpList_value (o := ⟨some 6, _, _, _, _, _⟩) rfl (.agg (dC d v1 v2).toArray) w1 (exec_load_mid (o := ⟨some 6, _, _, _, _, _⟩) 34 (.tmp 1) rfl g3 (0) rfl (dC d v1 v2) _ w1 (Blk.range (Mem.blk HM.out 3 rfl)) Try.underlying34 rfl (dC_szl d v1 v2)) ?_)))
  refine (addW_any w1 l A cap (Mem.lay HM.out HAT.out) HL.out hn d v1 v2 (Mem.drv HM.out HD.out) hdl c HC.out (nl, c2, k) HR.out).mono ?_
  rintro e wz hq
  unfold AddQ at hq
  rw [if_neg HK.out] at hq
  obtain ⟨rfl, hb⟩ := hq
  dsimp only
  change bodyPost Try.prog Try.f19 _ _ _ _
  simp only [bodyPost]
  exact ⟨trivial, trivial, Mem.call HM.out hb⟩
set_option maxHeartbeats 1000000 in
theorem add_yes (w : World) (l : List Itm) (A : Option Addr) (cap : Nat) (d : Drv) (v1 v2 : Value) (h : itmsLay.At w w.heap.size [.slice A l.length cap] l) (hl : ∀ x ∈ l, x.2.2.1.length ≤ 1000000 ∧ x.2.2.2.length ≤ 1000000) (hn9 : l.length ≤ 1000000) (hd : DrvAt w w.heap.size d v1 v2) (hdl : d.2.1.length ≤ 1000000 ∧ d.2.2.length ≤ 1000000) (c : Hsh) (hc : hofP d = c) (nl : List Itm) (hr : addP hofP l d = (nl, c, 0)) :
    Calls Try.prog 7 #[.slice A l.length cap, .agg (dC d v1 v2).toArray] w fun e w' => ∃ u ls, e = .returned (.tuple #[u, .agg (bv c).toArray, .int .i64 0]) ∧ ls.map (·.1) = nl ∧ Mem w w' (itmsL w.heap.size u ls) := by
  have hcc : okH c := hc ▸ hofP_ok d
  obtain ⟨ho1, ho2⟩ := hd.ones
  have HAT := hide h
  have HL := hide hl
  have HD := hide hd
  have HC := hide hc
  have HR := hide hr
  clear h hl hd hc hr
  have H0 := hide (Mem.start w)
  go_enter Try.func7, Try.ntmps7
  go_wp2_with (first | ((with_reducible refine at_slot 2 ?_); (refine wpList_box1 (o := ⟨some 2, _, _, _, _, _⟩) rfl 25 (.tmp 0) rfl (.slice A l.length cap) rfl rfl ?_); intro w1 hn; have H1 := hide (Mem.new1 H0.out hn); clear hn; simp only [Act.put, List.setIfInBounds_toArray, List.set_cons_zero, List.set_cons_succ]) | ((with_reducible refine at_slot 3 ?_); (refine wpList_boxA (o := ⟨some 3, _, _, _, _, _⟩) rfl 34 (.tmp 1) rfl (dC d v1 v2).toArray rfl ?_); intro w2 hn; have H2 := hide (Mem.new1 H1.out hn); clear hn; simp only [Act.put, List.setIfInBounds_toArray, List.set_cons_zero, List.set_cons_succ]) | ((with_reducible refine at_slot 4 ?_); (refine wpList_newZ (o := ⟨some 4, _, _, _, _, _⟩) rfl 25 #[.slice none 0 0] (by kernel_rfl) ?_); intro w3 hn; have H3 := hide (Mem.new1 H2.out hn); clear hn; simp only [Act.put, List.setIfInBounds_toArray, List.set_cons_zero, List.set_cons_succ]) | ((with_reducible refine at_slot 5 ?_); (refine wpList_newZ (o := ⟨some 5, _, _, _, _, _⟩) rfl 27 zcH (by kernel_rfl) ?_); intro w4 hn; have H4 := hide (Mem.new1 H3.out hn); clear hn; simp only [Act.put, List.setIfInBounds_toArray, List.set_cons_zero, List.set_cons_succ]))
  refine (tried_ok 19 #[.pointer (some ⟨w.heap.size, 0, none⟩), .pointer (some ⟨w1.heap.size, 0, none⟩), .pointer (some ⟨w2.heap.size, 0, none⟩), .pointer (some ⟨w3.heap.size, 0, none⟩)] (fun wR => ∃ u ls, ls.map (·.1) = nl ∧ Mem w wR (itmsL w.heap.size u ls ++ [blkE w4.heap.size 28 #[.int .i64 0], blkE w3.heap.size 27 (bv c).toArray, blkE w2.heap.size 25 #[u], blkE w1.heap.size 34 (dC d v1 v2).toArray, blkE w.heap.size 25 #[.slice A l.length cap]])) w4 (fun _ _ => by kernel_rfl) (fun wN hn => (add1_ok w wN w4.heap.size w.heap.size w1.heap.size w2.heap.size w3.heap.size l A cap d v1 v2 ho1 ho2 HAT.out HL.out hn9 HD.out hdl c HC.out nl HR.out (Mem.pick (Mem.new1 H4.out hn) [0, 1, 2, 3, 4] (by decide) rfl)).mono (fun e w' ⟨h1, u, ls, h2, h3⟩ => ⟨h1, Mem.blk h3 2 rfl, u, ls, h2, h3⟩))).mono ?_
  rintro e w5 ⟨rfl, wR, ⟨u, ls, hls, hm⟩, hg⟩
  dsimp only
  have H5 := hide (Mem.lose hm 2 rfl hg)
  have HLS := hide hls
  have hu1 : u.oneCell' = true := by obtain ⟨A9, c9, e9⟩ := own_len (Mem.own hm 0 rfl); rw [e9]; rfl
  clear hm hg hls
  go_wp2_with fail
  refine Fre.wp_madeA (X := Bel) [] (by kernel_rfl) (by kernel_rfl) (by simp) (by simp) (by simp) ?_
  refine Fre.made_val (u) (by kernel_rfl) (by kernel_rfl) (by kernel_rfl) (fun W9 hW9 => (exec_load_cell (o := ⟨some 9, _, _, _, _, _⟩) 25 (.tmp 4) rfl ⟨w2.heap.size, 0, none⟩ rfl _ _ W9 Try.underlying25 rfl (range_cell (Blk.range (Mem.blk (Mem.call H5.out hW9) 4 rfl))))) ?_
  simp only [Act.put, List.setIfInBounds_toArray, List.set_cons_zero, List.set_cons_succ]
  refine Fre.made_val (.agg (bv c).toArray) (by kernel_rfl) (by kernel_rfl) (by kernel_rfl) (fun W9 hW9 => (exec_load_mid (o := ⟨some 10, _, _, _, _, _⟩) 27 (.tmp 5) rfl w3.heap.size (0) rfl (bv c) _ W9 (Blk.range (Mem.blk (Mem.call H5.out hW9) 3 rfl)) Try.underlying27 rfl (hszL hcc))) ?_
  simp only [Act.put, List.setIfInBounds_toArray, List.set_cons_zero, List.set_cons_succ]
  refine Fre.made_val (.int .i64 0) (by kernel_rfl) (by kernel_rfl) (by kernel_rfl) (fun _ _ => by kernel_rfl) ?_
  simp only [Act.put, List.setIfInBounds_toArray, List.set_cons_zero, List.set_cons_succ]
  refine Fre.made_same (by kernel_rfl) (by kernel_rfl) (by kernel_rfl) (fun W9 hW9 => exec_store_same1 (o := ⟨none, _, _, _, _, _⟩) 25 (.tmp 4) (.tmp 9) rfl (i := 0) (v := u) (Mem.blk (Mem.call H5.out hW9) 4 rfl) rfl (by kernel_rfl) hu1 rfl rfl) ?_
  simp only [Act.put, List.setIfInBounds_toArray, List.set_cons_zero, List.set_cons_succ]
  refine Fre.made_same (by kernel_rfl) (by kernel_rfl) (by kernel_rfl) (fun W9 hW9 => exec_store_same (o := ⟨none, _, _, _, _, _⟩) 27 (.tmp 5) (.tmp 10) rfl (Mem.blk (Mem.call H5.out hW9) 3 rfl) (hszD hcc) (bv_1 c) rfl rfl) ?_
  simp only [Act.put, List.setIfInBounds_toArray, List.set_cons_zero, List.set_cons_succ]
  refine Fre.made_val (.int .i64 0) (by kernel_rfl) (by kernel_rfl) (by kernel_rfl) (fun _ _ => by kernel_rfl) ?_
  simp only [Act.put, List.setIfInBounds_toArray, List.set_cons_zero, List.set_cons_succ]
  intro w6 hx
  dsimp only [Fre.ended, List.drop]
  have H6 := hide (Mem.call H5.out hx)
  clear hx
  go_wp2_with fail
  refine bodyPost_ret (results_three (r1 := .cell 4 25) (r2 := .cell 5 27) (r3 := .tmp 6) rfl ⟨⟨_, rfl, ld_cell Try.underlying25 rfl ((Mem.blk H6.out 4 rfl).cell 0)⟩, ⟨_, rfl, ld_agg (Blk.range (Mem.blk H6.out 3 rfl)) Try.underlying27 rfl (hszL hcc)⟩, rfl, trivial⟩) rfl ?_
  exact ⟨u, ls, rfl, HLS.out, Mem.pick H6.out [0, 1] (by decide) rfl⟩
set_option maxHeartbeats 1000000 in
theorem add_not (w : World) (l : List Itm) (A : Option Addr) (cap : Nat) (d : Drv) (v1 v2 : Value) (h : itmsLay.At w w.heap.size [.slice A l.length cap] l) (hl : ∀ x ∈ l, x.2.2.1.length ≤ 1000000 ∧ x.2.2.2.length ≤ 1000000) (hn9 : l.length ≤ 1000000) (hd : DrvAt w w.heap.size d v1 v2) (hdl : d.2.1.length ≤ 1000000 ∧ d.2.2.length ≤ 1000000) (c : Hsh) (hc : hofP d = c) (nl : List Itm) (c2 : Hsh) (k : Int) (hk : k ≠ 0) (hr : addP hofP l d = (nl, c2, k)) :
    Calls Try.prog 7 #[.slice A l.length cap, .agg (dC d v1 v2).toArray] w fun e w' => e = .returned (.tuple #[.slice none 0 0, .agg (bv zeroH).toArray, .int .i64 k]) ∧ Below w.heap.size w w' := by
  obtain ⟨ho1, ho2⟩ := hd.ones
  have HAT := hide h
  have HL := hide hl
  have HD := hide hd
  have HC := hide hc
  have HR := hide hr
  have HK := hide hk
  clear h hl hd hc hr hk
  have H0 := hide (Mem.start w)
  go_enter Try.func7, Try.ntmps7
  go_wp2_with (first | ((with_reducible refine at_slot 2 ?_); (refine wpList_box1 (o := ⟨some 2, _, _, _, _, _⟩) rfl 25 (.tmp 0) rfl (.slice A l.length cap) rfl rfl ?_); intro w1 hn; have H1 := hide (Mem.new1 H0.out hn); clear hn; simp only [Act.put, List.setIfInBounds_toArray, List.set_cons_zero, List.set_cons_succ]) | ((with_reducible refine at_slot 3 ?_); (refine wpList_boxA (o := ⟨some 3, _, _, _, _, _⟩) rfl 34 (.tmp 1) rfl (dC d v1 v2).toArray rfl ?_); intro w2 hn; have H2 := hide (Mem.new1 H1.out hn); clear hn; simp only [Act.put, List.setIfInBounds_toArray, List.set_cons_zero, List.set_cons_succ]) | ((with_reducible refine at_slot 4 ?_); (refine wpList_newZ (o := ⟨some 4, _, _, _, _, _⟩) rfl 25 #[.slice none 0 0] (by kernel_rfl) ?_); intro w3 hn; have H3 := hide (Mem.new1 H2.out hn); clear hn; simp only [Act.put, List.setIfInBounds_toArray, List.set_cons_zero, List.set_cons_succ]) | ((with_reducible refine at_slot 5 ?_); (refine wpList_newZ (o := ⟨some 5, _, _, _, _, _⟩) rfl 27 zcH (by kernel_rfl) ?_); intro w4 hn; have H4 := hide (Mem.new1 H3.out hn); clear hn; simp only [Act.put, List.setIfInBounds_toArray, List.set_cons_zero, List.set_cons_succ]))
  refine (tried_no 19 #[.pointer (some ⟨w.heap.size, 0, none⟩), .pointer (some ⟨w1.heap.size, 0, none⟩), .pointer (some ⟨w2.heap.size, 0, none⟩), .pointer (some ⟨w3.heap.size, 0, none⟩)] k (fun wR => Mem w wR [blkE w4.heap.size 28 #[.int .i64 0], blkE w3.heap.size 27 zcH, blkE w2.heap.size 25 #[.slice none 0 0], blkE w1.heap.size 34 (dC d v1 v2).toArray, blkE w.heap.size 25 #[.slice A l.length cap]]) w4 (fun _ _ => by kernel_rfl) (fun wN hn => (add1_no w wN w4.heap.size w.heap.size w1.heap.size w2.heap.size w3.heap.size l A cap d v1 v2 ho1 ho2 HAT.out HL.out hn9 HD.out hdl c HC.out nl c2 k HK.out HR.out (Mem.pick (Mem.new1 H4.out hn) [0, 1, 2, 3, 4] (by decide) rfl)).mono (fun e w' ⟨h1, h3⟩ => ⟨h1, Mem.blk h3 0 rfl, h3⟩))).mono ?_
  rintro e w5 ⟨rfl, wR, hm, hg⟩
  dsimp only
  have H5 := hide (Mem.lose hm 0 rfl hg)
  clear hm hg
  go_wp2_with fail
  refine Fre.wp_madeA (X := Bel) [] (by kernel_rfl) (by kernel_rfl) (by simp) (by simp) (by simp) ?_
  refine Fre.made_val (.slice none 0 0) (by kernel_rfl) (by kernel_rfl) (by kernel_rfl) (fun W9 hW9 => (exec_load_cell (o := ⟨some 9, _, _, _, _, _⟩) 25 (.tmp 4) rfl ⟨w2.heap.size, 0, none⟩ rfl _ _ W9 Try.underlying25 rfl (range_cell (Blk.range (Mem.blk (Mem.call H5.out hW9) 2 rfl))))) ?_
  simp only [Act.put, List.setIfInBounds_toArray, List.set_cons_zero, List.set_cons_succ]
  refine Fre.made_val (.agg (bv zeroH).toArray) (by kernel_rfl) (by kernel_rfl) (by kernel_rfl) (fun W9 hW9 => (exec_load_mid (o := ⟨some 10, _, _, _, _, _⟩) 27 (.tmp 5) rfl w3.heap.size (0) rfl (bv zeroH) _ W9 (Blk.range (Mem.blk (Mem.call H5.out hW9) 1 rfl)) Try.underlying27 rfl (hszL zeroH_ok))) ?_
  simp only [Act.put, List.setIfInBounds_toArray, List.set_cons_zero, List.set_cons_succ]
  refine Fre.made_val (.int .i64 k) (by kernel_rfl) (by kernel_rfl) (by kernel_rfl) (fun _ _ => by kernel_rfl) ?_
  simp only [Act.put, List.setIfInBounds_toArray, List.set_cons_zero, List.set_cons_succ]
  refine Fre.made_same (by kernel_rfl) (by kernel_rfl) (by kernel_rfl) (fun W9 hW9 => exec_store_same1 (o := ⟨none, _, _, _, _, _⟩) 25 (.tmp 4) (.tmp 9) rfl (i := 0) (v := .slice none 0 0) (Mem.blk (Mem.call H5.out hW9) 2 rfl) rfl (by kernel_rfl) rfl rfl rfl) ?_
  simp only [Act.put, List.setIfInBounds_toArray, List.set_cons_zero, List.set_cons_succ]
  refine Fre.made_same (by kernel_rfl) (by kernel_rfl) (by kernel_rfl) (fun W9 hW9 => exec_store_same (o := ⟨none, _, _, _, _, _⟩) 27 (.tmp 5) (.tmp 10) rfl (Mem.blk (Mem.call H5.out hW9) 1 rfl) (hszD zeroH_ok) (bv_1 zeroH) rfl rfl) ?_
  simp only [Act.put, List.setIfInBounds_toArray, List.set_cons_zero, List.set_cons_succ]
  refine Fre.made_val (.int .i64 k) (by kernel_rfl) (by kernel_rfl) (by kernel_rfl) (fun _ _ => by kernel_rfl) ?_
  simp only [Act.put, List.setIfInBounds_toArray, List.set_cons_zero, List.set_cons_succ]
  intro w6 hx
  dsimp only [Fre.ended, List.drop]
  have H6 := hide (Mem.call H5.out hx)
  clear hx
  go_wp2_with fail
  refine bodyPost_ret (results_three (r1 := .cell 4 25) (r2 := .cell 5 27) (r3 := .tmp 6) rfl ⟨⟨_, rfl, ld_cell Try.underlying25 rfl ((Mem.blk H6.out 2 rfl).cell 0)⟩, ⟨_, rfl, ld_agg (Blk.range (Mem.blk H6.out 1 rfl)) Try.underlying27 rfl (hszL zeroH_ok)⟩, rfl, trivial⟩) rfl ?_
  exact ⟨rfl, Mem.below H6.out⟩
set_option maxHeartbeats 1000000 in
theorem of1_ok (w w1 : World) (g0 g1 g2 : Nat) (d : Drv) (v1 v2 : Value) (_ : v1.oneCell' = true) (_ : v2.oneCell' = true) (hd : DrvAt w w.heap.size d v1 v2) (c : Hsh) (hc : hofP d = c) (hp : putE d = 0) (hm : Mem w w1 [blkE g0 28 #[.int .i64 0], blkE g2 27 zcH, blkE g1 34 (dC d v1 v2).toArray]) :
    Calls Try.prog 21 #[.pointer (some ⟨g1, 0, none⟩), .pointer (some ⟨g2, 0, none⟩)] w1 fun e w' => e = .returned (.tuple #[]) ∧ Mem w w' [blkE g0 28 #[.int .i64 0], blkE g2 27 (bv c).toArray, blkE g1 34 (dC d v1 v2).toArray] := by
  have hcc : okH c := hc ▸ hofP_ok d
  have HD := hide hd
  have HC := hide hc
  have HP := hide hp
  have HM := hide hm
  clear hd hc hp hm
  go_enter Try.func21, Try.ntmps21
  go_wp2_with (((with_reducible refine at_slot 2 ?_); (refine wpList_value (o := ⟨some 2, _, _, _, _, _⟩) rfl (.agg (dC d v1 v2).toArray) w1 (exec_load_mid (o := ⟨some 2, _, _, _, _, _⟩) 34 (.tmp 0) rfl g1 (0) rfl (dC d v1 v2) _ w1 (Blk.range (Mem.blk HM.out 2 rfl)) Try.underlying34 rfl (dC_szl d v1 v2)) ?_)))
  refine (ofB_ok w1 d v1 v2 (Mem.drv HM.out HD.out) HP.out c HC.out).mono ?_
  rintro e w2 ⟨rfl, hb⟩
  dsimp only
  have H2 := hide (Mem.call HM.out hb)
  clear hb
  go_wp2_with (((with_reducible refine at_store 1 3 ?_); (with_reducible refine wpList_store_blkA (o := ⟨none, _, _, _, _, _⟩) rfl 27 (.tmp 1) (.tmp 3) rfl g2 zcH (bv c).toArray 27 (Mem.blk H2.out 1 rfl) ?_ ?_ ?_ ?_ ?_ ?_); (exact (hszD hcc)); (exact sz_eq zcH_sz (hszD hcc)); (exact (bv_1 c)); rfl; rfl; intro w3 hk hg; have H3 := hide (Mem.st H2.out 1 rfl hk hg); clear hk hg; simp only [Act.put, List.setIfInBounds_toArray, List.set_cons_zero, List.set_cons_succ]))
  go_end0
  exact ⟨rfl, H3.out⟩
set_option maxHeartbeats 1000000 in
theorem of1_no (w w1 : World) (g0 g1 g2 : Nat) (d : Drv) (v1 v2 : Value) (_ : v1.oneCell' = true) (_ : v2.oneCell' = true) (hd : DrvAt w w.heap.size d v1 v2) (hp : ¬ putE d = 0) (hm : Mem w w1 [blkE g0 28 #[.int .i64 0], blkE g2 27 zcH, blkE g1 34 (dC d v1 v2).toArray]) :
    Calls Try.prog 21 #[.pointer (some ⟨g1, 0, none⟩), .pointer (some ⟨g2, 0, none⟩)] w1 fun e w' => e = .panicked [{ v := thrown (putE d), recovered := false }] ∧ Mem w w' [blkE g0 28 #[.int .i64 0], blkE g2 27 zcH, blkE g1 34 (dC d v1 v2).toArray] := by
  have HD := hide hd
  have HP := hide hp
  have HM := hide hm
  clear hd hp hm
  go_enter Try.func21, Try.ntmps21
  go_wp2_with (((with_reducible refine at_slot 2 ?_); (refine wpList_value (o := ⟨some 2, _, _, _, _, _⟩) rfl (.agg (dC d v1 v2).toArray) w1 (exec_load_mid (o := ⟨some 2, _, _, _, _, _⟩) 34 (.tmp 0) rfl g1 (0) rfl (dC d v1 v2) _ w1 (Blk.range (Mem.blk HM.out 2 rfl)) Try.underlying34 rfl (dC_szl d v1 v2)) ?_)))
  refine (of_no w1 d v1 v2 (Mem.drv HM.out HD.out) HP.out).mono ?_
  rintro e wz ⟨rfl, hb⟩
  dsimp only
  change bodyPost Try.prog Try.f21 _ _ _ _
  simp only [bodyPost]
  exact ⟨trivial, trivial, Mem.call HM.out hb⟩
set_option maxHeartbeats 1000000 in
theorem of_yes (w : World) (d : Drv) (v1 v2 : Value) (hd : DrvAt w w.heap.size d v1 v2) (c : Hsh) (hc : hofP d = c) (hp : putE d = 0) :
    Calls Try.prog 8 #[.agg (dC d v1 v2).toArray] w fun e w' => e = .returned (.tuple #[.agg (bv c).toArray, .int .i64 0]) ∧ Below w.heap.size w w' := by
  have hcc : okH c := hc ▸ hofP_ok d
  obtain ⟨ho1, ho2⟩ := hd.ones
  have HD := hide hd
  have HC := hide hc
  have HP := hide hp
  clear hd hc hp
  have H0 := hide (Mem.start w)
  go_enter Try.func8, Try.ntmps8
  go_wp2_with (first | ((with_reducible refine at_slot 1 ?_); (refine wpList_boxA (o := ⟨some 1, _, _, _, _, _⟩) rfl 34 (.tmp 0) rfl (dC d v1 v2).toArray rfl ?_); intro w1 hn; have H1 := hide (Mem.new1 H0.out hn); clear hn; simp only [Act.put, List.setIfInBounds_toArray, List.set_cons_zero, List.set_cons_succ]) | ((with_reducible refine at_slot 2 ?_); (refine wpList_newZ (o := ⟨some 2, _, _, _, _, _⟩) rfl 27 zcH (by kernel_rfl) ?_); intro w2 hn; have H2 := hide (Mem.new1 H1.out hn); clear hn; simp only [Act.put, List.setIfInBounds_toArray, List.set_cons_zero, List.set_cons_succ]))
  refine (tried_ok 21 #[.pointer (some ⟨w.heap.size, 0, none⟩), .pointer (some ⟨w1.heap.size, 0, none⟩)] (fun wR => Mem w wR [blkE w2.heap.size 28 #[.int .i64 0], blkE w1.heap.size 27 (bv c).toArray, blkE w.heap.size 34 (dC d v1 v2).toArray]) w2 (fun _ _ => by kernel_rfl) (fun wN hn => (of1_ok w wN w2.heap.size w.heap.size w1.heap.size d v1 v2 ho1 ho2 HD.out c HC.out HP.out (Mem.pick (Mem.new1 H2.out hn) [0, 1, 2] (by decide) rfl)).mono (fun e w' ⟨h1, h3⟩ => ⟨h1, Mem.blk h3 0 rfl, h3⟩))).mono ?_
  rintro e w3 ⟨rfl, wR, hm, hg⟩
  dsimp only
  have H3 := hide (Mem.lose hm 0 rfl hg)
  clear hm hg
  go_wp2_with (first | ((with_reducible refine at_slot 6 ?_); (refine wpList_value (o := ⟨some 6, _, _, _, _, _⟩) rfl (.agg (bv c).toArray) w3 (exec_load_mid (o := ⟨some 6, _, _, _, _, _⟩) 27 (.tmp 2) rfl w1.heap.size (0) rfl (bv c) _ w3 (Blk.range (Mem.blk H3.out 1 rfl)) Try.underlying27 rfl (hszL hcc)) ?_)) | ((with_reducible refine at_store 2 6 ?_); (with_reducible refine wpList_store_blkA (o := ⟨none, _, _, _, _, _⟩) rfl 27 (.tmp 2) (.tmp 6) rfl w1.heap.size (bv c).toArray (bv c).toArray 27 (Mem.blk H3.out 1 rfl) ?_ ?_ ?_ ?_ ?_ ?_); (exact (hszD hcc)); (exact sz_eq (hszD hcc) (hszD hcc)); (exact (bv_1 c)); rfl; rfl; intro w4 hk hg; have H4 := hide (Mem.st H3.out 1 rfl hk hg); clear hk hg; simp only [Act.put, List.setIfInBounds_toArray, List.set_cons_zero, List.set_cons_succ]))
  refine bodyPost_ret (results_two (r1 := .cell 2 27) (r2 := .tmp 3) rfl ⟨⟨_, rfl, ld_agg (Blk.range (Mem.blk H4.out 1 rfl)) Try.underlying27 rfl (hszL hcc)⟩, rfl, trivial⟩) rfl ⟨rfl, Mem.below H4.out⟩
set_option maxHeartbeats 1000000 in
theorem of_not (w : World) (d : Drv) (v1 v2 : Value) (hd : DrvAt w w.heap.size d v1 v2) (hp : ¬ putE d = 0) :
    Calls Try.prog 8 #[.agg (dC d v1 v2).toArray] w fun e w' => e = .returned (.tuple #[.agg (bv zeroH).toArray, .int .i64 (putE d)]) ∧ Below w.heap.size w w' := by
  obtain ⟨ho1, ho2⟩ := hd.ones
  have HD := hide hd
  have HP := hide hp
  clear hd hp
  have H0 := hide (Mem.start w)
  go_enter Try.func8, Try.ntmps8
  go_wp2_with (first | ((with_reducible refine at_slot 1 ?_); (refine wpList_boxA (o := ⟨some 1, _, _, _, _, _⟩) rfl 34 (.tmp 0) rfl (dC d v1 v2).toArray rfl ?_); intro w1 hn; have H1 := hide (Mem.new1 H0.out hn); clear hn; simp only [Act.put, List.setIfInBounds_toArray, List.set_cons_zero, List.set_cons_succ]) | ((with_reducible refine at_slot 2 ?_); (refine wpList_newZ (o := ⟨some 2, _, _, _, _, _⟩) rfl 27 zcH (by kernel_rfl) ?_); intro w2 hn; have H2 := hide (Mem.new1 H1.out hn); clear hn; simp only [Act.put, List.setIfInBounds_toArray, List.set_cons_zero, List.set_cons_succ]))
  refine (tried_no 21 #[.pointer (some ⟨w.heap.size, 0, none⟩), .pointer (some ⟨w1.heap.size, 0, none⟩)] (putE d) (fun wR => Mem w wR [blkE w2.heap.size 28 #[.int .i64 0], blkE w1.heap.size 27 zcH, blkE w.heap.size 34 (dC d v1 v2).toArray]) w2 (fun _ _ => by kernel_rfl) (fun wN hn => (of1_no w wN w2.heap.size w.heap.size w1.heap.size d v1 v2 ho1 ho2 HD.out HP.out (Mem.pick (Mem.new1 H2.out hn) [0, 1, 2] (by decide) rfl)).mono (fun e w' ⟨h1, h3⟩ => ⟨h1, Mem.blk h3 0 rfl, h3⟩))).mono ?_
  rintro e w3 ⟨rfl, wR, hm, hg⟩
  dsimp only
  have H3 := hide (Mem.lose hm 0 rfl hg)
  clear hm hg
  go_wp2_with (first | ((with_reducible refine at_slot 6 ?_); (refine wpList_value (o := ⟨some 6, _, _, _, _, _⟩) rfl (.agg (bv zeroH).toArray) w3 (exec_load_mid (o := ⟨some 6, _, _, _, _, _⟩) 27 (.tmp 2) rfl w1.heap.size (0) rfl (bv zeroH) _ w3 (Blk.range (Mem.blk H3.out 1 rfl)) Try.underlying27 rfl (hszL zeroH_ok)) ?_)) | ((with_reducible refine at_store 2 6 ?_); (with_reducible refine wpList_store_blkA (o := ⟨none, _, _, _, _, _⟩) rfl 27 (.tmp 2) (.tmp 6) rfl w1.heap.size (bv zeroH).toArray (bv zeroH).toArray 27 (Mem.blk H3.out 1 rfl) ?_ ?_ ?_ ?_ ?_ ?_); (exact (hszD zeroH_ok)); (exact sz_eq (hszD zeroH_ok) (hszD zeroH_ok)); (exact (bv_1 zeroH)); rfl; rfl; intro w4 hk hg; have H4 := hide (Mem.st H3.out 1 rfl hk hg); clear hk hg; simp only [Act.put, List.setIfInBounds_toArray, List.set_cons_zero, List.set_cons_succ]))
  refine bodyPost_ret (results_two (r1 := .cell 2 27) (r2 := .tmp 3) rfl ⟨⟨_, rfl, ld_agg (Blk.range (Mem.blk H4.out 1 rfl)) Try.underlying27 rfl (hszL zeroH_ok)⟩, rfl, trivial⟩) rfl ⟨rfl, Mem.below H4.out⟩
end Go.Proofs.Ytidiepbmbbflhaa
end
section
namespace Go.Proofs.Ytidiepbmbbflhaa
open Go Go.RowKit Go.Maps
set_option maxRecDepth 100000
def sa : ByteArray := ⟨#[97]⟩
def sb : ByteArray := ⟨#[98]⟩
def sc : ByteArray := ⟨#[99]⟩
def hOne : Hsh := 1 :: List.replicate 19 0
theorem hOne_ok : okH hOne := rfl
def L0 : List Itm := []
theorem items0_at (w : World) (B : Nat) : itmsLay.At w B [.slice none 0 0] L0 := ⟨none, 0, rfl, Nat.le_refl _, Nat.zero_le _, (fun _ => rfl), fun h => absurd h (by simp [L0])⟩
theorem hash0_at (w : World) (B : Nat) : hashesLay.At w B [.slice none 0 0] [] := ⟨none, 0, rfl, Nat.le_refl _, Nat.zero_le _, (fun _ => rfl), fun h => absurd h (by simp)⟩
theorem hash1_at {w : World} {r : Nat} {h : Hsh} (hb : Blk w r 27 (bv h).toArray) (hh : okH h) : hashesLay.At w w.heap.size [.slice (some ⟨r, 0, none⟩) 1 1] [h] := by
  refine ⟨_, 1, rfl, Nat.le_refl _, by show 1 ≤ maxLen; decide, (fun h => by cases h), fun _ => ⟨r, 0, rfl, hb.lt, fun j x hj => ?_⟩⟩
  cases j with
  | zero =>
    simp only [List.getElem?_cons_zero, Option.some.injEq] at hj
    subst hj
    exact ⟨bv h, by simpa using hb.range, rfl, hh⟩
  | succ j => simp at hj
theorem itms_now {w0 w : World} {B : Nat} {u : Value} {ls : List ItmV} {l : List Itm} (h : Mem w0 w (itmsL B u ls)) (hok : ∀ x ∈ l, okH x.1) (hl : ls.map (·.1) = l) : itmsLay.At w w.heap.size [u] l := by
  subst hl
  exact itms_at h (fun p hp => hok _ (List.mem_map.2 ⟨p, hp, rfl⟩)) (Nat.le_refl _)
theorem named_v (w : World) (s : ByteArray) (hso : s.size ≤ maxLen) (hs : List Hsh) (v : Value) (h : hashesLay.At w w.heap.size [v] hs) (hl9 : hs.length ≤ 100) :
    Calls Try.prog 16 #[.string s, v] w fun e w' => ∃ u, e = .returned (.agg (dC (namedP s hs) u (.slice none 0 0)).toArray) ∧ u.oneCell' = true ∧ Mem w w' [drvE w.heap.size (namedP s hs) u (.slice none 0 0)] := by
  obtain ⟨A, cap, rfl, _⟩ := slice_open h
  exact named_any w s hso hs A cap h hl9
theorem namedP_small (s : ByteArray) (hs : List Hsh) (h : hs.length ≤ 100) : (namedP s hs).2.1.length ≤ 1000000 ∧ (namedP s hs).2.2.length ≤ 1000000 := ⟨by show (ndsH hs).length ≤ _; rw [ndsH_len]; omega, by show 0 ≤ 1000000; omega⟩
theorem add_yesV (w : World) (l : List Itm) (v : Value) (d : Drv) (v1 v2 : Value) (h : itmsLay.At w w.heap.size [v] l) (hl : ∀ x ∈ l, x.2.2.1.length ≤ 1000000 ∧ x.2.2.2.length ≤ 1000000) (hn : l.length ≤ 1000000) (hd : DrvAt w w.heap.size d v1 v2) (hdl : d.2.1.length ≤ 1000000 ∧ d.2.2.length ≤ 1000000) (c : Hsh) (hc : hofP d = c) (nl : List Itm) (hr : addP hofP l d = (nl, c, 0)) (k : Nat) (hk : nl.length = k) :
    Calls Try.prog 7 #[v, .agg (dC d v1 v2).toArray] w fun e w' => ∃ A cap ls, e = .returned (.tuple #[.slice A k cap, .agg (bv c).toArray, .int .i64 0]) ∧ ls.map (·.1) = nl ∧ Mem w w' (itmsL w.heap.size (.slice A k cap) ls) := by
  obtain ⟨A, cap, rfl, _⟩ := slice_open h
  refine (add_yes w l A cap d v1 v2 h hl hn hd hdl c hc nl hr).mono ?_
  rintro e w' ⟨u, ls, rfl, hls, hm⟩
  obtain ⟨A1, c1, rfl⟩ := own_len (hm.own 0 rfl)
  have e9 : ls.length = k := by rw [← hk, ← hls, List.length_map]
  rw [e9] at hm ⊢
  exact ⟨A1, c1, ls, rfl, hls, hm⟩
theorem add_notV (w : World) (l : List Itm) (v : Value) (d : Drv) (v1 v2 : Value) (h : itmsLay.At w w.heap.size [v] l) (hl : ∀ x ∈ l, x.2.2.1.length ≤ 1000000 ∧ x.2.2.2.length ≤ 1000000) (hn : l.length ≤ 1000000) (hd : DrvAt w w.heap.size d v1 v2) (hdl : d.2.1.length ≤ 1000000 ∧ d.2.2.length ≤ 1000000) (nl : List Itm) (c2 : Hsh) (k : Int) (hk : k ≠ 0) (hr : addP hofP l d = (nl, c2, k)) :
    Calls Try.prog 7 #[v, .agg (dC d v1 v2).toArray] w fun e w' => e = .returned (.tuple #[.slice none 0 0, .agg (bv zeroH).toArray, .int .i64 k]) ∧ Below w.heap.size w w' := by
  obtain ⟨A, cap, rfl, _⟩ := slice_open h
  exact add_not w l A cap d v1 v2 h hl hn hd hdl _ rfl nl c2 k hk hr
set_option maxHeartbeats 4000000 in
theorem awake19_of (w : World) (hA hB : Hsh) (hohA : okH hA) (hohB : okH hB) (L1 L2 : List Itm) (hhA : hofP (namedP sa []) = hA) (hhB : hofP (namedP sb [hA]) = hB) (hk1 : L1.length = 1) (hk2 : L2.length = 2) (hl1 : ∀ x ∈ L1, x.2.2.1.length ≤ 1000000 ∧ x.2.2.2.length ≤ 1000000) (hl2 : ∀ x ∈ L2, x.2.2.1.length ≤ 1000000 ∧ x.2.2.2.length ≤ 1000000) (hho1 : ∀ x ∈ L1, okH x.1) (hho2 : ∀ x ∈ L2, okH x.1)
    (ha1 : addP hofP L0 (namedP sa []) = (L1, hA, 0)) (ha2 : addP hofP L1 (namedP sb [hA]) = (L2, hB, 0)) (ha3 : addP hofP L2 (namedP sa []) = (L2, hA, 0)) (ha4 : addP hofP L2 (namedP sc [hOne]) = ([], zeroH, 5)) (hnz : ¬ hA = zeroH) :
    Calls Try.prog 5 #[] w fun e w' => e = .returned (.bool true) ∧ Below w.heap.size w w' := by
  have HHhA := hide hhA
  have HHhB := hide hhB
  have HKL1 := hide hk1
  have HKL2 := hide hk2
  have HLL0 := hide (show ∀ x ∈ L0, x.2.2.1.length ≤ 1000000 ∧ x.2.2.2.length ≤ 1000000 from fun x hx => by cases hx)
  have HLL1 := hide hl1
  have HLL2 := hide hl2
  have HNL0 := hide (show L0.length ≤ 2 by decide)
  have HNL1 := hide (show L1.length ≤ 2 by omega)
  have HNL2 := hide (show L2.length ≤ 2 by omega)
  have HOL1 := hide hho1
  have HOL2 := hide hho2
  have HA1 := hide ha1
  have HA2 := hide ha2
  have HA3 := hide ha3
  have HA4 := hide ha4
  have HNZ := hide hnz
  clear hhA hhB hk1 hk2 hl1 hl2 hho1 hho2 ha1 ha2 ha3 ha4 hnz
  have H0 := hide (Mem.start w)
  go_enter Try.func5, Try.ntmps5
  go_wp2_with fail
  refine (named_v w sa (by decide) [] (.slice none 0 0) (hash0_at _ _) (Nat.le_of_ble_eq_true rfl)).mono ?_
  rintro e w1 ⟨p, rfl, hp1, hm⟩
  dsimp only
  have H1 := hide (Mem.seq H0.out hm)
  clear hm
  go_wp2_with fail
  refine (add_yesV w1 L0 (.slice none 0 0) (namedP sa []) p (.slice none 0 0) (items0_at _ _) HLL0.out (by have := HNL0.out; omega) (OwnDrv.at_ (show OwnDrv w1 _ (namedP sa []) p (.slice none 0 0) from Mem.get (e := drvE _ (namedP sa []) p (.slice none 0 0)) H1.out 0 rfl) (Nat.le_refl _)) (namedP_small _ _ (Nat.le_of_ble_eq_true rfl)) hA HHhA.out L1 HA1.out 1 HKL1.out).mono ?_
  rintro e w2 ⟨A1, q1, ls1, rfl, hls, hm⟩
  dsimp only
  have H2 := hide (Mem.seq H1.out (itms_lower hm (Nat.le_refl _)))
  have HS1 := hide hls
  clear hm hls
  go_wp2_with (first | ((with_reducible refine at_slot 2 ?_); (refine wpList_newZ (o := ⟨some 2, _, _, _, _, _⟩) rfl 27 zcH (by kernel_rfl) ?_); intro w3 hn; have H3 := hide (Mem.new1 H2.out hn); clear hn; simp only [Act.put, List.setIfInBounds_toArray, List.set_cons_zero, List.set_cons_succ]) | ((with_reducible refine at_store 2 17 ?_); (with_reducible refine wpList_store_blkA (o := ⟨none, _, _, _, _, _⟩) rfl 27 (.tmp 2) (.tmp 17) rfl w2.heap.size zcH (bv hA).toArray 27 (Mem.blk H3.out 0 rfl) ?_ ?_ ?_ ?_ ?_ ?_); (exact (hszD hohA)); (exact sz_eq zcH_sz (hszD hohA)); (exact (bv_1 hA)); rfl; rfl; intro w4 hk hg; have H4 := hide (Mem.st H3.out 0 rfl hk hg); clear hk hg; simp only [Act.put, List.setIfInBounds_toArray, List.set_cons_zero, List.set_cons_succ]) | ((with_reducible refine at_slot 21 ?_); (refine wpList_value (o := ⟨some 21, _, _, _, _, _⟩) rfl (.agg (bv hA).toArray) w4 (exec_load_mid (o := ⟨some 21, _, _, _, _, _⟩) 27 (.tmp 2) rfl w2.heap.size (0) rfl (bv hA) _ w4 (Blk.range (Mem.blk H4.out 0 rfl)) Try.underlying27 rfl (hszL hohA)) ?_)) | ((with_reducible refine at_slot 22 ?_); (refine wpList_row1 (o := ⟨some 22, _, _, _, _, _⟩) rfl 45 (.tmp 21) rfl 27 20 (.agg zcH) (.agg (bv hA).toArray) rfl Try.underlying45 sz_hashD (by decide) (by decide) (fun w => by kernel_rfl) (by rw [Value.cells, List.size_toArray, bvL]; exact hohA) ?_); intro w5 hn; have H5 := hide (Mem.new1 H4.out hn); clear hn; simp only [Act.put, List.setIfInBounds_toArray, List.set_cons_zero, List.set_cons_succ]))
  refine (named_v w5 sb (by decide) [hA] (.slice (some ⟨w4.heap.size, 0, none⟩) 1 1) (hash1_at (Mem.blk H5.out 0 rfl) hohA) (Nat.le_of_ble_eq_true rfl)).mono ?_
  rintro e w6 ⟨p, rfl, hp1, hm⟩
  dsimp only
  have H6 := hide (Mem.seq H5.out hm)
  clear hm
  go_wp2_with fail
  refine (add_yesV w6 L1 (.slice A1 1 q1) (namedP sb [hA]) p (.slice none 0 0) (itms_now (Mem.pick H6.out [3, 4] (by decide) rfl) HOL1.out HS1.out) HLL1.out (by have := HNL1.out; omega) (OwnDrv.at_ (show OwnDrv w6 _ (namedP sb [hA]) p (.slice none 0 0) from Mem.get (e := drvE _ (namedP sb [hA]) p (.slice none 0 0)) H6.out 0 rfl) (Nat.le_refl _)) (namedP_small _ _ (Nat.le_of_ble_eq_true rfl)) hB HHhB.out L2 HA2.out 2 HKL2.out).mono ?_
  rintro e w7 ⟨A2, q2, ls2, rfl, hls, hm⟩
  dsimp only
  have H7 := hide (Mem.seq H6.out (itms_lower hm (Nat.le_refl _)))
  have HS2 := hide hls
  clear hm hls
  go_wp2_with (first | ((with_reducible refine at_slot 5 ?_); (refine wpList_newZ (o := ⟨some 5, _, _, _, _, _⟩) rfl 27 zcH (by kernel_rfl) ?_); intro w8 hn; have H8 := hide (Mem.new1 H7.out hn); clear hn; simp only [Act.put, List.setIfInBounds_toArray, List.set_cons_zero, List.set_cons_succ]) | ((with_reducible refine at_store 5 26 ?_); (with_reducible refine wpList_store_blkA (o := ⟨none, _, _, _, _, _⟩) rfl 27 (.tmp 5) (.tmp 26) rfl w7.heap.size zcH (bv hB).toArray 27 (Mem.blk H8.out 0 rfl) ?_ ?_ ?_ ?_ ?_ ?_); (exact (hszD hohB)); (exact sz_eq zcH_sz (hszD hohB)); (exact (bv_1 hB)); rfl; rfl; intro w9 hk hg; have H9 := hide (Mem.st H8.out 0 rfl hk hg); clear hk hg; simp only [Act.put, List.setIfInBounds_toArray, List.set_cons_zero, List.set_cons_succ]))
  refine (named_v w9 sa (by decide) [] (.slice none 0 0) (hash0_at _ _) (Nat.le_of_ble_eq_true rfl)).mono ?_
  rintro e w10 ⟨p, rfl, hp1, hm⟩
  dsimp only
  have H10 := hide (Mem.seq H9.out hm)
  clear hm
  go_wp2_with fail
  refine (add_yesV w10 L2 (.slice A2 2 q2) (namedP sa []) p (.slice none 0 0) (itms_now (Mem.pick H10.out [2, 3] (by decide) rfl) HOL2.out HS2.out) HLL2.out (by have := HNL2.out; omega) (OwnDrv.at_ (show OwnDrv w10 _ (namedP sa []) p (.slice none 0 0) from Mem.get (e := drvE _ (namedP sa []) p (.slice none 0 0)) H10.out 0 rfl) (Nat.le_refl _)) (namedP_small _ _ (Nat.le_of_ble_eq_true rfl)) hA HHhA.out L2 HA3.out 2 HKL2.out).mono ?_
  rintro e w11 ⟨A3, q3, ls3, rfl, hls, hm⟩
  dsimp only
  have H11 := hide (Mem.seq H10.out (itms_lower hm (Nat.le_refl _)))
  have HS3 := hide hls
  clear hm hls
  go_wp2_with (first | ((with_reducible refine at_slot 8 ?_); (refine wpList_newZ (o := ⟨some 8, _, _, _, _, _⟩) rfl 27 zcH (by kernel_rfl) ?_); intro w12 hn; have H12 := hide (Mem.new1 H11.out hn); clear hn; simp only [Act.put, List.setIfInBounds_toArray, List.set_cons_zero, List.set_cons_succ]) | ((with_reducible refine at_store 8 33 ?_); (with_reducible refine wpList_store_blkA (o := ⟨none, _, _, _, _, _⟩) rfl 27 (.tmp 8) (.tmp 33) rfl w11.heap.size zcH (bv hA).toArray 27 (Mem.blk H12.out 0 rfl) ?_ ?_ ?_ ?_ ?_ ?_); (exact (hszD hohA)); (exact sz_eq zcH_sz (hszD hohA)); (exact (bv_1 hA)); rfl; rfl; intro w13 hk hg; have H13 := hide (Mem.st H12.out 0 rfl hk hg); clear hk hg; simp only [Act.put, List.setIfInBounds_toArray, List.set_cons_zero, List.set_cons_succ]) | ((with_reducible refine at_slot 37 ?_); (refine wpList_value (o := ⟨some 37, _, _, _, _, _⟩) rfl (.agg (bv hOne).toArray) w13 (by kernel_rfl) ?_)) | ((with_reducible refine at_slot 38 ?_); (refine wpList_row1 (o := ⟨some 38, _, _, _, _, _⟩) rfl 45 (.tmp 37) rfl 27 20 (.agg zcH) (.agg (bv hOne).toArray) rfl Try.underlying45 sz_hashD (by decide) (by decide) (fun w => by kernel_rfl) rfl ?_); intro w14 hn; have H14 := hide (Mem.new1 H13.out hn); clear hn; simp only [Act.put, List.setIfInBounds_toArray, List.set_cons_zero, List.set_cons_succ]))
  refine (named_v w14 sc (by decide) [hOne] (.slice (some ⟨w13.heap.size, 0, none⟩) 1 1) (hash1_at (Mem.blk H14.out 0 rfl) hOne_ok) (Nat.le_of_ble_eq_true rfl)).mono ?_
  rintro e w15 ⟨p, rfl, hp1, hm⟩
  dsimp only
  have H15 := hide (Mem.seq H14.out hm)
  clear hm
  go_wp2_with fail
  refine (add_notV w15 L2 (.slice A3 2 q3) (namedP sc [hOne]) p (.slice none 0 0) (itms_now (Mem.pick H15.out [3, 4] (by decide) rfl) HOL2.out HS3.out) HLL2.out (by have := HNL2.out; omega) (OwnDrv.at_ (show OwnDrv w15 _ (namedP sc [hOne]) p (.slice none 0 0) from Mem.get (e := drvE _ (namedP sc [hOne]) p (.slice none 0 0)) H15.out 0 rfl) (Nat.le_refl _)) (namedP_small _ _ (Nat.le_of_ble_eq_true rfl)) [] zeroH 5 (by decide) HA4.out).mono ?_
  rintro e w16 ⟨rfl, hb⟩
  dsimp only
  have H16 := hide (Mem.call H15.out hb)
  clear hb
  go_wp2_with (first | ((with_reducible refine at_slot 11 ?_); (refine wpList_newZ (o := ⟨some 11, _, _, _, _, _⟩) rfl 27 zcH (by kernel_rfl) ?_); intro w17 hn; have H17 := hide (Mem.new1 H16.out hn); clear hn; simp only [Act.put, List.setIfInBounds_toArray, List.set_cons_zero, List.set_cons_succ]) | ((with_reducible refine at_store 11 42 ?_); (with_reducible refine wpList_store_blkA (o := ⟨none, _, _, _, _, _⟩) rfl 27 (.tmp 11) (.tmp 42) rfl w16.heap.size zcH (bv zeroH).toArray 27 (Mem.blk H17.out 0 rfl) ?_ ?_ ?_ ?_ ?_ ?_); (exact (hszD zeroH_ok)); (exact sz_eq zcH_sz (hszD zeroH_ok)); (exact (bv_1 zeroH)); rfl; rfl; intro w18 hk hg; have H18 := hide (Mem.st H17.out 0 rfl hk hg); clear hk hg; simp only [Act.put, List.setIfInBounds_toArray, List.set_cons_zero, List.set_cons_succ]) | ((with_reducible refine at_slot 66 ?_); (refine wpList_value_w (o := ⟨some 66, _, _, _, _, _⟩) (by kernel_rfl) (.agg (bv hA).toArray) w18 (exec_load_mid (o := ⟨some 66, _, _, _, _, _⟩) 27 (.tmp 8) rfl w11.heap.size (0) rfl (bv hA) _ w18 (Blk.range (Mem.blk H18.out 3 rfl)) Try.underlying27 rfl (hszL hohA)) ?_)) | ((with_reducible refine at_slot 67 ?_); (refine wpList_value_w (o := ⟨some 67, _, _, _, _, _⟩) (by kernel_rfl) (.agg (bv hA).toArray) w18 (exec_load_mid (o := ⟨some 67, _, _, _, _, _⟩) 27 (.tmp 2) rfl w2.heap.size (0) rfl (bv hA) _ w18 (Blk.range (Mem.blk H18.out 12 rfl)) Try.underlying27 rfl (hszL hohA)) ?_)) | ((with_reducible refine at_slot 68 ?_); (refine wpList_value_w (o := ⟨some 68, _, _, _, _, _⟩) (by kernel_rfl) (.bool true) w18 (exec_eqA (o := ⟨some 68, _, _, _, _, _⟩) 27 27 (.tmp 66) (.tmp 67) rfl (bv hA).toArray (bv hA).toArray rfl rfl (by kernel_rfl) true w18 (by have h9 := eq_hash hA hA hohA hohA w18; rwa [decide_eq_true rfl] at h9)) ?_)) | ((with_reducible refine at_slot 71 ?_); (refine wpList_value_w (o := ⟨some 71, _, _, _, _, _⟩) (by kernel_rfl) (.agg (bv hA).toArray) w18 (exec_load_mid (o := ⟨some 71, _, _, _, _, _⟩) 27 (.tmp 2) rfl w2.heap.size (0) rfl (bv hA) _ w18 (Blk.range (Mem.blk H18.out 12 rfl)) Try.underlying27 rfl (hszL hohA)) ?_)) | ((with_reducible refine at_slot 72 ?_); (refine wpList_value_w (o := ⟨some 72, _, _, _, _, _⟩) (by kernel_rfl) (.agg (bv zeroH).toArray) w18 (by kernel_rfl) ?_)) | ((with_reducible refine at_slot 73 ?_); (refine wpList_value_w (o := ⟨some 73, _, _, _, _, _⟩) (by kernel_rfl) (.bool true) w18 (exec_neA (o := ⟨some 73, _, _, _, _, _⟩) 27 27 (.tmp 71) (.tmp 72) rfl (bv hA).toArray (bv zeroH).toArray rfl rfl (by kernel_rfl) false w18 (by have h9 := eq_hash hA zeroH hohA zeroH_ok w18; rwa [decide_eq_false HNZ.out] at h9)) ?_)))
  go_ret
  exact ⟨rfl, Mem.below H18.out⟩
end Go.Proofs.Ytidiepbmbbflhaa
end
section
namespace Go.Proofs.Ytidiepbmbbflhaa
open Go Go.RowKit Go.Maps
set_option maxRecDepth 100000
def hashA : Hsh := [23, 197, 100, 132, 137, 255, 108, 122, 148, 161, 155, 83, 156, 98, 81, 89, 242, 161, 54, 252]
def hashB : Hsh := [161, 49, 249, 6, 154, 191, 53, 254, 224, 104, 197, 73, 25, 195, 248, 148, 218, 251, 191, 21]
theorem hofA : hofP (namedP sa []) = hashA := by decide +kernel
theorem hofB : hofP (namedP sb [hashA]) = hashB := by decide +kernel
theorem putA : putE (namedP sa []) = 0 := by decide +kernel
theorem putB : putE (namedP sb [hashA]) = 0 := by decide +kernel
theorem putC : putE (namedP sc [hOne]) = 0 := by decide +kernel
def itA : Itm := (hashA, namedP sa [])
def itB : Itm := (hashB, namedP sb [hashA])
theorem addA : addP hofP L0 (namedP sa []) = ([itA], hashA, 0) := addP_new (hof := hofP) (l := L0) rfl putA (fun c hc => by cases hc) hofA rfl
theorem tabA : tabP hofP [itA] = true := by
  have h := tab_snoc (hof := hofP) (l := []) (d := namedP sa []) rfl putA (fun c hc => by cases hc) rfl
  rw [hofA] at h
  exact h
theorem findA : findI [itA] hashB = none := by decide +kernel
theorem clsB : clsP (namedP sb [hashA]).2.1 = [hashA] := by decide +kernel
theorem addB : addP hofP [itA] (namedP sb [hashA]) = ([itA, itB], hashB, 0) := addP_new (hof := hofP) tabA putB (fun c hc => by
  rw [clsB] at hc
  rw [List.mem_singleton.1 hc]
  decide +kernel) hofB findA
theorem tabB : tabP hofP [itA, itB] = true := by
  have h := tab_snoc (hof := hofP) (l := [itA]) (d := namedP sb [hashA]) tabA putB (fun c hc => by
    rw [clsB] at hc
    rw [List.mem_singleton.1 hc]
    exact findI_css.1 (by decide +kernel)) (by rw [hofB]; exact findA)
  rw [hofB] at h
  exact h
theorem addA2 : addP hofP [itA, itB] (namedP sa []) = ([itA, itB], hashA, 0) := addP_old (hof := hofP) tabB putA (fun c hc => by cases hc) hofA (x := itA) (by kernel_rfl) rfl
theorem clsC : clsP (namedP sc [hOne]).2.1 = [hOne] := by decide +kernel
theorem addC : addP hofP [itA, itB] (namedP sc [hOne]) = ([], zeroH, 5) := addP_5 (hof := hofP) tabB putC (c := hOne) (by rw [clsC]; exact List.mem_singleton.2 rfl) (by decide +kernel)
theorem awake19_any (w : World) : Calls Try.prog 5 #[] w fun e w' => e = .returned (.bool true) ∧ Below w.heap.size w w' := by
  refine awake19_of w hashA hashB rfl rfl [itA] [itA, itB] hofA hofB rfl rfl ?_ ?_ ?_ ?_ addA addB addA2 addC (by decide +kernel)
  · intro x hx
    rw [List.mem_singleton.1 hx]
    exact ⟨by decide +kernel, by decide +kernel⟩
  · intro x hx
    simp only [List.mem_cons, List.not_mem_nil, or_false] at hx
    rcases hx with rfl | rfl <;> exact ⟨by decide +kernel, by decide +kernel⟩
  · intro x hx
    rw [List.mem_singleton.1 hx]
    rfl
  · intro x hx
    simp only [List.mem_cons, List.not_mem_nil, or_false] at hx
    rcases hx with rfl | rfl <;> rfl
end Go.Proofs.Ytidiepbmbbflhaa
end
section
namespace Go.Proofs.Ytidiepbmbbflhaa
open Go Go.RowKit Go.Maps Go.WideShapes Go.ChangeShapes
set_option maxRecDepth 100000
/-- what is counted of a row, till there is too much -/
def cntF {α : Type} (f : α → Nat) (most : Nat) : Nat → List α → Nat
  | n, [] => n
  | n, x :: l => if n ≤ most then cntF f most (n + f x) l else n
section
variable {α : Type} {f : α → Nat} {most : Nat}
theorem cntF_step {l : List α} {k : Nat} {x : α} {n : Nat} (h : l[k]? = some x) (hn : n ≤ most) : cntF f most n (l.drop k) = cntF f most (n + f x) (l.drop (k + 1)) := by
  have hj := (List.getElem?_eq_some_iff.1 h)
  rw [List.drop_eq_getElem_cons hj.1, hj.2, cntF, if_pos hn]
theorem cntF_stop {l : List α} {n : Nat} (hn : ¬ n ≤ most) : cntF f most n l = n := by
  cases l with
  | nil => rfl
  | cons x l => rw [cntF, if_neg hn]
theorem cntF_le (h1 : ∀ x, 1 ≤ f x) : ∀ (l : List α) (n : Nat), cntF f most n l ≤ most → n + l.length ≤ most ∧ n + (l.map f).sum ≤ most ∧ ∀ x ∈ l, f x ≤ most
  | [], n, h => ⟨h, by simpa using (show n ≤ most from h), fun x hx => by cases hx⟩
  | x :: l, n, h => by
    unfold cntF at h
    split at h
    · have h2 := cntF_le h1 l _ h
      have := h1 x
      rw [List.length_cons, List.map_cons, List.sum_cons]
      refine ⟨by omega, by omega, fun y hy => ?_⟩
      rcases List.mem_cons.1 hy with rfl | hy
      · omega
      · exact h2.2.2 y hy
    · omega
end
theorem drvOfP_pos (most : Nat) (d : Drv) : 1 ≤ drvOfP most d := Nat.le_trans (by omega) (ofLoop_ge most d.2.1 (1 + d.1.size + d.2.2.length))
theorem ofLoop_bd (most : Nat) : ∀ (l : List Nam) (n : Nat), (∀ x ∈ l, x.1.size ≤ 140737488355328 ∧ x.2.1.2.size ≤ 140737488355328) → n ≤ most + 300000000000000 → ofLoop most n l ≤ most + 300000000000000
  | [], n, _, h => h
  | x :: l, n, hl, h => by
    unfold ofLoop
    split
    · refine ofLoop_bd most l _ (fun y hy => hl y (List.mem_cons_of_mem _ hy)) ?_
      have := hl x (List.mem_cons_self ..)
      omega
    · exact h
theorem drvOfP_bd (most : Nat) {d : Drv} (h : LightD d) : drvOfP most d ≤ most + 300000000000000 := ofLoop_bd most _ _ h.each (by have := h.name; have := h.rcp; omega)
theorem drvOfP_small {most : Nat} {d : Drv} (h : drvOfP most d ≤ most) : d.2.1.length ≤ most ∧ d.2.2.length ≤ most ∧ d.1.size ≤ most := by
  have h1 := ofLoop_len most _ _ h
  omega
set_option maxHeartbeats 4000000 in
theorem drvOfM_any (w : World) (most : Nat) (hmo : most ≤ 1000000) (d : Drv) (v1 v2 : Value) (h : DrvAt w w.heap.size d v1 v2) (hl : LightD d) :
    Calls Try.prog 17 #[.agg (dC d v1 v2).toArray, .int .i64 (most : Int)] w fun e w' => e = .returned (.int .i64 (drvOfP most d : Int)) ∧ Below w.heap.size w w' := by
  obtain ⟨A, cap, rfl, hcl, hcm, _, hA⟩ := slice_open h.ins
  obtain ⟨A2, cap2, rfl, hcl2, hcm2, _, _⟩ := slice_open h.rcp
  have hl1 := hl.name
  have hl2 := hl.ins
  have hl3 := hl.rcp
  have i9 : (d.2.1.length : Int) ≤ 140737488355328 := by omega
  have i8 : (d.2.2.length : Int) ≤ 140737488355328 := by omega
  have i7 : (d.1.size : Int) ≤ 140737488355328 := by omega
  have HA := hide hA
  have HL := hide hl.each
  clear hA h hcl hcm hcl2 hcm2 hl
  go_enter Try.func17, Try.ntmps17
  go_wp2_with (first | ((with_reducible refine at_slot 2 ?_); (refine wpList_boxA (o := ⟨some 2, _, _, _, _, _⟩) rfl 34 (.tmp 0) rfl (dC d (.slice A d.2.1.length cap) (.slice A2 d.2.2.length cap2)).toArray rfl ?_); intro w1 hn; have H1 := hide hn; clear hn; simp only [Act.put, List.setIfInBounds_toArray, List.set_cons_zero, List.set_cons_succ]) | ((with_reducible refine at_slot 8 ?_); (refine wpList_value (o := ⟨some 8, _, _, _, _, _⟩) rfl (.string d.1) w1 (exec_load_cell (o := ⟨some 8, _, _, _, _, _⟩) 9 (.tmp 7) rfl ⟨w.heap.size, 0, none⟩ rfl _ _ w1 Try.underlying9 rfl (show w1.cell? ⟨w.heap.size, 0, none⟩ = some (.string d.1) from H1.out.blk.cell 0)) ?_)) | ((with_reducible refine at_slot 12 ?_); (refine wpList_value (o := ⟨some 12, _, _, _, _, _⟩) rfl (.slice A2 d.2.2.length cap2) w1 (exec_load_cell (o := ⟨some 12, _, _, _, _, _⟩) 32 (.tmp 11) rfl ⟨w.heap.size, 2, none⟩ rfl _ _ w1 Try.underlying32 rfl (show w1.cell? ⟨w.heap.size, 2, none⟩ = some (.slice A2 d.2.2.length cap2) from H1.out.blk.cell 2)) ?_)))
  have c1 : w1.cell? ⟨w.heap.size, 1, none⟩ = some (.slice A d.2.1.length cap) := H1.out.blk.cell 1
  go_loopw [5, 6] (fun x5 x6 wr => ∃ (n k : Nat), k ≤ d.2.1.length ∧ n ≤ most + 300000000000000 ∧ x5 = .int .i64 (n : Int) ∧ x6 = .int .i64 (k : Int) ∧ drvOfP most d = ofLoop most n (d.2.1.drop k) ∧ Below w1.heap.size w1 wr) (fun _ x6 _ => d.2.1.length - (intOf x6).toNat)
  case atStart => exact ⟨1 + d.1.size + d.2.2.length, 0, by omega, by omega, by go_num, rfl, rfl, Below.refl _ _⟩
  case round =>
    obtain ⟨wo, rfl⟩ : ∃ wo, wo = wr := ⟨_, rfl⟩
    obtain ⟨n, j, hj, hn, rfl, rfl, hof, hb⟩ := hrel
    have HB := hide (And.intro hof hb)
    clear hof hb
    have c1' : wo.cell? ⟨w.heap.size, 1, none⟩ = some (.slice A d.2.1.length cap) := (World.cell?_of_block (HB.out.2.block _ H1.out.blk.lt)).trans c1
    have HC1 := hide c1'
    have j0 : (0 : Int) ≤ (j : Int) := by omega
    have n0 : (0 : Int) ≤ (n : Int) := by omega
    have n9 : (n : Int) ≤ 300000001000000 := by omega
    by_cases hj2 : j < d.2.1.length
    · have j1 : (j : Int) < (d.2.1.length : Int) := by omega
      by_cases hn3 : n ≤ most
      · have n3 : (n : Int) ≤ (most : Int) := by omega
        obtain ⟨x, hx⟩ : ∃ x, d.2.1[j]? = some x := ⟨_, List.getElem?_eq_getElem hj2⟩
        obtain ⟨b, off, rfl, hlb, hE⟩ := HA.out (by omega)
        obtain ⟨cs, hr, hatx⟩ := hE j x hx
        obtain ⟨rfl, hxo⟩ := namLay_at.1 hatx
        have hr0 := rangeAt_same hr (((HB.out.2.block b (by have := H1.out.size; omega)).trans (H1.out.below.block b hlb)))
        have d0 : wo.cell? ⟨b, off + j * 43, none⟩ = some (.string x.1) := hr0 0 _ rfl
        have d21 : wo.cell? ⟨b, off + j * 43 + 21, none⟩ = some (.string x.2.1.2) := hr0 21 _ (nam_21 hxo)
        have hxl := HL.out x (List.mem_of_getElem? hx)
        have x1 : (x.1.size : Int) ≤ 140737488355328 := by omega
        have x2 : (x.2.1.2.size : Int) ≤ 140737488355328 := by omega
        have hst := ofLoop_step hx hn3
        have HST := hide hst
        have HD0 := hide (And.intro d0 d21)
        clear hx hE hr hatx hxo hr0 d0 d21 hst hxl
        go_wp2_with fail
        refine Fre.wp_made (X := Bel) 19 [] (by kernel_rfl) (by kernel_rfl) (by simp) (by simp) (by simp) ?_
        simp only [List.take_succ_cons, List.take_zero, List.drop_succ_cons, List.drop_zero]
        refine Fre.made_val (.int .i64 (n : Int)) (by kernel_rfl) (by kernel_rfl) (by kernel_rfl) (fun _ _ => by kernel_rfl) ?_
        simp only [Act.put, List.setIfInBounds_toArray, List.set_cons_zero, List.set_cons_succ]
        refine Fre.made_val (.int .i64 ((n : Int) + 1)) (by kernel_rfl) (by kernel_rfl) (by kernel_rfl) (fun W9 hW9 => ?hs1) ?_
        case hs1 =>
          go_simp
          all_goals exact Go.IntWalk.i64_in _ (by omega)
        simp only [Act.put, List.setIfInBounds_toArray, List.set_cons_zero, List.set_cons_succ]
        refine Fre.made_val (.pointer (some ⟨w.heap.size, 1, none⟩)) (by kernel_rfl) (by kernel_rfl) (by kernel_rfl) (fun _ _ => by kernel_rfl) ?_
        simp only [Act.put, List.setIfInBounds_toArray, List.set_cons_zero, List.set_cons_succ]
        refine Fre.made_val (.slice (some ⟨b, off, none⟩) d.2.1.length cap) (by kernel_rfl) (by kernel_rfl) (by kernel_rfl) (fun W9 hW9 => exec_load_cell (o := ⟨some 30, _, _, _, _, _⟩) 31 (.tmp 29) rfl ⟨w.heap.size, 1, none⟩ rfl _ _ W9 Try.underlying31 rfl (((World.cell?_of_block (Below.block hW9 _ (World.block_lt_of_cell? wo _ HC1.out))).trans HC1.out))) ?_
        simp only [Act.put, List.setIfInBounds_toArray, List.set_cons_zero, List.set_cons_succ]
        refine Fre.made_val (.int .i64 (j : Int)) (by kernel_rfl) (by kernel_rfl) (by kernel_rfl) (fun _ _ => by kernel_rfl) ?_
        simp only [Act.put, List.setIfInBounds_toArray, List.set_cons_zero, List.set_cons_succ]
        refine Fre.made_val (.pointer (some ⟨b, off + j * 43, none⟩)) (by kernel_rfl) (by kernel_rfl) (by kernel_rfl) (fun W9 hW9 => exec_idxO (o := ⟨some 32, _, _, _, _, _⟩) 31 72 (.tmp 30) (.tmp 31) rfl b off d.2.1.length cap j rfl rfl hj2 43 Try.underlying31 sz_namD W9) ?_
        simp only [Act.put, List.setIfInBounds_toArray, List.set_cons_zero, List.set_cons_succ]
        refine Fre.made_val (.pointer (some ⟨b, off + j * 43, none⟩)) (by kernel_rfl) (by kernel_rfl) (by kernel_rfl) (fun _ _ => by kernel_rfl) ?_
        simp only [Act.put, List.setIfInBounds_toArray, List.set_cons_zero, List.set_cons_succ]
        refine Fre.made_val (.string x.1) (by kernel_rfl) (by kernel_rfl) (by kernel_rfl) (fun W9 hW9 => exec_load_cell (o := ⟨some 34, _, _, _, _, _⟩) 9 (.tmp 33) rfl ⟨b, off + j * 43, none⟩ rfl _ _ W9 Try.underlying9 rfl (((World.cell?_of_block (Below.block hW9 _ (World.block_lt_of_cell? wo _ HD0.out.1))).trans HD0.out.1))) ?_
        simp only [Act.put, List.setIfInBounds_toArray, List.set_cons_zero, List.set_cons_succ]
        refine Fre.made_val (.int .i64 (x.1.size : Int)) (by kernel_rfl) (by kernel_rfl) (by kernel_rfl) (fun W9 hW9 => ?hs2) ?_
        case hs2 =>
          go_simp
        simp only [Act.put, List.setIfInBounds_toArray, List.set_cons_zero, List.set_cons_succ]
        refine Fre.made_val (.int .i64 ((n : Int) + 1 + (x.1.size : Int))) (by kernel_rfl) (by kernel_rfl) (by kernel_rfl) (fun W9 hW9 => ?hs3) ?_
        case hs3 =>
          go_simp
          all_goals exact Go.IntWalk.i64_in _ (by omega)
        simp only [Act.put, List.setIfInBounds_toArray, List.set_cons_zero, List.set_cons_succ]
        refine Fre.made_val (.pointer (some ⟨w.heap.size, 1, none⟩)) (by kernel_rfl) (by kernel_rfl) (by kernel_rfl) (fun _ _ => by kernel_rfl) ?_
        simp only [Act.put, List.setIfInBounds_toArray, List.set_cons_zero, List.set_cons_succ]
        refine Fre.made_val (.slice (some ⟨b, off, none⟩) d.2.1.length cap) (by kernel_rfl) (by kernel_rfl) (by kernel_rfl) (fun W9 hW9 => exec_load_cell (o := ⟨some 38, _, _, _, _, _⟩) 31 (.tmp 37) rfl ⟨w.heap.size, 1, none⟩ rfl _ _ W9 Try.underlying31 rfl (((World.cell?_of_block (Below.block hW9 _ (World.block_lt_of_cell? wo _ HC1.out))).trans HC1.out))) ?_
        simp only [Act.put, List.setIfInBounds_toArray, List.set_cons_zero, List.set_cons_succ]
        refine Fre.made_val (.int .i64 (j : Int)) (by kernel_rfl) (by kernel_rfl) (by kernel_rfl) (fun _ _ => by kernel_rfl) ?_
        simp only [Act.put, List.setIfInBounds_toArray, List.set_cons_zero, List.set_cons_succ]
        refine Fre.made_val (.pointer (some ⟨b, off + j * 43, none⟩)) (by kernel_rfl) (by kernel_rfl) (by kernel_rfl) (fun W9 hW9 => exec_idxO (o := ⟨some 40, _, _, _, _, _⟩) 31 72 (.tmp 38) (.tmp 39) rfl b off d.2.1.length cap j rfl rfl hj2 43 Try.underlying31 sz_namD W9) ?_
        simp only [Act.put, List.setIfInBounds_toArray, List.set_cons_zero, List.set_cons_succ]
        refine Fre.made_val (.pointer (some ⟨b, off + j * 43 + 1, none⟩)) (by kernel_rfl) (by kernel_rfl) (by kernel_rfl) (fun _ _ => by kernel_rfl) ?_
        simp only [Act.put, List.setIfInBounds_toArray, List.set_cons_zero, List.set_cons_succ]
        refine Fre.made_val (.pointer (some ⟨b, off + j * 43 + 1, none⟩)) (by kernel_rfl) (by kernel_rfl) (by kernel_rfl) (fun _ _ => by kernel_rfl) ?_
        simp only [Act.put, List.setIfInBounds_toArray, List.set_cons_zero, List.set_cons_succ]
        refine Fre.made_val (.pointer (some ⟨b, off + j * 43 + 21, none⟩)) (by kernel_rfl) (by kernel_rfl) (by kernel_rfl) (fun _ _ => by kernel_rfl) ?_
        simp only [Act.put, List.setIfInBounds_toArray, List.set_cons_zero, List.set_cons_succ]
        refine Fre.made_val (.string x.2.1.2) (by kernel_rfl) (by kernel_rfl) (by kernel_rfl) (fun W9 hW9 => exec_load_cell (o := ⟨some 44, _, _, _, _, _⟩) 9 (.tmp 43) rfl ⟨b, off + j * 43 + 21, none⟩ rfl _ _ W9 Try.underlying9 rfl (((World.cell?_of_block (Below.block hW9 _ (World.block_lt_of_cell? wo _ HD0.out.2))).trans HD0.out.2))) ?_
        simp only [Act.put, List.setIfInBounds_toArray, List.set_cons_zero, List.set_cons_succ]
        refine Fre.made_val (.int .i64 (x.2.1.2.size : Int)) (by kernel_rfl) (by kernel_rfl) (by kernel_rfl) (fun W9 hW9 => ?hs4) ?_
        case hs4 =>
          go_simp
        simp only [Act.put, List.setIfInBounds_toArray, List.set_cons_zero, List.set_cons_succ]
        intro w5 hx5
        have H5 := hide (HB.out.2.trans (Below.mono hx5 HB.out.2.size))
        clear hx5
        dsimp only [Fre.ended, List.drop]
        go_wp2_with fail
        go_roundw
        case rel => exact ⟨n + 1 + x.1.size + x.2.1.2.size, j + 1, by omega, by omega, by go_num, by go_num, by rw [HB.out.1]; exact HST.out, H5.out⟩
        case measure => simp [intOf]; omega
      · have n3 : ¬ (n : Int) ≤ (most : Int) := by omega
        have hfin : drvOfP most d = n := by rw [HB.out.1]; exact ofLoop_stop hn3
        have HF := hide hfin
        clear hfin
        go_wp2_with fail
        go_ret
        exact ⟨by rw [HF.out]; rfl, H1.out.below.trans (Below.mono HB.out.2 H1.out.below.size)⟩
    · obtain rfl : j = d.2.1.length := by omega
      have hfin : drvOfP most d = n := by rw [HB.out.1, List.drop_length]; rfl
      have HF := hide hfin
      clear hfin
      go_wp2_with fail
      go_ret
      exact ⟨by rw [HF.out]; rfl, H1.out.below.trans (Below.mono HB.out.2 H1.out.below.size)⟩
end Go.Proofs.Ytidiepbmbbflhaa
end
section
namespace Go.Proofs.Ytidiepbmbbflhaa
open Go Go.RowKit Go.Maps
set_option maxRecDepth 100000
def drvsLay : Lay (List Drv) := Lay.slice 22 drvLay
theorem drvsLay_opens : drvsLay.Opens Try.prog := opens_slice drvLay_opens (by decide) Try.underlying22 (by kernel_rfl)
theorem sz_drv : (Try.prog.info? 34).map (·.size) = some 3 := by kernel_rfl
set_option maxHeartbeats 1000000 in
theorem drvsOf_any (w : World) (most : Nat) (hmo : most ≤ 1000000) (l : List Drv) (A : Option Addr) (cap : Nat) (h : drvsLay.At w w.heap.size [.slice A l.length cap] l) (hl : ∀ x ∈ l, LightD x) :
    Calls Try.prog 6 #[.slice A l.length cap, .int .i64 (most : Int)] w fun e w' => e = .returned (.int .i64 (cntF (drvOfP most) most 0 l : Int)) ∧ Below w.heap.size w w' := by
  obtain ⟨A', cap', e, _, hcm9, _, hA⟩ := slice_open h
  injection e with e1 e2 e3
  subst e1 e3
  have k9 : (l.length : Int) ≤ 9223372036854775807 := by simp only [maxLen] at hcm9; omega
  have HA := hide hA
  have HL := hide hl
  clear hA h e2 hl hcm9
  have H0 := hide (Mem.start w)
  go_enter Try.func6, Try.ntmps6
  go_wp2_with fail
  go_loopw [5, 6] (fun xn xi wr => ∃ (n j : Nat), j ≤ l.length ∧ n ≤ 600000000000000 ∧ xn = .int .i64 (n : Int) ∧ xi = .int .i64 (j : Int) ∧ cntF (drvOfP most) most 0 l = cntF (drvOfP most) most n (l.drop j) ∧ Mem w wr []) (fun _ xi _ => l.length - (intOf xi).toNat)
  case atStart => exact ⟨0, 0, by omega, by omega, rfl, rfl, rfl, H0.out⟩
  case round =>
    obtain ⟨wo, rfl⟩ : ∃ wo, wo = wr := ⟨_, rfl⟩
    obtain ⟨n, j, hj, hn, rfl, rfl, hcn, hm⟩ := hrel
    have HM := hide hm
    have HC := hide hcn
    clear hm hcn
    have j0 : (0 : Int) ≤ (j : Int) := by omega
    have n0 : (0 : Int) ≤ (n : Int) := by omega
    have n9 : (n : Int) ≤ 600000000000000 := by omega
    by_cases hj2 : j < l.length
    · have j1 : (j : Int) < (l.length : Int) := by omega
      by_cases hn3 : n ≤ most
      · have n3 : (n : Int) ≤ (most : Int) := by omega
        obtain ⟨x, hx⟩ : ∃ x, l[j]? = some x := ⟨_, List.getElem?_eq_getElem (by omega)⟩
        obtain ⟨b, off, rfl, hltb, hE⟩ := HA.out (by omega)
        obtain ⟨cs, hrx, hatx⟩ := hE j x hx
        clear hE
        obtain ⟨q1, q2, rfl, hxd⟩ := drvLay_at.1 hatx
        obtain ⟨ho1, ho2⟩ := hxd.ones
        have hlx := HL.out x (List.mem_of_getElem? hx)
        have hbd := drvOfP_bd most hlx
        have hst := cntF_step (f := (drvOfP most)) (most := most) hx hn3
        have HST := hide hst
        have HX := hide (And.intro hrx (And.intro hltb hxd))
        have HXL := hide hlx
        clear hrx hltb hxd hatx hx hlx
        clear hst
        go_wp2_with (first | ((with_reducible refine at_slot 21 ?_); (refine wpList_value (o := ⟨some 21, _, _, _, _, _⟩) rfl (.pointer (some ⟨b, off + j * 3, none⟩)) wo (exec_idxO (o := ⟨some 21, _, _, _, _, _⟩) 22 34 (.tmp 19) (.tmp 20) rfl b off l.length cap j rfl rfl hj2 3 Try.underlying22 sz_drv wo) ?_)) | ((with_reducible refine at_slot 22 ?_); (refine wpList_value (o := ⟨some 22, _, _, _, _, _⟩) rfl (.agg (dC x q1 q2).toArray) wo (exec_load_mid (o := ⟨some 22, _, _, _, _, _⟩) 34 (.tmp 21) rfl b (off + j * 3) rfl (dC x q1 q2) _ wo (Mem.range HM.out HX.out.1 HX.out.2.1) Try.underlying34 rfl (dC_szl x q1 q2)) ?_)))
        refine (drvOfM_any wo most hmo x q1 q2 (Mem.drv HM.out HX.out.2.2) HXL.out).mono ?_
        rintro e w1 ⟨rfl, hb⟩
        dsimp only
        have H1 := hide (Mem.call HM.out hb)
        clear hb
        go_wp2_with fail
        go_roundw
        case rel => exact ⟨n + drvOfP most x, j + 1, by omega, by omega, by go_num, by go_num, by rw [HC.out]; exact HST.out, H1.out⟩
        case measure => simp [intOf]; omega
      · have n3 : ¬ (n : Int) ≤ (most : Int) := by omega
        have hfin : cntF (drvOfP most) most 0 l = n := by rw [HC.out]; exact cntF_stop hn3
        have HF := hide hfin
        clear hfin
        go_wp2_with fail
        go_ret
        exact ⟨by rw [HF.out]; rfl, Mem.below HM.out⟩
    · obtain rfl : j = l.length := by omega
      have hfin : cntF (drvOfP most) most 0 l = n := by rw [HC.out, List.drop_length]; rfl
      have HF := hide hfin
      clear hfin
      go_wp2_with fail
      go_ret
      exact ⟨by rw [HF.out]; rfl, Mem.below HM.out⟩
set_option maxHeartbeats 1000000 in
theorem great19_any (w : World) (l : List Itm) (A : Option Addr) (cap : Nat) (h : itmsLay.At w w.heap.size [.slice A l.length cap] l) (hl : ∀ x ∈ l, LightD x.2) :
    Calls Try.prog 13 #[.slice A l.length cap] w fun e w' => e = .returned (.bool (decide (1500 < cntF (fun x : Itm => drvOfP 1500 x.2) 1500 0 l))) ∧ Below w.heap.size w w' := by
  obtain ⟨A', cap', e, _, hcm9, _, hA⟩ := slice_open h
  injection e with e1 e2 e3
  subst e1 e3
  have k9 : (l.length : Int) ≤ 9223372036854775807 := by simp only [maxLen] at hcm9; omega
  have HA := hide hA
  have HL := hide hl
  clear hA h e2 hl hcm9
  have H0 := hide (Mem.start w)
  go_enter Try.func13, Try.ntmps13
  go_wp2_with fail
  go_loopw [3, 4] (fun xn xi wr => ∃ (n j : Nat), j ≤ l.length ∧ n ≤ 600000000000000 ∧ xn = .int .i64 (n : Int) ∧ xi = .int .i64 (j : Int) ∧ cntF (fun x : Itm => drvOfP 1500 x.2) 1500 0 l = cntF (fun x : Itm => drvOfP 1500 x.2) 1500 n (l.drop j) ∧ Mem w wr []) (fun _ xi _ => l.length - (intOf xi).toNat)
  case atStart => exact ⟨0, 0, by omega, by omega, rfl, rfl, rfl, H0.out⟩
  case round =>
    obtain ⟨wo, rfl⟩ : ∃ wo, wo = wr := ⟨_, rfl⟩
    obtain ⟨n, j, hj, hn, rfl, rfl, hcn, hm⟩ := hrel
    have HM := hide hm
    have HC := hide hcn
    clear hm hcn
    have j0 : (0 : Int) ≤ (j : Int) := by omega
    have n0 : (0 : Int) ≤ (n : Int) := by omega
    have n9 : (n : Int) ≤ 600000000000000 := by omega
    by_cases hj2 : j < l.length
    · have j1 : (j : Int) < (l.length : Int) := by omega
      by_cases hn3 : n ≤ 1500
      · have n3 : (n : Int) ≤ (1500 : Int) := by omega
        obtain ⟨x, hx⟩ : ∃ x, l[j]? = some x := ⟨_, List.getElem?_eq_getElem (by omega)⟩
        obtain ⟨b, off, rfl, hltb, hE⟩ := HA.out (by omega)
        obtain ⟨cs, hrx, hatx⟩ := hE j x hx
        clear hE
        obtain ⟨q1, q2, rfl, hxo, hxd⟩ := itmLay_at.1 hatx
        obtain ⟨ho1, ho2⟩ := hxd.ones
        have hlx := HL.out x (List.mem_of_getElem? hx)
        have hbd := drvOfP_bd 1500 hlx
        have hst := cntF_step (f := (fun x : Itm => drvOfP 1500 x.2)) (most := 1500) hx hn3
        have HST := hide hst
        have HX := hide (And.intro hrx (And.intro hltb hxd))
        have HXL := hide hlx
        clear hrx hltb hxd hatx hx hlx
        clear hst
        go_wp2_with (first | ((with_reducible refine at_slot 18 ?_); (refine wpList_value (o := ⟨some 18, _, _, _, _, _⟩) rfl (.pointer (some ⟨b, off + j * 23, none⟩)) wo (exec_idxO (o := ⟨some 18, _, _, _, _, _⟩) 25 43 (.tmp 16) (.tmp 17) rfl b off l.length cap j rfl rfl hj2 23 Try.underlying25 sz_itm wo) ?_)) | ((with_reducible refine at_slot 20 ?_); (refine wpList_value (o := ⟨some 20, _, _, _, _, _⟩) rfl (.agg (dC x.2 q1 q2).toArray) wo (exec_load_mid (o := ⟨some 20, _, _, _, _, _⟩) 34 (.tmp 19) rfl b (off + j * 23 + 20) rfl (dC x.2 q1 q2) _ wo (item_drv9 hxo (Mem.range HM.out HX.out.1 HX.out.2.1)) Try.underlying34 rfl (dC_szl x.2 q1 q2)) ?_)))
        refine (drvOfM_any wo 1500 (by omega) x.2 q1 q2 (Mem.drv HM.out HX.out.2.2) HXL.out).mono ?_
        rintro e w1 ⟨rfl, hb⟩
        dsimp only
        have H1 := hide (Mem.call HM.out hb)
        clear hb
        go_wp2_with fail
        go_roundw
        case rel => exact ⟨n + drvOfP 1500 x.2, j + 1, by omega, by omega, by go_num, by go_num, by rw [HC.out]; exact HST.out, H1.out⟩
        case measure => simp [intOf]; omega
      · have n3 : ¬ (n : Int) ≤ (1500 : Int) := by omega
        have hfin : cntF (fun x : Itm => drvOfP 1500 x.2) 1500 0 l = n := by rw [HC.out]; exact cntF_stop hn3
        have HF := hide hfin
        clear hfin
        cases hgr : decide ((n : Int) > 1500)
        · have hgn : ¬ (n : Int) > 1500 := of_decide_eq_false hgr
          clear hgr
          go_wp2_with fail
          go_ret
          exact ⟨by rw [HF.out, decide_eq_false (by omega)]; rfl, Mem.below HM.out⟩
        · have hgn : (n : Int) > 1500 := of_decide_eq_true hgr
          clear hgr
          go_wp2_with fail
          go_ret
          exact ⟨by rw [HF.out, decide_eq_true (by omega)]; rfl, Mem.below HM.out⟩
    · obtain rfl : j = l.length := by omega
      have hfin : cntF (fun x : Itm => drvOfP 1500 x.2) 1500 0 l = n := by rw [HC.out, List.drop_length]; rfl
      have HF := hide hfin
      clear hfin
      cases hgr : decide ((n : Int) > 1500)
      · have hgn : ¬ (n : Int) > 1500 := of_decide_eq_false hgr
        clear hgr
        go_wp2_with fail
        go_ret
        exact ⟨by rw [HF.out, decide_eq_false (by omega)]; rfl, Mem.below HM.out⟩
      · have hgn : (n : Int) > 1500 := of_decide_eq_true hgr
        clear hgr
        go_wp2_with fail
        go_ret
        exact ⟨by rw [HF.out, decide_eq_true (by omega)]; rfl, Mem.below HM.out⟩
end Go.Proofs.Ytidiepbmbbflhaa
end
section
namespace Go.Proofs.Ytidiepbmbbflhaa
open Go Go.RowKit Go.Maps
section
variable {P : Program}
/-- cells of a type read as a key, at depth k -/
def KL (P : Program) (k : Nat) (t : TypeId) (cs : List Value) : Prop := cs.length = P.cellsOf t ∧ ∀ d, k ≤ d → ∃ L, P.keyLits d t cs = some L
theorem KL.mono {k k' : Nat} {t : TypeId} {cs : List Value} (h : KL P k t cs) (hk : k ≤ k') : KL P k' t cs := ⟨h.1, fun d hd => h.2 d (Nat.le_trans hk hd)⟩
theorem kl_bool {t : TypeId} (ht : P.underlying t = some .bool) (hc : P.cellsOf t = 1) (b : Bool) : KL P 1 t [.bool b] := ⟨by rw [hc]; rfl, fun d hd => by
  obtain ⟨d, rfl⟩ : ∃ e, d = e + 1 := ⟨d - 1, by omega⟩
  unfold Program.keyLits
  simp [ht]⟩
theorem kl_int {t : TypeId} {q : IntKind} (ht : P.underlying t = some (.int q)) (hc : P.cellsOf t = 1) (n : Int) (hw : (Lit.int q n).wf = true) : KL P 1 t [.int q n] := ⟨by rw [hc]; rfl, fun d hd => by
  obtain ⟨d, rfl⟩ : ∃ e, d = e + 1 := ⟨d - 1, by omega⟩
  unfold Program.keyLits
  simp [ht, hw]⟩
theorem kl_str {t : TypeId} (ht : P.underlying t = some .string) (hc : P.cellsOf t = 1) (s : ByteArray) (hs : s.size ≤ maxLen) : KL P 1 t [.string s] := ⟨by rw [hc]; rfl, fun d hd => by
  obtain ⟨d, rfl⟩ : ∃ e, d = e + 1 := ⟨d - 1, by omega⟩
  unfold Program.keyLits
  simp [ht, hs]⟩
theorem kl_u8s {t e : TypeId} {n : Nat} (ht : P.underlying t = some (.array n e)) (he : P.underlying e = some (.int .u8)) (hc : P.cellsOf t = n) (h1 : P.cellsOf e = 1) {h : List UInt8} (hl : h.length = n) : KL P 2 t (bv h) := ⟨by rw [bvL, hc]; exact hl, fun d hd => by
  obtain ⟨d, rfl⟩ : ∃ e, d = e + 2 := ⟨d - 2, by omega⟩
  exact keyLits_u8s d ht he hc h1 hl⟩
theorem mapM_all {α β : Type} (f : α → Option β) : ∀ (l : List α), (∀ x ∈ l, ∃ y, f x = some y) → ∃ ys, l.mapM f = some ys
  | [], _ => ⟨[], rfl⟩
  | x :: l, h => by
    obtain ⟨y, hy⟩ := h x (by simp)
    obtain ⟨ys, hys⟩ := mapM_all f l fun z hz => h z (by simp [hz])
    exact ⟨y :: ys, by rw [List.mapM_cons, hy, hys]; rfl⟩
/-- a struct: its fields' types and places, and their cells -/
theorem kl_struct {t : TypeId} {fs : Array Field} {k : Nat} {cs : List Value} (ht : P.underlying t = some (.struct fs)) (hn : fs.all (·.name != "_") = true) (hlen : cs.length = P.cellsOf t) (parts : List (TypeId × Nat × List Value))
    (hp : fs.toList.map (fun f => (f.type, f.offset)) = parts.map fun p => (p.1, p.2.1)) (hk : ∀ p ∈ parts, KL P k p.1 p.2.2) (hc : ∀ p ∈ parts, (cs.drop p.2.1).take p.2.2.length = p.2.2) : KL P (k + 1) t cs := ⟨hlen, fun d hd => by
  obtain ⟨d, rfl⟩ : ∃ e, d = e + 1 := ⟨d - 1, by omega⟩
  obtain ⟨ys, hys⟩ := mapM_all (fun f : Field => P.keyLits d f.type ((cs.drop f.offset).take (P.cellsOf f.type))) fs.toList fun f hf => by
    have hm : (f.type, f.offset) ∈ parts.map fun p => (p.1, p.2.1) := by
      rw [← hp]
      exact List.mem_map.2 ⟨f, hf, rfl⟩
    obtain ⟨p, hpm, e⟩ := List.mem_map.1 hm
    injection e with e1 e2
    obtain ⟨L, hL⟩ := (hk p hpm).2 d (by omega)
    refine ⟨L, ?_⟩
    rw [← e1, ← e2, ← (hk p hpm).1, hc p hpm, hL]
  unfold Program.keyLits
  rw [ht]
  have hlen' := hlen
  cases cs with
  | nil =>
    simp only []
    rw [if_pos ⟨hlen', hn⟩, hys]
    exact ⟨_, rfl⟩
  | cons x cs =>
    simp only []
    rw [if_pos ⟨hlen', hn⟩, hys]
    exact ⟨_, rfl⟩⟩
/-- such cells as a key's value -/
theorem kl_key {k : Nat} {t : TypeId} {cs : List Value} (h : KL P k t cs) (hd : k ≤ P.types.size + 1) (hkt : P.keyType t = true) (hrow : (match P.underlying t with | some (.array _ _) | some (.struct _) => true | _ => false) = true) : ∃ l, keyOf P t (.agg cs.toArray) = some l := by
  obtain ⟨L, hL⟩ := h.2 _ hd
  have hf : (Value.agg cs.toArray).formed P t = true := by
    unfold Value.formed
    cases hu : P.underlying t with
    | none => rw [hu] at hrow; cases hrow
    | some d => cases d <;> simp_all [h.1]
  unfold keyOf
  cases hu : P.underlying t with
  | none => rw [hu] at hrow; cases hrow
  | some d =>
    rw [hu] at hrow
    cases d <;> first | (cases hrow; done) | (simp only [hkt, hf, Bool.and_self, if_true, Value.cells, hL]; exact ⟨_, rfl⟩)
/-- whether two are one, as an operation of the program tells it -/
theorem kl_eq {k m : Nat} {t : TypeId} (K : Keyed P t) {a b : List Value} (ha : KL P k t a) (hb : KL P k t b) (hd : k ≤ P.types.size + 1) (hkt : P.keyType t = true) (hm : m ≤ 10000) (hka : P.keyTypeAt m t = true) (hrow : (match P.underlying t with | some (.array _ _) | some (.struct _) => true | _ => false) = true) (w : World) :
    ∃ r : Bool, (Op.equal t (.agg a.toArray) (.agg b.toArray)).run P w = .ok r w ∧ (r = true ↔ a = b) := by
  obtain ⟨la, h1⟩ := kl_key ha hd hkt hrow
  obtain ⟨lb, h2⟩ := kl_key hb hd hkt hrow
  obtain ⟨r, h3, h4⟩ := run_equal_deep (P := P) w hm hka hrow h1 h2
  refine ⟨r, h3, ?_⟩
  rw [h4]
  constructor
  · intro e
    subst e
    have := K.inj h1 h2
    injection this with this
    simpa using this
  · intro e
    subst e
    rw [h1] at h2
    injection h2
theorem bin_eq_of {t : TypeId} {a b : Array Value} {r : Bool} {w : World} (h : (Op.equal t (.agg a) (.agg b)).run P w = .ok r w) : (binOp .eql t (.agg a) (.agg b)).run P w = .ok (.bool r) w := by
  simp only [binOp, Sem.run_bind, h, Result.andThen_ok, Sem.run_pure]
theorem bin_ne_of {t : TypeId} {a b : Array Value} {r : Bool} {w : World} (h : (Op.equal t (.agg a) (.agg b)).run P w = .ok r w) : (binOp .neq t (.agg a) (.agg b)).run P w = .ok (.bool (!r)) w := by
  simp only [binOp, Sem.run_bind, h, Result.andThen_ok, Sem.run_pure]
end
end Go.Proofs.Ytidiepbmbbflhaa
end
section
namespace Go.Proofs.Ytidiepbmbbflhaa
open Go Go.RowKit Go.Maps
set_option maxRecDepth 100000
instance decInp : DecidableEq Inp := inferInstance
instance decNam : DecidableEq Nam := instDecidableEqProd
instance decNams : DecidableEq (List Nam) := instDecidableEqList
instance decDrv : DecidableEq Drv := instDecidableEqProd
instance decItm : DecidableEq Itm := instDecidableEqProd
instance decItms : DecidableEq (List Itm) := instDecidableEqList
theorem nC_szl {x : Nam} (h : okN x) : (Try.prog.info? 72).map (·.size) = some (nC x).length := by rw [nC_len h]; kernel_rfl
theorem nC_sz {x : Nam} (h : okN x) : (Try.prog.info? 72).map (·.size) = some (nC x).toArray.size := by rw [List.size_toArray]; exact nC_szl h
theorem nC_1 (x : Nam) : (nC x).toArray.all (·.oneCell') = true := all_oneCell_toArray (nC_one x)
theorem kl_hash {h : Hsh} (hh : okH h) : KL Try.prog 2 27 (bv h) := kl_u8s Try.underlying27 Try.underlying5 cells_hash cells_u8 hh
theorem kl_path {p : Pth} (hp : okP p) : KL Try.prog 3 68 (pC p) := by
  have hl : (bv p.1).length = 20 := by rw [bvL]; exact hp.1
  refine kl_struct Try.underlying68 (by kernel_rfl) (by rw [pC_len hp, cells_path]) [(27, 0, bv p.1), (9, 20, [.string p.2])] (by kernel_rfl) ?_ ?_
  · intro q hq
    simp only [List.mem_cons, List.not_mem_nil, or_false] at hq
    rcases hq with rfl | rfl
    · exact kl_hash hp.1
    · exact (kl_str Try.underlying9 cells_str _ hp.2).mono (by omega)
  · intro q hq
    simp only [List.mem_cons, List.not_mem_nil, or_false] at hq
    rcases hq with rfl | rfl
    · simp [pC, hl]
    · simp [pC, hl]
theorem kl_input {x : Inp} (hx : okI x) : KL Try.prog 4 70 (iC x) := by
  have hl : (pC x.1).length = 21 := pC_len hx.1
  have hl2 : (bv x.2.1).length = 20 := by rw [bvL]; exact hx.2
  refine kl_struct Try.underlying70 (by kernel_rfl) (by simp only [iC, List.length_append, hl, hl2, List.length_cons, List.length_nil]; kernel_rfl) [(68, 0, pC x.1), (27, 21, bv x.2.1), (4, 41, [.bool x.2.2])] (by kernel_rfl) ?_ ?_
  · intro q hq
    simp only [List.mem_cons, List.not_mem_nil, or_false] at hq
    rcases hq with rfl | rfl | rfl
    · exact kl_path hx.1
    · exact (kl_hash hx.2).mono (by omega)
    · exact (kl_bool Try.underlying4 (by kernel_rfl) _).mono (by omega)
  · intro q hq
    simp only [List.mem_cons, List.not_mem_nil, or_false] at hq
    rcases hq with rfl | rfl | rfl
    · simp [iC, hl]
    · simp [iC, hl, hl2]
    · unfold iC
      rw [← List.append_assoc, List.drop_left' (by simp [hl, hl2])]
      rfl
theorem kl_nam {x : Nam} (hx : okN x) : KL Try.prog 5 72 (nC x) := by
  refine kl_struct Try.underlying72 (by kernel_rfl) (by rw [nC_len hx]; kernel_rfl) [(9, 0, [.string x.1]), (70, 1, iC x.2)] (by kernel_rfl) ?_ ?_
  · intro q hq
    simp only [List.mem_cons, List.not_mem_nil, or_false] at hq
    rcases hq with rfl | rfl
    · exact (kl_str Try.underlying9 cells_str _ hx.1).mono (by omega)
    · exact kl_input hx.2
  · intro q hq
    simp only [List.mem_cons, List.not_mem_nil, or_false] at hq
    rcases hq with rfl | rfl
    · simp [nC]
    · simp [nC]
theorem iC_inj {a b : Inp} (ha : okI a) (hb : okI b) (h : iC a = iC b) : a = b := by
  unfold iC at h
  have h1 := List.append_inj h (by rw [pC_len ha.1, pC_len hb.1])
  have h2 := List.append_inj h1.2 (by rw [bvL, bvL]; exact ha.2.trans hb.2.symm)
  have e1 := pC_inj h1.1
  have e2 := bv_inj h2.1
  have e3 : a.2.2 = b.2.2 := by simpa using h2.2
  exact Prod.ext e1 (Prod.ext e2 e3)
theorem nC_inj {a b : Nam} (ha : okN a) (hb : okN b) (h : nC a = nC b) : a = b := by
  unfold nC at h
  injection h with h1 h2
  injection h1 with h1
  exact Prod.ext h1 (iC_inj ha.2 hb.2 h2)
theorem eq_nam (a b : Nam) (ha : okN a) (hb : okN b) (w : World) : (Op.equal 72 (.agg (nC a).toArray) (.agg (nC b).toArray)).run Try.prog w = .ok (decide (a = b)) w := by
  obtain ⟨r, h1, h2⟩ := kl_eq (P := Try.prog) (m := 5) (Keyed.of_law (deep_law_laid laidOut (m := 5) (by omega) (of_decide_eq_true (by kernel_rfl)) (by kernel_rfl) (by kernel_rfl))) (kl_nam ha) (kl_nam hb) (of_decide_eq_true (by kernel_rfl)) (by kernel_rfl) (by omega) (by kernel_rfl) (by kernel_rfl) w
  have : r = decide (a = b) := by
    rw [Bool.eq_iff_iff, h2, decide_eq_true_iff]
    exact ⟨nC_inj ha hb, fun e => by rw [e]⟩
  rw [← this]
  exact h1
theorem ne_nam (a b : Nam) (ha : okN a) (hb : okN b) (w : World) : (binOp .neq 72 (.agg (nC a).toArray) (.agg (nC b).toArray)).run Try.prog w = .ok (.bool (!decide (a = b))) w := bin_ne_of (eq_nam a b ha hb w)
theorem byte_at {w : World} {B : Nat} {cs : List Value} {x : Int} : (Lay.int 5 .u8).At w B cs x ↔ cs = [.int .u8 x] ∧ (Lit.int .u8 x).wf = true := Iff.rfl
set_option maxHeartbeats 1000000 in
theorem sameN_any (w : World) (a b : List Nam) (A B : Option Addr) (ca cb : Nat) (ha : namsLay.At w w.heap.size [.slice A a.length ca] a) (hb : namsLay.At w w.heap.size [.slice B b.length cb] b) :
    Calls Try.prog 27 #[.slice A a.length ca, .slice B b.length cb] w fun e w' => e = .returned (.bool (decide (a = b))) ∧ Below w.heap.size w w' := by
  obtain ⟨A', ca', e, _, hcm, _, hA⟩ := slice_open ha
  injection e with e1 e2 e3
  subst e1 e3
  obtain ⟨B', cb', e, _, _, _, hB⟩ := slice_open hb
  injection e with e1 e4 e3
  subst e1 e3
  clear ha hb e2 e4
  have k9 : (a.length : Int) ≤ 9223372036854775807 := by simp only [maxLen] at hcm; omega
  clear hcm
  by_cases hlen : a.length = b.length
  · rw [← hlen]
    have HA := hide hA
    have HB := hide hB
    have HLN := hide hlen
    clear hA hB hlen
    have H0 := hide (Mem.start w)
    go_enter Try.func27, Try.ntmps27
    go_wp2_with fail
    go_loopw [5] (fun x5 wr => ∃ j : Nat, j ≤ a.length ∧ x5 = .int .i64 (j : Int) ∧ a.take j = b.take j ∧ Mem w wr []) (fun x5 _ => a.length - (intOf x5).toNat)
    case atStart => exact ⟨0, by omega, rfl, rfl, H0.out⟩
    case round =>
      obtain ⟨wo, rfl⟩ : ∃ wo, wo = wr := ⟨_, rfl⟩
      obtain ⟨j, hj, rfl, htk, hm⟩ := hrel
      have HM := hide hm
      have HT := hide htk
      clear hm htk
      have j0 : (0 : Int) ≤ (j : Int) := by omega
      by_cases hj2 : j < a.length
      · have j1 : (j : Int) < (a.length : Int) := by omega
        obtain ⟨x, hx⟩ : ∃ x, a[j]? = some x := ⟨_, List.getElem?_eq_getElem (by omega)⟩
        obtain ⟨p, o1, rfl, hltp, hE⟩ := HA.out (by omega)
        obtain ⟨cs, hrx, hatx⟩ := hE j x hx
        clear hE
        obtain ⟨y, hy⟩ : ∃ y, b[j]? = some y := ⟨_, List.getElem?_eq_getElem (by have := HLN.out; omega)⟩
        obtain ⟨q, o2, rfl, hltq, hE⟩ := HB.out (by have := HLN.out; omega)
        obtain ⟨cs2, hry, haty⟩ := hE j y hy
        obtain ⟨rfl, hxo⟩ := namLay_at.1 hatx
        obtain ⟨rfl, hyo⟩ := namLay_at.1 haty
        have HX := hide (And.intro hrx (And.intro hltp hx))
        have HY := hide (And.intro hry (And.intro hltq hy))
        clear hrx hltp hx hry hltq hy hE hatx haty
        obtain ⟨bd, hbd⟩ : ∃ bd, bd = decide (x = y) := ⟨_, rfl⟩
        have HBD := hide hbd
        clear hbd
        cases bd
        · go_wp2_with fail
          refine Fre.wp_made (X := Bel) 8 [] (by kernel_rfl) (by kernel_rfl) (by simp) (by simp) (by simp) ?_
          simp only [List.take_succ_cons, List.take_zero, List.drop_succ_cons, List.drop_zero]
          refine Fre.made_val (.slice (some ⟨p, o1, none⟩) a.length ca) (by kernel_rfl) (by kernel_rfl) (by kernel_rfl) (fun _ _ => by kernel_rfl) ?_
          simp only [Act.put, List.setIfInBounds_toArray, List.set_cons_zero, List.set_cons_succ]
          refine Fre.made_val (.int .i64 (j : Int)) (by kernel_rfl) (by kernel_rfl) (by kernel_rfl) (fun _ _ => by kernel_rfl) ?_
          simp only [Act.put, List.setIfInBounds_toArray, List.set_cons_zero, List.set_cons_succ]
          refine Fre.made_val (.pointer (some ⟨p, o1 + j * 43, none⟩)) (by kernel_rfl) (by kernel_rfl) (by kernel_rfl) (fun W9 hW9 => (exec_idxO (o := ⟨some 19, _, _, _, _, _⟩) 31 72 (.tmp 17) (.tmp 18) rfl p o1 a.length ca j rfl rfl hj2 43 Try.underlying31 sz_namD W9)) ?_
          simp only [Act.put, List.setIfInBounds_toArray, List.set_cons_zero, List.set_cons_succ]
          refine Fre.made_val (.agg (nC x).toArray) (by kernel_rfl) (by kernel_rfl) (by kernel_rfl) (fun W9 hW9 => (exec_load_mid (o := ⟨some 20, _, _, _, _, _⟩) 72 (.tmp 19) rfl p (o1 + j * 43) rfl (nC x) _ W9 (Mem.range (Mem.call HM.out hW9) HX.out.1 HX.out.2.1) Try.underlying72 rfl (nC_szl hxo))) ?_
          simp only [Act.put, List.setIfInBounds_toArray, List.set_cons_zero, List.set_cons_succ]
          refine Fre.made_val (.slice (some ⟨q, o2, none⟩) a.length cb) (by kernel_rfl) (by kernel_rfl) (by kernel_rfl) (fun _ _ => by kernel_rfl) ?_
          simp only [Act.put, List.setIfInBounds_toArray, List.set_cons_zero, List.set_cons_succ]
          refine Fre.made_val (.int .i64 (j : Int)) (by kernel_rfl) (by kernel_rfl) (by kernel_rfl) (fun _ _ => by kernel_rfl) ?_
          simp only [Act.put, List.setIfInBounds_toArray, List.set_cons_zero, List.set_cons_succ]
          refine Fre.made_val (.pointer (some ⟨q, o2 + j * 43, none⟩)) (by kernel_rfl) (by kernel_rfl) (by kernel_rfl) (fun W9 hW9 => (exec_idxO (o := ⟨some 23, _, _, _, _, _⟩) 31 72 (.tmp 21) (.tmp 22) rfl q o2 a.length cb j rfl rfl hj2 43 Try.underlying31 sz_namD W9)) ?_
          simp only [Act.put, List.setIfInBounds_toArray, List.set_cons_zero, List.set_cons_succ]
          refine Fre.made_val (.agg (nC y).toArray) (by kernel_rfl) (by kernel_rfl) (by kernel_rfl) (fun W9 hW9 => (exec_load_mid (o := ⟨some 24, _, _, _, _, _⟩) 72 (.tmp 23) rfl q (o2 + j * 43) rfl (nC y) _ W9 (Mem.range (Mem.call HM.out hW9) HY.out.1 HY.out.2.1) Try.underlying72 rfl (nC_szl hyo))) ?_
          simp only [Act.put, List.setIfInBounds_toArray, List.set_cons_zero, List.set_cons_succ]
          intro w1 hx
          dsimp only [Fre.ended, List.drop]
          have H1 := hide (Mem.call HM.out hx)
          clear hx
          go_wp2_with (((with_reducible refine at_slot 25 ?_); (refine wpList_value (o := ⟨some 25, _, _, _, _, _⟩) rfl (.bool true) w1 (exec_binop_agg (o := ⟨some 25, _, _, _, _, _⟩) .neq 72 (.tmp 20) (.tmp 24) _ rfl (nC x).toArray (nC y).toArray rfl rfl (by kernel_rfl) _ (fun W => by have h9 := ne_nam x y hxo hyo W; rw [← HBD.out] at h9; exact h9) w1) ?_)))
          go_ret
          refine ⟨?_, Mem.below H1.out⟩
          have hne : ¬ a = b := by
            rintro rfl
            have h1 := HX.out.2.2
            rw [HY.out.2.2] at h1
            exact of_decide_eq_false HBD.out.symm (Option.some.inj h1).symm
          rw [decide_eq_false hne]; rfl
        · go_wp2_with fail
          refine Fre.wp_made (X := Bel) 8 [] (by kernel_rfl) (by kernel_rfl) (by simp) (by simp) (by simp) ?_
          simp only [List.take_succ_cons, List.take_zero, List.drop_succ_cons, List.drop_zero]
          refine Fre.made_val (.slice (some ⟨p, o1, none⟩) a.length ca) (by kernel_rfl) (by kernel_rfl) (by kernel_rfl) (fun _ _ => by kernel_rfl) ?_
          simp only [Act.put, List.setIfInBounds_toArray, List.set_cons_zero, List.set_cons_succ]
          refine Fre.made_val (.int .i64 (j : Int)) (by kernel_rfl) (by kernel_rfl) (by kernel_rfl) (fun _ _ => by kernel_rfl) ?_
          simp only [Act.put, List.setIfInBounds_toArray, List.set_cons_zero, List.set_cons_succ]
          refine Fre.made_val (.pointer (some ⟨p, o1 + j * 43, none⟩)) (by kernel_rfl) (by kernel_rfl) (by kernel_rfl) (fun W9 hW9 => (exec_idxO (o := ⟨some 19, _, _, _, _, _⟩) 31 72 (.tmp 17) (.tmp 18) rfl p o1 a.length ca j rfl rfl hj2 43 Try.underlying31 sz_namD W9)) ?_
          simp only [Act.put, List.setIfInBounds_toArray, List.set_cons_zero, List.set_cons_succ]
          refine Fre.made_val (.agg (nC x).toArray) (by kernel_rfl) (by kernel_rfl) (by kernel_rfl) (fun W9 hW9 => (exec_load_mid (o := ⟨some 20, _, _, _, _, _⟩) 72 (.tmp 19) rfl p (o1 + j * 43) rfl (nC x) _ W9 (Mem.range (Mem.call HM.out hW9) HX.out.1 HX.out.2.1) Try.underlying72 rfl (nC_szl hxo))) ?_
          simp only [Act.put, List.setIfInBounds_toArray, List.set_cons_zero, List.set_cons_succ]
          refine Fre.made_val (.slice (some ⟨q, o2, none⟩) a.length cb) (by kernel_rfl) (by kernel_rfl) (by kernel_rfl) (fun _ _ => by kernel_rfl) ?_
          simp only [Act.put, List.setIfInBounds_toArray, List.set_cons_zero, List.set_cons_succ]
          refine Fre.made_val (.int .i64 (j : Int)) (by kernel_rfl) (by kernel_rfl) (by kernel_rfl) (fun _ _ => by kernel_rfl) ?_
          simp only [Act.put, List.setIfInBounds_toArray, List.set_cons_zero, List.set_cons_succ]
          refine Fre.made_val (.pointer (some ⟨q, o2 + j * 43, none⟩)) (by kernel_rfl) (by kernel_rfl) (by kernel_rfl) (fun W9 hW9 => (exec_idxO (o := ⟨some 23, _, _, _, _, _⟩) 31 72 (.tmp 21) (.tmp 22) rfl q o2 a.length cb j rfl rfl hj2 43 Try.underlying31 sz_namD W9)) ?_
          simp only [Act.put, List.setIfInBounds_toArray, List.set_cons_zero, List.set_cons_succ]
          refine Fre.made_val (.agg (nC y).toArray) (by kernel_rfl) (by kernel_rfl) (by kernel_rfl) (fun W9 hW9 => (exec_load_mid (o := ⟨some 24, _, _, _, _, _⟩) 72 (.tmp 23) rfl q (o2 + j * 43) rfl (nC y) _ W9 (Mem.range (Mem.call HM.out hW9) HY.out.1 HY.out.2.1) Try.underlying72 rfl (nC_szl hyo))) ?_
          simp only [Act.put, List.setIfInBounds_toArray, List.set_cons_zero, List.set_cons_succ]
          intro w2 hx
          dsimp only [Fre.ended, List.drop]
          have H2 := hide (Mem.call HM.out hx)
          clear hx
          go_wp2_with (((with_reducible refine at_slot 25 ?_); (refine wpList_value (o := ⟨some 25, _, _, _, _, _⟩) rfl (.bool false) w2 (exec_binop_agg (o := ⟨some 25, _, _, _, _, _⟩) .neq 72 (.tmp 20) (.tmp 24) _ rfl (nC x).toArray (nC y).toArray rfl rfl (by kernel_rfl) _ (fun W => by have h9 := ne_nam x y hxo hyo W; rw [← HBD.out] at h9; exact h9) w2) ?_)))
          go_roundw
          case rel => exact ⟨j + 1, by omega, by go_num, (by rw [List.take_add_one, List.take_add_one, HT.out, HX.out.2.2, HY.out.2.2, of_decide_eq_true HBD.out.symm]), H2.out⟩
          case measure => simp [intOf]; omega
      · obtain rfl : j = a.length := by omega
        go_wp2_with fail
        go_ret
        refine ⟨?_, Mem.below HM.out⟩
        have : a = b := by
          have h2 := HT.out
          rwa [List.take_of_length_le (Nat.le_refl _), List.take_of_length_le (by have := HLN.out; omega)] at h2
        rw [decide_eq_true this]; rfl
  · have hne : ¬ (a.length : Int) = (b.length : Int) := by omega
    have hd : decide (a = b) = false := decide_eq_false (by rintro rfl; exact hlen rfl)
    rw [hd]
    clear hA hB
    go_enter Try.func27, Try.ntmps27
    go_wp2_with fail
    go_ret
    exact ⟨rfl, Below.refl _ _⟩
set_option maxHeartbeats 1000000 in
theorem sameB_any (w : World) (a b : List Int) (A B : Option Addr) (ca cb : Nat) (ha : bytesLay.At w w.heap.size [.slice A a.length ca] a) (hb : bytesLay.At w w.heap.size [.slice B b.length cb] b) :
    Calls Try.prog 28 #[.slice A a.length ca, .slice B b.length cb] w fun e w' => e = .returned (.bool (decide (a = b))) ∧ Below w.heap.size w w' := by
  obtain ⟨A', ca', e, _, hcm, _, hA⟩ := slice_open ha
  injection e with e1 e2 e3
  subst e1 e3
  obtain ⟨B', cb', e, _, _, _, hB⟩ := slice_open hb
  injection e with e1 e4 e3
  subst e1 e3
  clear ha hb e2 e4
  have k9 : (a.length : Int) ≤ 9223372036854775807 := by simp only [maxLen] at hcm; omega
  clear hcm
  by_cases hlen : a.length = b.length
  · rw [← hlen]
    have HA := hide hA
    have HB := hide hB
    have HLN := hide hlen
    clear hA hB hlen
    have H0 := hide (Mem.start w)
    go_enter Try.func28, Try.ntmps28
    go_wp2_with fail
    go_loopw [5] (fun x5 wr => ∃ j : Nat, j ≤ a.length ∧ x5 = .int .i64 (j : Int) ∧ a.take j = b.take j ∧ Mem w wr []) (fun x5 _ => a.length - (intOf x5).toNat)
    case atStart => exact ⟨0, by omega, rfl, rfl, H0.out⟩
    case round =>
      obtain ⟨wo, rfl⟩ : ∃ wo, wo = wr := ⟨_, rfl⟩
      obtain ⟨j, hj, rfl, htk, hm⟩ := hrel
      have HM := hide hm
      have HT := hide htk
      clear hm htk
      have j0 : (0 : Int) ≤ (j : Int) := by omega
      by_cases hj2 : j < a.length
      · have j1 : (j : Int) < (a.length : Int) := by omega
        obtain ⟨x, hx⟩ : ∃ x, a[j]? = some x := ⟨_, List.getElem?_eq_getElem (by omega)⟩
        obtain ⟨p, o1, rfl, hltp, hE⟩ := HA.out (by omega)
        obtain ⟨cs, hrx, hatx⟩ := hE j x hx
        clear hE
        obtain ⟨y, hy⟩ : ∃ y, b[j]? = some y := ⟨_, List.getElem?_eq_getElem (by have := HLN.out; omega)⟩
        obtain ⟨q, o2, rfl, hltq, hE⟩ := HB.out (by have := HLN.out; omega)
        obtain ⟨cs2, hry, haty⟩ := hE j y hy
        obtain ⟨rfl, hxo⟩ := byte_at.1 hatx
        obtain ⟨rfl, hyo⟩ := byte_at.1 haty
        have HX := hide (And.intro hrx (And.intro hltp hx))
        have HY := hide (And.intro hry (And.intro hltq hy))
        clear hrx hltp hx hry hltq hy hE hatx haty
        by_cases hxy : x = y
        · subst hxy
          have HBD := hide (show true = decide (x = x) from (decide_eq_true rfl).symm)
          go_wp2_with fail
          refine Fre.wp_made (X := Bel) 8 [] (by kernel_rfl) (by kernel_rfl) (by simp) (by simp) (by simp) ?_
          simp only [List.take_succ_cons, List.take_zero, List.drop_succ_cons, List.drop_zero]
          refine Fre.made_val (.slice (some ⟨p, o1, none⟩) a.length ca) (by kernel_rfl) (by kernel_rfl) (by kernel_rfl) (fun _ _ => by kernel_rfl) ?_
          simp only [Act.put, List.setIfInBounds_toArray, List.set_cons_zero, List.set_cons_succ]
          refine Fre.made_val (.int .i64 (j : Int)) (by kernel_rfl) (by kernel_rfl) (by kernel_rfl) (fun _ _ => by kernel_rfl) ?_
          simp only [Act.put, List.setIfInBounds_toArray, List.set_cons_zero, List.set_cons_succ]
          refine Fre.made_val (.pointer (some ⟨p, o1 + j * 1, none⟩)) (by kernel_rfl) (by kernel_rfl) (by kernel_rfl) (fun W9 hW9 => (exec_idxO (o := ⟨some 19, _, _, _, _, _⟩) 32 5 (.tmp 17) (.tmp 18) rfl p o1 a.length ca j rfl rfl hj2 1 Try.underlying32 (by kernel_rfl) W9)) ?_
          simp only [Act.put, List.setIfInBounds_toArray, List.set_cons_zero, List.set_cons_succ]
          refine Fre.made_val (.int .u8 x) (by kernel_rfl) (by kernel_rfl) (by kernel_rfl) (fun W9 hW9 => (exec_load_cell (o := ⟨some 20, _, _, _, _, _⟩) 5 (.tmp 19) rfl ⟨p, o1 + j * 1, none⟩ rfl _ _ W9 Try.underlying5 rfl (range_cell (Mem.range (Mem.call HM.out hW9) HX.out.1 HX.out.2.1)))) ?_
          simp only [Act.put, List.setIfInBounds_toArray, List.set_cons_zero, List.set_cons_succ]
          refine Fre.made_val (.slice (some ⟨q, o2, none⟩) a.length cb) (by kernel_rfl) (by kernel_rfl) (by kernel_rfl) (fun _ _ => by kernel_rfl) ?_
          simp only [Act.put, List.setIfInBounds_toArray, List.set_cons_zero, List.set_cons_succ]
          refine Fre.made_val (.int .i64 (j : Int)) (by kernel_rfl) (by kernel_rfl) (by kernel_rfl) (fun _ _ => by kernel_rfl) ?_
          simp only [Act.put, List.setIfInBounds_toArray, List.set_cons_zero, List.set_cons_succ]
          refine Fre.made_val (.pointer (some ⟨q, o2 + j * 1, none⟩)) (by kernel_rfl) (by kernel_rfl) (by kernel_rfl) (fun W9 hW9 => (exec_idxO (o := ⟨some 23, _, _, _, _, _⟩) 32 5 (.tmp 21) (.tmp 22) rfl q o2 a.length cb j rfl rfl hj2 1 Try.underlying32 (by kernel_rfl) W9)) ?_
          simp only [Act.put, List.setIfInBounds_toArray, List.set_cons_zero, List.set_cons_succ]
          refine Fre.made_val (.int .u8 x) (by kernel_rfl) (by kernel_rfl) (by kernel_rfl) (fun W9 hW9 => (exec_load_cell (o := ⟨some 24, _, _, _, _, _⟩) 5 (.tmp 23) rfl ⟨q, o2 + j * 1, none⟩ rfl _ _ W9 Try.underlying5 rfl (range_cell (Mem.range (Mem.call HM.out hW9) HY.out.1 HY.out.2.1)))) ?_
          simp only [Act.put, List.setIfInBounds_toArray, List.set_cons_zero, List.set_cons_succ]
          intro w1 hx
          dsimp only [Fre.ended, List.drop]
          have H1 := hide (Mem.call HM.out hx)
          clear hx
          go_wp2_with fail
          go_roundw
          case rel => exact ⟨j + 1, by omega, by go_num, (by rw [List.take_add_one, List.take_add_one, HT.out, HX.out.2.2, HY.out.2.2]), H1.out⟩
          case measure => simp [intOf]; omega
        · have HBD := hide (decide_eq_false hxy).symm
          go_wp2_with fail
          refine Fre.wp_made (X := Bel) 8 [] (by kernel_rfl) (by kernel_rfl) (by simp) (by simp) (by simp) ?_
          simp only [List.take_succ_cons, List.take_zero, List.drop_succ_cons, List.drop_zero]
          refine Fre.made_val (.slice (some ⟨p, o1, none⟩) a.length ca) (by kernel_rfl) (by kernel_rfl) (by kernel_rfl) (fun _ _ => by kernel_rfl) ?_
          simp only [Act.put, List.setIfInBounds_toArray, List.set_cons_zero, List.set_cons_succ]
          refine Fre.made_val (.int .i64 (j : Int)) (by kernel_rfl) (by kernel_rfl) (by kernel_rfl) (fun _ _ => by kernel_rfl) ?_
          simp only [Act.put, List.setIfInBounds_toArray, List.set_cons_zero, List.set_cons_succ]
          refine Fre.made_val (.pointer (some ⟨p, o1 + j * 1, none⟩)) (by kernel_rfl) (by kernel_rfl) (by kernel_rfl) (fun W9 hW9 => (exec_idxO (o := ⟨some 19, _, _, _, _, _⟩) 32 5 (.tmp 17) (.tmp 18) rfl p o1 a.length ca j rfl rfl hj2 1 Try.underlying32 (by kernel_rfl) W9)) ?_
          simp only [Act.put, List.setIfInBounds_toArray, List.set_cons_zero, List.set_cons_succ]
          refine Fre.made_val (.int .u8 x) (by kernel_rfl) (by kernel_rfl) (by kernel_rfl) (fun W9 hW9 => (exec_load_cell (o := ⟨some 20, _, _, _, _, _⟩) 5 (.tmp 19) rfl ⟨p, o1 + j * 1, none⟩ rfl _ _ W9 Try.underlying5 rfl (range_cell (Mem.range (Mem.call HM.out hW9) HX.out.1 HX.out.2.1)))) ?_
          simp only [Act.put, List.setIfInBounds_toArray, List.set_cons_zero, List.set_cons_succ]
          refine Fre.made_val (.slice (some ⟨q, o2, none⟩) a.length cb) (by kernel_rfl) (by kernel_rfl) (by kernel_rfl) (fun _ _ => by kernel_rfl) ?_
          simp only [Act.put, List.setIfInBounds_toArray, List.set_cons_zero, List.set_cons_succ]
          refine Fre.made_val (.int .i64 (j : Int)) (by kernel_rfl) (by kernel_rfl) (by kernel_rfl) (fun _ _ => by kernel_rfl) ?_
          simp only [Act.put, List.setIfInBounds_toArray, List.set_cons_zero, List.set_cons_succ]
          refine Fre.made_val (.pointer (some ⟨q, o2 + j * 1, none⟩)) (by kernel_rfl) (by kernel_rfl) (by kernel_rfl) (fun W9 hW9 => (exec_idxO (o := ⟨some 23, _, _, _, _, _⟩) 32 5 (.tmp 21) (.tmp 22) rfl q o2 a.length cb j rfl rfl hj2 1 Try.underlying32 (by kernel_rfl) W9)) ?_
          simp only [Act.put, List.setIfInBounds_toArray, List.set_cons_zero, List.set_cons_succ]
          refine Fre.made_val (.int .u8 y) (by kernel_rfl) (by kernel_rfl) (by kernel_rfl) (fun W9 hW9 => (exec_load_cell (o := ⟨some 24, _, _, _, _, _⟩) 5 (.tmp 23) rfl ⟨q, o2 + j * 1, none⟩ rfl _ _ W9 Try.underlying5 rfl (range_cell (Mem.range (Mem.call HM.out hW9) HY.out.1 HY.out.2.1)))) ?_
          simp only [Act.put, List.setIfInBounds_toArray, List.set_cons_zero, List.set_cons_succ]
          intro w2 hx
          dsimp only [Fre.ended, List.drop]
          have H2 := hide (Mem.call HM.out hx)
          clear hx
          go_wp2_with fail
          go_ret
          refine ⟨?_, Mem.below H2.out⟩
          have hne : ¬ a = b := by
            rintro rfl
            have h1 := HX.out.2.2
            rw [HY.out.2.2] at h1
            exact of_decide_eq_false HBD.out.symm (Option.some.inj h1).symm
          rw [decide_eq_false hne]; rfl
      · obtain rfl : j = a.length := by omega
        go_wp2_with fail
        go_ret
        refine ⟨?_, Mem.below HM.out⟩
        have : a = b := by
          have h2 := HT.out
          rwa [List.take_of_length_le (Nat.le_refl _), List.take_of_length_le (by have := HLN.out; omega)] at h2
        rw [decide_eq_true this]; rfl
  · have hne : ¬ (a.length : Int) = (b.length : Int) := by omega
    have hd : decide (a = b) = false := decide_eq_false (by rintro rfl; exact hlen rfl)
    rw [hd]
    clear hA hB
    go_enter Try.func28, Try.ntmps28
    go_wp2_with fail
    go_ret
    exact ⟨rfl, Below.refl _ _⟩
end Go.Proofs.Ytidiepbmbbflhaa
end
