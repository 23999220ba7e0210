/- spencelaw18: hash, great, place, same; spencekit.DrvOf. Items and hashes as arguments, opened. spencelaw18.used. A struct built of two parts of many cells. A struct built of any parts, the filling given. spencelaw18.item. A slice built of two parts of many cells; a slice that is read out of a block. spencelaw18.awake. -/
import Derived.Test.YtkiaofmngnmdhaaMV2
import Derived.Test.YtkiaofmngnmdhaaRow
import Derived.Test.YtkiaofmngnmdhaaRows
import Derived.Test.YtkiaofmngnmdhaaBuild
import Derived.Test.YtkiaofmngnmdhaaAt
import Derived.Test.YtkiaofmngnmdhaaFlat
section
namespace Go.Proofs.Ytkiaofmngnmdhaa
open Go Go.RowKit Go.Maps Go.WideShapes Go.ChangeShapes
set_option maxRecDepth 100000
def hashN (n : Nat) : Hsh := UInt8.ofNat (n % 256) :: UInt8.ofNat (n / 256 % 256) :: List.replicate 18 0
theorem hashN_ok (n : Nat) : okH (hashN n) := rfl
theorem u8_cell (n : Nat) : ((UInt8.ofNat (n % 256)).toNat : Int) = ((n % 256 : Nat) : Int) := by
  rw [UInt8.toNat_ofNat']
  omega
theorem hash_any (w : World) (n : Nat) (hn : n ≤ 1000000000) :
    Calls Try.prog 17 #[.int .i64 (n : Int)] w fun e w' => e = .returned (.agg (bv (hashN n)).toArray) ∧ Below w.heap.size w w' := by
  have e1 : ((n : Int) % 256) = ((UInt8.ofNat (n % 256)).toNat : Int) := by rw [u8_cell]; omega
  have e2 : ((n : Int) / 256 % 256) = ((UInt8.ofNat (n / 256 % 256)).toNat : Int) := by rw [u8_cell]; omega
  have E := hide (And.intro e1 e2)
  have h0 : (0 : Int) ≤ (n : Int) := by omega
  have h1 : (n : Int) ≤ 1000000000 := by omega
  clear e1 e2
  go_enter Try.func17, Try.ntmps17
  go_wp2_with (first | ((with_reducible refine at_slot 2 ?_); (refine wpList_newZ (o := ⟨some 2, _, _, _, _, _⟩) rfl 24 #[.int .u8 0, .int .u8 0, .int .u8 0, .int .u8 0, .int .u8 0, .int .u8 0, .int .u8 0, .int .u8 0, .int .u8 0, .int .u8 0, .int .u8 0, .int .u8 0, .int .u8 0, .int .u8 0, .int .u8 0, .int .u8 0, .int .u8 0, .int .u8 0, .int .u8 0, .int .u8 0] (by kernel_rfl) ?_); intro w1 hn; have H1 := hide hn; clear hn; simp only [Act.put, List.setIfInBounds_toArray, List.set_cons_zero, List.set_cons_succ]) | ((with_reducible refine at_slot 8 ?_); (refine wpList_value (o := ⟨some 8, _, _, _, _, _⟩) rfl (.agg (bv (hashN n)).toArray) w1 (by rw [show bv (hashN n) = .int .u8 ((n : Int) % 256) :: .int .u8 ((n : Int) / 256 % 256) :: List.replicate 18 (.int .u8 0) by rw [E.out.1, E.out.2]; rfl]; kernel_rfl) ?_)) | ((with_reducible refine at_store 2 8 ?_); (with_reducible refine wpList_store_blkA (o := ⟨none, _, _, _, _, _⟩) rfl 24 (.tmp 2) (.tmp 8) rfl w.heap.size #[.int .u8 0, .int .u8 0, .int .u8 0, .int .u8 0, .int .u8 0, .int .u8 0, .int .u8 0, .int .u8 0, .int .u8 0, .int .u8 0, .int .u8 0, .int .u8 0, .int .u8 0, .int .u8 0, .int .u8 0, .int .u8 0, .int .u8 0, .int .u8 0, .int .u8 0, .int .u8 0] (bv (hashN n)).toArray 24 H1.out.blk ?_ ?_ ?_ ?_ ?_ ?_); kernel_rfl; rfl; kernel_rfl; rfl; rfl; intro w2 hk2 hg2; have h2 := H1.out.below.grown hg2 (by have := H1.out.size; omega) (fun b hb => (by have := Option.some.inj hb; omega)); have H2 := hide (And.intro hk2 h2); clear hk2 hg2 h2; simp only [Act.put, List.setIfInBounds_toArray, List.set_cons_zero, List.set_cons_succ]))
  refine bodyPost_ret (results_cell_row rfl _ _ w.heap.size 24 (bv (hashN n)).toArray (0, 0) _ rfl H2.out.1 Try.underlying24 rfl (by kernel_rfl)) rfl ⟨rfl, H2.out.2⟩
/-- what is counted of a derivation, up to some -/
def ofLoop (most : Nat) : Nat → List Nam → Nat
  | n, [] => n
  | n, x :: l => if n ≤ most then ofLoop most (n + 1 + x.1.size + x.2.1.2.size) l else n
def drvOfP (most : Nat) (d : Drv) : Nat := ofLoop most (1 + d.1.size + d.2.2.length) d.2.1
/-- no part of a derivation is longer than memory -/
structure LightD (d : Drv) : Prop where
  name : d.1.size ≤ 140737488355328
  ins : d.2.1.length ≤ 140737488355328
  rcp : d.2.2.length ≤ 140737488355328
  each : ∀ x ∈ d.2.1, x.1.size ≤ 140737488355328 ∧ x.2.1.2.size ≤ 140737488355328
theorem ofLoop_ge (most : Nat) : ∀ (l : List Nam) (n : Nat), n ≤ ofLoop most n l
  | [], n => Nat.le_refl _
  | x :: l, n => by
    unfold ofLoop
    split
    · exact Nat.le_trans (by omega) (ofLoop_ge most l _)
    · exact Nat.le_refl _
theorem ofLoop_len (most : Nat) : ∀ (l : List Nam) (n : Nat), ofLoop most n l ≤ most → n + l.length ≤ most
  | [], n, h => h
  | x :: l, n, h => by
    unfold ofLoop at h
    split at h
    · have := ofLoop_len most l _ h
      rw [List.length_cons]
      omega
    · omega
theorem ofLoop_step {most : Nat} {l : List Nam} {k : Nat} {x : Nam} {n : Nat} (h : l[k]? = some x) (hn : n ≤ most) : ofLoop most n (l.drop k) = ofLoop most (n + 1 + x.1.size + x.2.1.2.size) (l.drop (k + 1)) := by
  have hj := (List.getElem?_eq_some_iff.1 h)
  rw [List.drop_eq_getElem_cons hj.1, hj.2, ofLoop, if_pos hn]
theorem ofLoop_stop {most : Nat} {l : List Nam} {n : Nat} (hn : ¬ n ≤ most) : ofLoop most n l = n := by
  cases l with
  | nil => rfl
  | cons x l => rw [ofLoop, if_neg hn]
theorem nam_21 {x : Nam} (h : okN x) : (nC x)[21]? = some (.string x.2.1.2) := by
  have e : nC x = (.string x.1 :: bv x.2.1.1) ++ (.string x.2.1.2 :: (bv x.2.2.1 ++ [.bool x.2.2.2])) := by simp [nC, iC, pC]
  have hl : (Value.string x.1 :: bv x.2.1.1).length = 21 := by rw [List.length_cons, bvL, show x.2.1.1.length = 20 from h.2.1.1]
  rw [e, List.getElem?_append_right (by omega), hl]
  rfl
theorem exec_idxO {P : Program} {ρ : Operand → Value} {o : Oper} (ty e : TypeId) (x i : Operand) (ho : o.op = .indexAddr ty x i) (b off n cap k : Nat) (hx : ρ x = .slice (some ⟨b, off, none⟩) n cap) (hi : ρ i = .int .i64 (k : Int)) (hk : k < n) (s : Nat) (hu : P.underlying ty = some (.slice e)) (hs : (P.info? e).map (·.size) = some s) (w : World) :
    (execOp ρ o).run P w = .ok (.value (.pointer (some ⟨b, off + k * s, none⟩))) w := by
  have h := exec_index_off (P := P) (ρ := ρ) (o := o) ty e x i ho b off n cap (k : Int) .i64 hx hi ⟨by omega, by omega⟩ s hu hs w
  rwa [Int.toNat_natCast] at h
theorem item_drv9 {x : Itm} {v1 v2 : Value} {w : World} {b o : Nat} (h : okH x.1) (hr : w.rangeAt b o (tC x v1 v2)) : w.rangeAt b (o + 20) (dC x.2 v1 v2) := by
  have h2 := rangeAt_right (c1 := bv x.1) (c2 := dC x.2 v1 v2) (by simpa [tC] using hr)
  rwa [bvL, show x.1.length = 20 from h] at h2
theorem bin_neq_hash (a b : Hsh) (ha : okH a) (hb : okH b) (w : World) : (binOp .neq 24 (hV a) (hV b)).run Try.prog w = .ok (.bool (!decide (a = b))) w := by
  have h := eq_hash a b ha hb w
  unfold hV at h ⊢
  simp only [binOp, Sem.run_bind, h, Result.andThen_ok, Sem.run_pure]
set_option maxHeartbeats 4000000 in
theorem drvOf_any (w : World) (d : Drv) (v1 v2 : Value) (h : DrvAt w w.heap.size d v1 v2) (hl : LightD d) :
    Calls Try.prog 18 #[.agg (dC d v1 v2).toArray, .int .i64 3000] w fun e w' => e = .returned (.int .i64 (drvOfP 3000 d : Int)) ∧ Below w.heap.size w w' := by
  obtain ⟨A, cap, rfl, hcl, hcm, _, hA⟩ := slice_open h.ins
  obtain ⟨A2, cap2, rfl, hcl2, hcm2, _, _⟩ := slice_open h.rcp
  have hl1 := hl.name
  have hl2 := hl.ins
  have hl3 := hl.rcp
  have i9 : (d.2.1.length : Int) ≤ 140737488355328 := by omega
  have i8 : (d.2.2.length : Int) ≤ 140737488355328 := by omega
  have i7 : (d.1.size : Int) ≤ 140737488355328 := by omega
  have HA := hide hA
  have HL := hide hl.each
  clear hA h hcl hcm hcl2 hcm2 hl
  go_enter Try.func18, Try.ntmps18
  go_wp2_with (first | ((with_reducible refine at_slot 2 ?_); (refine wpList_boxA (o := ⟨some 2, _, _, _, _, _⟩) rfl 28 (.tmp 0) rfl (dC d (.slice A d.2.1.length cap) (.slice A2 d.2.2.length cap2)).toArray rfl ?_); intro w1 hn; have H1 := hide hn; clear hn; simp only [Act.put, List.setIfInBounds_toArray, List.set_cons_zero, List.set_cons_succ]) | ((with_reducible refine at_slot 8 ?_); (refine wpList_value (o := ⟨some 8, _, _, _, _, _⟩) rfl (.string d.1) w1 (exec_load_cell (o := ⟨some 8, _, _, _, _, _⟩) 9 (.tmp 7) rfl ⟨w.heap.size, 0, none⟩ rfl _ _ w1 Try.underlying9 rfl (show w1.cell? ⟨w.heap.size, 0, none⟩ = some (.string d.1) from H1.out.blk.cell 0)) ?_)) | ((with_reducible refine at_slot 12 ?_); (refine wpList_value (o := ⟨some 12, _, _, _, _, _⟩) rfl (.slice A2 d.2.2.length cap2) w1 (exec_load_cell (o := ⟨some 12, _, _, _, _, _⟩) 26 (.tmp 11) rfl ⟨w.heap.size, 2, none⟩ rfl _ _ w1 Try.underlying26 rfl (show w1.cell? ⟨w.heap.size, 2, none⟩ = some (.slice A2 d.2.2.length cap2) from H1.out.blk.cell 2)) ?_)))
  have c1 : w1.cell? ⟨w.heap.size, 1, none⟩ = some (.slice A d.2.1.length cap) := H1.out.blk.cell 1
  go_loopw [5, 6] (fun x5 x6 wr => ∃ (n k : Nat), k ≤ d.2.1.length ∧ n ≤ 3000 + 300000000000000 ∧ x5 = .int .i64 (n : Int) ∧ x6 = .int .i64 (k : Int) ∧ drvOfP 3000 d = ofLoop 3000 n (d.2.1.drop k) ∧ Below w1.heap.size w1 wr) (fun _ x6 _ => d.2.1.length - (intOf x6).toNat)
  case atStart => exact ⟨1 + d.1.size + d.2.2.length, 0, by omega, by omega, by go_num, rfl, rfl, Below.refl _ _⟩
  case round =>
    obtain ⟨wo, rfl⟩ : ∃ wo, wo = wr := ⟨_, rfl⟩
    obtain ⟨n, j, hj, hn, rfl, rfl, hof, hb⟩ := hrel
    have HB := hide (And.intro hof hb)
    clear hof hb
    have c1' : wo.cell? ⟨w.heap.size, 1, none⟩ = some (.slice A d.2.1.length cap) := (World.cell?_of_block (HB.out.2.block _ H1.out.blk.lt)).trans c1
    have HC1 := hide c1'
    have j0 : (0 : Int) ≤ (j : Int) := by omega
    have n0 : (0 : Int) ≤ (n : Int) := by omega
    have n9 : (n : Int) ≤ 300000000003000 := by omega
    by_cases hj2 : j < d.2.1.length
    · have j1 : (j : Int) < (d.2.1.length : Int) := by omega
      by_cases hn3 : n ≤ 3000
      · have n3 : (n : Int) ≤ 3000 := by omega
        obtain ⟨x, hx⟩ : ∃ x, d.2.1[j]? = some x := ⟨_, List.getElem?_eq_getElem hj2⟩
        obtain ⟨b, off, rfl, hlb, hE⟩ := HA.out (by omega)
        obtain ⟨cs, hr, hatx⟩ := hE j x hx
        obtain ⟨rfl, hxo⟩ := namLay_at.1 hatx
        have hr0 := rangeAt_same hr (((HB.out.2.block b (by have := H1.out.size; omega)).trans (H1.out.below.block b hlb)))
        have d0 : wo.cell? ⟨b, off + j * 43, none⟩ = some (.string x.1) := hr0 0 _ rfl
        have d21 : wo.cell? ⟨b, off + j * 43 + 21, none⟩ = some (.string x.2.1.2) := hr0 21 _ (nam_21 hxo)
        have hxl := HL.out x (List.mem_of_getElem? hx)
        have x1 : (x.1.size : Int) ≤ 140737488355328 := by omega
        have x2 : (x.2.1.2.size : Int) ≤ 140737488355328 := by omega
        have hst := ofLoop_step hx hn3
        have HST := hide hst
        have HD0 := hide (And.intro d0 d21)
        clear hx hE hr hatx hxo hr0 d0 d21 hst hxl
        go_wp2_with fail
        refine Fre.wp_made (X := Bel) 19 [] (by kernel_rfl) (by kernel_rfl) (by simp) (by simp) (by simp) ?_
        simp only [List.take_succ_cons, List.take_zero, List.drop_succ_cons, List.drop_zero]
        refine Fre.made_val (.int .i64 (n : Int)) (by kernel_rfl) (by kernel_rfl) (by kernel_rfl) (fun _ _ => by kernel_rfl) ?_
        simp only [Act.put, List.setIfInBounds_toArray, List.set_cons_zero, List.set_cons_succ]
        refine Fre.made_val (.int .i64 ((n : Int) + 1)) (by kernel_rfl) (by kernel_rfl) (by kernel_rfl) (fun W9 hW9 => ?hs1) ?_
        case hs1 =>
          go_simp
          all_goals exact Go.IntWalk.i64_in _ (by omega)
        simp only [Act.put, List.setIfInBounds_toArray, List.set_cons_zero, List.set_cons_succ]
        refine Fre.made_val (.pointer (some ⟨w.heap.size, 1, none⟩)) (by kernel_rfl) (by kernel_rfl) (by kernel_rfl) (fun _ _ => by kernel_rfl) ?_
        simp only [Act.put, List.setIfInBounds_toArray, List.set_cons_zero, List.set_cons_succ]
        refine Fre.made_val (.slice (some ⟨b, off, none⟩) d.2.1.length cap) (by kernel_rfl) (by kernel_rfl) (by kernel_rfl) (fun W9 hW9 => exec_load_cell (o := ⟨some 30, _, _, _, _, _⟩) 25 (.tmp 29) rfl ⟨w.heap.size, 1, none⟩ rfl _ _ W9 Try.underlying25 rfl (((World.cell?_of_block (Below.block hW9 _ (World.block_lt_of_cell? wo _ HC1.out))).trans HC1.out))) ?_
        simp only [Act.put, List.setIfInBounds_toArray, List.set_cons_zero, List.set_cons_succ]
        refine Fre.made_val (.int .i64 (j : Int)) (by kernel_rfl) (by kernel_rfl) (by kernel_rfl) (fun _ _ => by kernel_rfl) ?_
        simp only [Act.put, List.setIfInBounds_toArray, List.set_cons_zero, List.set_cons_succ]
        refine Fre.made_val (.pointer (some ⟨b, off + j * 43, none⟩)) (by kernel_rfl) (by kernel_rfl) (by kernel_rfl) (fun W9 hW9 => exec_idxO (o := ⟨some 32, _, _, _, _, _⟩) 25 65 (.tmp 30) (.tmp 31) rfl b off d.2.1.length cap j rfl rfl hj2 43 Try.underlying25 sz_namD W9) ?_
        simp only [Act.put, List.setIfInBounds_toArray, List.set_cons_zero, List.set_cons_succ]
        refine Fre.made_val (.pointer (some ⟨b, off + j * 43, none⟩)) (by kernel_rfl) (by kernel_rfl) (by kernel_rfl) (fun _ _ => by kernel_rfl) ?_
        simp only [Act.put, List.setIfInBounds_toArray, List.set_cons_zero, List.set_cons_succ]
        refine Fre.made_val (.string x.1) (by kernel_rfl) (by kernel_rfl) (by kernel_rfl) (fun W9 hW9 => exec_load_cell (o := ⟨some 34, _, _, _, _, _⟩) 9 (.tmp 33) rfl ⟨b, off + j * 43, none⟩ rfl _ _ W9 Try.underlying9 rfl (((World.cell?_of_block (Below.block hW9 _ (World.block_lt_of_cell? wo _ HD0.out.1))).trans HD0.out.1))) ?_
        simp only [Act.put, List.setIfInBounds_toArray, List.set_cons_zero, List.set_cons_succ]
        refine Fre.made_val (.int .i64 (x.1.size : Int)) (by kernel_rfl) (by kernel_rfl) (by kernel_rfl) (fun W9 hW9 => ?hs2) ?_
        case hs2 =>
          go_simp
        simp only [Act.put, List.setIfInBounds_toArray, List.set_cons_zero, List.set_cons_succ]
        refine Fre.made_val (.int .i64 ((n : Int) + 1 + (x.1.size : Int))) (by kernel_rfl) (by kernel_rfl) (by kernel_rfl) (fun W9 hW9 => ?hs3) ?_
        case hs3 =>
          go_simp
          all_goals exact Go.IntWalk.i64_in _ (by omega)
        simp only [Act.put, List.setIfInBounds_toArray, List.set_cons_zero, List.set_cons_succ]
        refine Fre.made_val (.pointer (some ⟨w.heap.size, 1, none⟩)) (by kernel_rfl) (by kernel_rfl) (by kernel_rfl) (fun _ _ => by kernel_rfl) ?_
        simp only [Act.put, List.setIfInBounds_toArray, List.set_cons_zero, List.set_cons_succ]
        refine Fre.made_val (.slice (some ⟨b, off, none⟩) d.2.1.length cap) (by kernel_rfl) (by kernel_rfl) (by kernel_rfl) (fun W9 hW9 => exec_load_cell (o := ⟨some 38, _, _, _, _, _⟩) 25 (.tmp 37) rfl ⟨w.heap.size, 1, none⟩ rfl _ _ W9 Try.underlying25 rfl (((World.cell?_of_block (Below.block hW9 _ (World.block_lt_of_cell? wo _ HC1.out))).trans HC1.out))) ?_
        simp only [Act.put, List.setIfInBounds_toArray, List.set_cons_zero, List.set_cons_succ]
        refine Fre.made_val (.int .i64 (j : Int)) (by kernel_rfl) (by kernel_rfl) (by kernel_rfl) (fun _ _ => by kernel_rfl) ?_
        simp only [Act.put, List.setIfInBounds_toArray, List.set_cons_zero, List.set_cons_succ]
        refine Fre.made_val (.pointer (some ⟨b, off + j * 43, none⟩)) (by kernel_rfl) (by kernel_rfl) (by kernel_rfl) (fun W9 hW9 => exec_idxO (o := ⟨some 40, _, _, _, _, _⟩) 25 65 (.tmp 38) (.tmp 39) rfl b off d.2.1.length cap j rfl rfl hj2 43 Try.underlying25 sz_namD W9) ?_
        simp only [Act.put, List.setIfInBounds_toArray, List.set_cons_zero, List.set_cons_succ]
        refine Fre.made_val (.pointer (some ⟨b, off + j * 43 + 1, none⟩)) (by kernel_rfl) (by kernel_rfl) (by kernel_rfl) (fun _ _ => by kernel_rfl) ?_
        simp only [Act.put, List.setIfInBounds_toArray, List.set_cons_zero, List.set_cons_succ]
        refine Fre.made_val (.pointer (some ⟨b, off + j * 43 + 1, none⟩)) (by kernel_rfl) (by kernel_rfl) (by kernel_rfl) (fun _ _ => by kernel_rfl) ?_
        simp only [Act.put, List.setIfInBounds_toArray, List.set_cons_zero, List.set_cons_succ]
        refine Fre.made_val (.pointer (some ⟨b, off + j * 43 + 21, none⟩)) (by kernel_rfl) (by kernel_rfl) (by kernel_rfl) (fun _ _ => by kernel_rfl) ?_
        simp only [Act.put, List.setIfInBounds_toArray, List.set_cons_zero, List.set_cons_succ]
        refine Fre.made_val (.string x.2.1.2) (by kernel_rfl) (by kernel_rfl) (by kernel_rfl) (fun W9 hW9 => exec_load_cell (o := ⟨some 44, _, _, _, _, _⟩) 9 (.tmp 43) rfl ⟨b, off + j * 43 + 21, none⟩ rfl _ _ W9 Try.underlying9 rfl (((World.cell?_of_block (Below.block hW9 _ (World.block_lt_of_cell? wo _ HD0.out.2))).trans HD0.out.2))) ?_
        simp only [Act.put, List.setIfInBounds_toArray, List.set_cons_zero, List.set_cons_succ]
        refine Fre.made_val (.int .i64 (x.2.1.2.size : Int)) (by kernel_rfl) (by kernel_rfl) (by kernel_rfl) (fun W9 hW9 => ?hs4) ?_
        case hs4 =>
          go_simp
        simp only [Act.put, List.setIfInBounds_toArray, List.set_cons_zero, List.set_cons_succ]
        intro w5 hx5
        have H5 := hide (HB.out.2.trans (Below.mono hx5 HB.out.2.size))
        clear hx5
        dsimp only [Fre.ended, List.drop]
        go_wp2_with fail
        go_roundw
        case rel => exact ⟨n + 1 + x.1.size + x.2.1.2.size, j + 1, by omega, by omega, by go_num, by go_num, by rw [HB.out.1]; exact HST.out, H5.out⟩
        case measure => simp [intOf]; omega
      · have n3 : ¬ (n : Int) ≤ 3000 := by omega
        have hfin : drvOfP 3000 d = n := by rw [HB.out.1]; exact ofLoop_stop hn3
        have HF := hide hfin
        clear hfin
        go_wp2_with fail
        go_ret
        exact ⟨by rw [HF.out]; rfl, H1.out.below.trans (Below.mono HB.out.2 H1.out.below.size)⟩
    · obtain rfl : j = d.2.1.length := by omega
      have hfin : drvOfP 3000 d = n := by rw [HB.out.1, List.drop_length]; rfl
      have HF := hide hfin
      clear hfin
      go_wp2_with fail
      go_ret
      exact ⟨by rw [HF.out]; rfl, H1.out.below.trans (Below.mono HB.out.2 H1.out.below.size)⟩
def gLoop : Nat → List Itm → Nat
  | n, [] => n
  | n, x :: l => if n ≤ 3000 then gLoop (n + drvOfP 3000 x.2) l else n
/-- are items more than is gone through in time? -/
def greatP (l : List Itm) : Bool := decide (3000 < gLoop 0 l)
theorem gLoop_len : ∀ (l : List Itm) (n : Nat), gLoop n l ≤ 3000 → n + l.length ≤ 3000 ∧ ∀ x ∈ l, drvOfP 3000 x.2 ≤ 3000
  | [], n, h => ⟨h, fun x hx => by cases hx⟩
  | x :: l, n, h => by
    unfold gLoop at h
    split at h
    · have h1 := gLoop_len l _ h
      have h2 : 1 ≤ drvOfP 3000 x.2 := Nat.le_trans (by omega) (ofLoop_ge 3000 x.2.2.1 (1 + x.2.1.size + x.2.2.2.length))
      rw [List.length_cons]
      refine ⟨by omega, fun y hy => ?_⟩
      rcases List.mem_cons.1 hy with rfl | hy
      · omega
      · exact h1.2 y hy
    · omega
theorem great_small {l : List Itm} (h : greatP l = false) : l.length ≤ 3000 ∧ ∀ x ∈ l, x.2.2.1.length ≤ 3000 ∧ x.2.2.2.length ≤ 3000 := by
  have h1 : gLoop 0 l ≤ 3000 := by
    have := of_decide_eq_false h
    omega
  obtain ⟨h2, h3⟩ := gLoop_len l 0 h1
  refine ⟨by omega, fun x hx => ?_⟩
  have h4 := ofLoop_len 3000 _ _ (h3 x hx)
  omega
theorem gLoop_step {l : List Itm} {k : Nat} {x : Itm} {n : Nat} (h : l[k]? = some x) (hn : n ≤ 3000) : gLoop n (l.drop k) = gLoop (n + drvOfP 3000 x.2) (l.drop (k + 1)) := by
  have hj := (List.getElem?_eq_some_iff.1 h)
  rw [List.drop_eq_getElem_cons hj.1, hj.2, gLoop, if_pos hn]
theorem gLoop_stop {l : List Itm} {n : Nat} (hn : ¬ n ≤ 3000) : gLoop n l = n := by
  cases l with
  | nil => rfl
  | cons x l => rw [gLoop, if_neg hn]
theorem ofLoop_le (most : Nat) : ∀ (l : List Nam) (n : Nat), (∀ x ∈ l, x.1.size ≤ 140737488355328 ∧ x.2.1.2.size ≤ 140737488355328) → ofLoop most n l ≤ max n (most + 300000000000000)
  | [], n, _ => Nat.le_max_left _ _
  | x :: l, n, h => by
    unfold ofLoop
    split
    · have h1 := h x (List.mem_cons_self ..)
      have h2 := ofLoop_le most l (n + 1 + x.1.size + x.2.1.2.size) fun y hy => h y (List.mem_cons_of_mem _ hy)
      omega
    · exact Nat.le_max_left _ _
theorem drvOf_le {d : Drv} (h : LightD d) : drvOfP 3000 d ≤ 400000000000000 := by
  have h1 := ofLoop_le 3000 d.2.1 (1 + d.1.size + d.2.2.length) h.each
  have h2 := h.name
  have h3 := h.rcp
  unfold drvOfP
  omega
set_option maxHeartbeats 4000000 in
theorem great_any (w : World) (l : List Itm) (A : Option Addr) (cap : Nat) (h : itmsLay.At w w.heap.size [.slice A l.length cap] l) (hl : ∀ x ∈ l, LightD x.2) :
    Calls Try.prog 6 #[.slice A l.length cap] w fun e w' => e = .returned (.bool (greatP l)) ∧ Below w.heap.size w w' := by
  obtain ⟨A', cap', e, hcl, hcm9, _, hA⟩ := slice_open h
  injection e with e1 e2 e3
  subst e1 e3
  have k9 : (l.length : Int) ≤ 9223372036854775807 := by simp only [maxLen] at hcm9; omega
  have HA := hide hA
  clear hA hcl hcm9 e2 h
  go_enter Try.func6, Try.ntmps6
  go_wp2_with fail
  go_loopw [3, 4] (fun x3 x4 wr => ∃ (n j : Nat), j ≤ l.length ∧ n ≤ 3000 + 400000000000000 ∧ x3 = .int .i64 (n : Int) ∧ x4 = .int .i64 (j : Int) ∧ gLoop 0 l = gLoop n (l.drop j) ∧ Below w.heap.size w wr) (fun _ x4 _ => l.length - (intOf x4).toNat)
  case atStart => exact ⟨0, 0, by omega, by omega, rfl, rfl, rfl, Below.refl _ _⟩
  case round =>
    obtain ⟨wo, rfl⟩ : ∃ wo, wo = wr := ⟨_, rfl⟩
    obtain ⟨n, j, hj, hn, rfl, rfl, hof, hb⟩ := hrel
    have HB := hide (And.intro hof hb)
    clear hof hb
    have j0 : (0 : Int) ≤ (j : Int) := by omega
    have n0 : (0 : Int) ≤ (n : Int) := by omega
    have n9 : (n : Int) ≤ 400000000003000 := by omega
    by_cases hj2 : j < l.length
    · by_cases hn3 : n ≤ 3000
      · have n3 : (n : Int) ≤ 3000 := by omega
        have j1 : (j : Int) < (l.length : Int) := by omega
        obtain ⟨x, hx⟩ : ∃ x, l[j]? = some x := ⟨_, List.getElem?_eq_getElem hj2⟩
        obtain ⟨b, off, rfl, hlb, hE⟩ := HA.out (by omega)
        obtain ⟨cs, hr, hatx⟩ := hE j x hx
        obtain ⟨q1, q2, rfl, hxo, hxd⟩ := itmLay_at.1 hatx
        obtain ⟨B1, k1, rfl, _⟩ := slice_open hxd.ins
        obtain ⟨B2, k2, rfl, _⟩ := slice_open hxd.rcp
        obtain ⟨q1, hq1⟩ : ∃ q1, q1 = Value.slice B1 x.2.2.1.length k1 := ⟨_, rfl⟩
        obtain ⟨q2, hq2⟩ : ∃ q2, q2 = Value.slice B2 x.2.2.2.length k2 := ⟨_, rfl⟩
        have hone1 : q1.oneCell' = true ∧ q2.oneCell' = true := by rw [hq1, hq2]; exact ⟨rfl, rfl⟩
        rw [← hq1, ← hq2] at hr hatx
        rw [← hq1, ← hq2] at hxd
        have HX := hide (And.intro (rangeAt_same hr (HB.out.2.block b (by omega))) (And.intro hxo hxd))
        have HXX := hide hx
        have hszt2 : (Try.prog.info? 30).map (·.size) = some (tC x q1 q2).toArray.size := by rw [show (tC x q1 q2).toArray.size = 23 by rw [List.size_toArray]; exact tC_len hxo]; kernel_rfl
        have hszt : (Try.prog.info? 30).map (·.size) = some (tC x q1 q2).length := by simpa using hszt2
        have hszzt : zcT.size = (tC x q1 q2).toArray.size := by rw [show (tC x q1 q2).toArray.size = 23 by rw [List.size_toArray]; exact tC_len hxo]; kernel_rfl
        have honet : (tC x q1 q2).toArray.all (·.oneCell') = true := all_oneCell_toArray (tC_one x hone1.1 hone1.2)
        have hszx : (Try.prog.info? 24).map (·.size) = some (bv x.1).length := by have := hszD hxo; simpa using this
        have hszx2 := hszD hxo
        clear hx hE hr hatx hxd hq1 hq2
        have hlx := hl x (List.mem_of_getElem? HXX.out)
        have hle := drvOf_le hlx
        have hst := gLoop_step HXX.out hn3
        have HST := hide hst
        clear hst
        go_wp2_with (first | ((with_reducible refine at_slot 18 ?_); (refine wpList_value (o := ⟨some 18, _, _, _, _, _⟩) rfl (.pointer (some ⟨b, off + (j : Int).toNat * 23, none⟩)) wo (exec_index_off (o := ⟨some 18, _, _, _, _, _⟩) 22 30 (.tmp 16) (.tmp 17) rfl b off l.length cap (j : Int) .i64 rfl rfl ⟨j0, j1⟩ 23 Try.underlying22 sz_itm wo) ?_; rw [show off + (j : Int).toNat * 23 = off + j * 23 by omega])) | ((with_reducible refine at_slot 20 ?_); (refine wpList_value (o := ⟨some 20, _, _, _, _, _⟩) rfl (.agg (dC x.2 q1 q2).toArray) wo (exec_load_mid (o := ⟨some 20, _, _, _, _, _⟩) 28 (.tmp 19) rfl b (off + j * 23 + 20) rfl (dC x.2 q1 q2) _ wo (item_drv9 HX.out.2.1 HX.out.1) Try.underlying28 rfl (by kernel_rfl)) ?_)))
        have hat8 : DrvAt wo wo.heap.size x.2 q1 q2 := HX.out.2.2.alike9 HB.out.2
        refine (drvOf_any wo x.2 q1 q2 hat8 hlx).mono ?_
        rintro e w9 ⟨rfl, hb⟩
        dsimp only
        have H9 := hide (HB.out.2.trans (Below.mono hb HB.out.2.size))
        obtain ⟨dn, hdn⟩ : ∃ dn, dn = drvOfP 3000 x.2 := ⟨_, rfl⟩
        rw [← hdn] at hle HST ⊢
        have d0 : (0 : Int) ≤ (dn : Int) := by omega
        have d9 : (dn : Int) ≤ 400000000000000 := by omega
        clear hb hat8 hdn
        go_wp2_with fail
        go_roundw
        case rel => exact ⟨n + dn, j + 1, by omega, by omega, by go_num, by go_num, by rw [HB.out.1]; exact HST.out, H9.out⟩
        case measure => simp [intOf]; omega
      · have n3 : ¬ (n : Int) ≤ 3000 := by omega
        have j1 : (j : Int) < (l.length : Int) := by omega
        have hfin : greatP l = true := by unfold greatP; rw [HB.out.1, gLoop_stop hn3]; exact decide_eq_true (by omega)
        have HF := hide hfin
        clear hfin
        go_wp2_with fail
        go_ret
        exact ⟨by rw [HF.out]; first | rfl | (simp; omega), HB.out.2⟩
    · obtain rfl : j = l.length := by omega
      have hg0 : gLoop 0 l = n := by rw [HB.out.1, List.drop_length]; rfl
      by_cases hn3 : n ≤ 3000
      · have n3 : (n : Int) ≤ 3000 := by omega
        have hfin : greatP l = false := by unfold greatP; rw [hg0]; exact decide_eq_false (by omega)
        have HF := hide hfin
        clear hfin hg0
        go_wp2_with fail
        go_ret
        exact ⟨by rw [HF.out]; first | rfl | (simp; omega), HB.out.2⟩
      · have n3 : ¬ (n : Int) ≤ 3000 := by omega
        have hfin : greatP l = true := by unfold greatP; rw [hg0]; exact decide_eq_true (by omega)
        have HF := hide hfin
        clear hfin hg0
        go_wp2_with fail
        go_ret
        exact ⟨by rw [HF.out]; first | rfl | (simp; omega), HB.out.2⟩
/-- where a class stands in a row -/
def placeH {H : Type} [DecidableEq H] (l : List H) (c : H) : Int := if c ∈ l then (l.idxOf c : Int) else -1
theorem placeH_at {H : Type} [DecidableEq H] {l : List H} {c : H} {j : Nat} (h : l[j]? = some c) (hn : ∀ x ∈ l.take j, x ≠ c) : placeH l c = (j : Int) := by
  have hm := List.mem_of_getElem? h
  have hj := List.getElem?_eq_some_iff.1 h
  have e : l.idxOf c = j := by
    have e2 : l = l.take j ++ c :: l.drop (j + 1) := by rw [← hj.2, List.getElem_cons_drop, List.take_append_drop]
    have hnm : c ∉ l.take j := fun hm => hn c hm rfl
    conv => lhs; rw [e2]
    rw [List.idxOf_append, if_neg hnm, List.idxOf_cons_self, List.length_take]
    have := hj.1
    omega
  unfold placeH
  rw [if_pos hm, e]
theorem placeH_not {H : Type} [DecidableEq H] {l : List H} {c : H} (h : c ∉ l) : placeH l c = -1 := by
  unfold placeH
  rw [if_neg h]
set_option maxHeartbeats 4000000 in
theorem place_any (w : World) (l : List Hsh) (v : Value) (h : hashesLay.At w w.heap.size [v] l) (c : Hsh) (hc : okH c) :
    Calls Try.prog 12 #[v, .agg (bv c).toArray] w fun e w' => e = .returned (.int .i64 (placeH l c)) ∧ Below w.heap.size w w' := by
  obtain ⟨A, cap, rfl, hcl, hcm9, _, hA⟩ := slice_open h
  have k9 : (l.length : Int) ≤ 9223372036854775807 := by simp only [maxLen] at hcm9; omega
  have hszc := hszD hc
  have HA := hide hA
  clear hA hcl hcm9 h
  go_enter Try.func12, Try.ntmps12
  go_wp2_with (first | ((with_reducible refine at_slot 3 ?_); (refine wpList_boxA (o := ⟨some 3, _, _, _, _, _⟩) rfl 24 (.tmp 1) rfl (bv c).toArray rfl ?_); intro w1 hn; have H1 := hide hn; clear hn; simp only [Act.put, List.setIfInBounds_toArray, List.set_cons_zero, List.set_cons_succ]))
  go_loopw [5] (fun x5 wr => ∃ j : Nat, j ≤ l.length ∧ x5 = .int .i64 (j : Int) ∧ (∀ x ∈ l.take j, x ≠ c) ∧ Blk wr w.heap.size 24 (bv c).toArray ∧ Below w.heap.size w wr) (fun x5 _ => l.length - (intOf x5).toNat)
  case atStart => exact ⟨0, by omega, rfl, (fun x hx => by simp at hx), H1.out.blk, H1.out.below⟩
  case round =>
    obtain ⟨wo, rfl⟩ : ∃ wo, wo = wr := ⟨_, rfl⟩
    obtain ⟨j, hj, rfl, hnot, hk, hb⟩ := hrel
    have HB := hide (And.intro (And.intro hnot hk) hb)
    clear hnot hk hb
    have j0 : (0 : Int) ≤ (j : Int) := by omega
    by_cases hj2 : j < l.length
    · have j1 : (j : Int) < (l.length : Int) := by omega
      obtain ⟨z, hz⟩ : ∃ z, l[j]? = some z := ⟨_, List.getElem?_eq_getElem (by omega)⟩
      obtain ⟨b, off, rfl, hlb, hEb⟩ := HA.out (by omega)
      obtain ⟨csz, hrz, hatz⟩ := hEb j z hz
      obtain ⟨rfl, hzo⟩ := hashLay_at.1 hatz
      have HXz := hide (And.intro (rangeAt_same hrz (HB.out.2.block b (by omega))) (And.intro hzo hz))
      have hszz : (Try.prog.info? 24).map (·.size) = some (bv z).length := by have := hszD hzo; simpa using this
      clear hz hEb hrz hatz hzo
      by_cases hzc : z = c
      · have hd := decide_eq_true hzc
        have HD := hide hd
        have hpl : placeH l c = (j : Int) := placeH_at (by rw [HXz.out.2.2, hzc]) HB.out.1.1
        have HPL := hide hpl
        clear hd hpl
        go_wp2_with fail
        refine Fre.wp_made (X := Bel) 5 [] (by kernel_rfl) (by kernel_rfl) (by simp) (by simp) (by simp) ?_
        simp only [List.take_succ_cons, List.take_zero, List.drop_succ_cons, List.drop_zero]
        refine Fre.made_val (.slice (some ⟨b, off, none⟩) l.length cap) (by kernel_rfl) (by kernel_rfl) (by kernel_rfl) (fun _ _ => by kernel_rfl) ?_
        simp only [Act.put, List.setIfInBounds_toArray, List.set_cons_zero, List.set_cons_succ]
        refine Fre.made_val (.int .i64 (j : Int)) (by kernel_rfl) (by kernel_rfl) (by kernel_rfl) (fun _ _ => by kernel_rfl) ?_
        simp only [Act.put, List.setIfInBounds_toArray, List.set_cons_zero, List.set_cons_succ]
        refine Fre.made_val (.pointer (some ⟨b, off + j * 20, none⟩)) (by kernel_rfl) (by kernel_rfl) (by kernel_rfl) (fun W9 hW9 => exec_idxO (o := ⟨some 14, _, _, _, _, _⟩) 33 24 (.tmp 12) (.tmp 13) rfl b off l.length cap j rfl rfl hj2 20 Try.underlying33 sz_hashD W9) ?_
        simp only [Act.put, List.setIfInBounds_toArray, List.set_cons_zero, List.set_cons_succ]
        refine Fre.made_val (.agg (bv z).toArray) (by kernel_rfl) (by kernel_rfl) (by kernel_rfl) (fun W9 hW9 => exec_load_mid (o := ⟨some 15, _, _, _, _, _⟩) 24 (.tmp 14) rfl b (off + j * 20) rfl (bv z) _ W9 (rangeAt_same HXz.out.1 (Below.block hW9 _ (by have := HB.out.2.size; omega))) Try.underlying24 rfl hszz) ?_
        simp only [Act.put, List.setIfInBounds_toArray, List.set_cons_zero, List.set_cons_succ]
        refine Fre.made_val (.agg (bv c).toArray) (by kernel_rfl) (by kernel_rfl) (by kernel_rfl) (fun W9 hW9 => exec_load_blk (o := ⟨some 16, _, _, _, _, _⟩) 24 (.tmp 3) rfl w.heap.size rfl 24 _ _ W9 (HB.out.1.2.below hW9 HB.out.1.2.lt) Try.underlying24 rfl hszc) ?_
        simp only [Act.put, List.setIfInBounds_toArray, List.set_cons_zero, List.set_cons_succ]
        intro w5 hx5
        have H5 := hide (And.intro (HB.out.1.2.below hx5 HB.out.1.2.lt) (HB.out.2.trans (Below.mono hx5 HB.out.2.size)))
        clear hx5
        dsimp only [Fre.ended, List.drop]
        go_wp2_with (first | ((with_reducible refine at_slot 17 ?_); (refine wpList_value (o := ⟨some 17, _, _, _, _, _⟩) rfl (.bool true) w5 (exec_binop_agg (o := ⟨some 17, _, _, _, _, _⟩) .eql 24 (.tmp 15) (.tmp 16) _ rfl (bv z).toArray (bv c).toArray rfl rfl (by kernel_rfl) _ (fun W => by have h := bin_eq_hash z c HXz.out.2.1 hc W; rw [HD.out] at h; exact h) w5) ?_)))
        go_ret
        exact ⟨by rw [HPL.out]; rfl, H5.out.2⟩
      · have hd := decide_eq_false hzc
        have HD := hide hd
        have HNZ := hide hzc
        clear hd hzc
        go_wp2_with fail
        refine Fre.wp_made (X := Bel) 5 [] (by kernel_rfl) (by kernel_rfl) (by simp) (by simp) (by simp) ?_
        simp only [List.take_succ_cons, List.take_zero, List.drop_succ_cons, List.drop_zero]
        refine Fre.made_val (.slice (some ⟨b, off, none⟩) l.length cap) (by kernel_rfl) (by kernel_rfl) (by kernel_rfl) (fun _ _ => by kernel_rfl) ?_
        simp only [Act.put, List.setIfInBounds_toArray, List.set_cons_zero, List.set_cons_succ]
        refine Fre.made_val (.int .i64 (j : Int)) (by kernel_rfl) (by kernel_rfl) (by kernel_rfl) (fun _ _ => by kernel_rfl) ?_
        simp only [Act.put, List.setIfInBounds_toArray, List.set_cons_zero, List.set_cons_succ]
        refine Fre.made_val (.pointer (some ⟨b, off + j * 20, none⟩)) (by kernel_rfl) (by kernel_rfl) (by kernel_rfl) (fun W9 hW9 => exec_idxO (o := ⟨some 14, _, _, _, _, _⟩) 33 24 (.tmp 12) (.tmp 13) rfl b off l.length cap j rfl rfl hj2 20 Try.underlying33 sz_hashD W9) ?_
        simp only [Act.put, List.setIfInBounds_toArray, List.set_cons_zero, List.set_cons_succ]
        refine Fre.made_val (.agg (bv z).toArray) (by kernel_rfl) (by kernel_rfl) (by kernel_rfl) (fun W9 hW9 => exec_load_mid (o := ⟨some 15, _, _, _, _, _⟩) 24 (.tmp 14) rfl b (off + j * 20) rfl (bv z) _ W9 (rangeAt_same HXz.out.1 (Below.block hW9 _ (by have := HB.out.2.size; omega))) Try.underlying24 rfl hszz) ?_
        simp only [Act.put, List.setIfInBounds_toArray, List.set_cons_zero, List.set_cons_succ]
        refine Fre.made_val (.agg (bv c).toArray) (by kernel_rfl) (by kernel_rfl) (by kernel_rfl) (fun W9 hW9 => exec_load_blk (o := ⟨some 16, _, _, _, _, _⟩) 24 (.tmp 3) rfl w.heap.size rfl 24 _ _ W9 (HB.out.1.2.below hW9 HB.out.1.2.lt) Try.underlying24 rfl hszc) ?_
        simp only [Act.put, List.setIfInBounds_toArray, List.set_cons_zero, List.set_cons_succ]
        intro w5 hx5
        have H5 := hide (And.intro (HB.out.1.2.below hx5 HB.out.1.2.lt) (HB.out.2.trans (Below.mono hx5 HB.out.2.size)))
        clear hx5
        dsimp only [Fre.ended, List.drop]
        go_wp2_with (first | ((with_reducible refine at_slot 17 ?_); (refine wpList_value (o := ⟨some 17, _, _, _, _, _⟩) rfl (.bool false) w5 (exec_binop_agg (o := ⟨some 17, _, _, _, _, _⟩) .eql 24 (.tmp 15) (.tmp 16) _ rfl (bv z).toArray (bv c).toArray rfl rfl (by kernel_rfl) _ (fun W => by have h := bin_eq_hash z c HXz.out.2.1 hc W; rw [HD.out] at h; exact h) w5) ?_)))
        go_roundw
        case rel => exact ⟨j + 1, by omega, by go_num, (fun y hy => by rw [List.take_add_one, HXz.out.2.2] at hy; rcases List.mem_append.1 hy with hy | hy; exact HB.out.1.1 y hy; rw [show y = z from by simpa using hy]; exact HNZ.out), H5.out.1, H5.out.2⟩
        case measure => simp [intOf]; omega
    · obtain rfl : j = l.length := by omega
      have hpl : placeH l c = -1 := placeH_not fun hm => HB.out.1.1 c (by rw [List.take_length]; exact hm) rfl
      have HPL := hide hpl
      clear hpl
      go_wp2_with fail
      go_ret
      exact ⟨by rw [HPL.out]; rfl, HB.out.2⟩
set_option maxHeartbeats 4000000 in
theorem same_any (w : World) (a b : List Hsh) (v u : Value) (h : hashesLay.At w w.heap.size [v] a) (hu : hashesLay.At w w.heap.size [u] b) :
    Calls Try.prog 14 #[v, u] w fun e w' => e = .returned (.bool (decide (a = b))) ∧ Below w.heap.size w w' := by
  obtain ⟨A, cap, rfl, hcl, hcm9, _, hA⟩ := slice_open h
  obtain ⟨B, cap2, rfl, hcl2, hcm2, _, hB⟩ := slice_open hu
  have k9 : (a.length : Int) ≤ 9223372036854775807 := by simp only [maxLen] at hcm9; omega
  have k8 : (b.length : Int) ≤ 9223372036854775807 := by simp only [maxLen] at hcm2; omega
  have HA := hide hA
  have HB := hide hB
  clear hA hcl hcm9 h hB hcl2 hcm2 hu
  by_cases hlen : a.length = b.length
  · have hne : ((a.length : Int) != (b.length : Int)) = false := by simp; omega
    have HLEN := hide hlen
    have j9 : (a.length : Int) ≤ (b.length : Int) := by omega
    have j8 : a.length ≤ b.length := by omega
    clear hlen
    go_enter Try.func14, Try.ntmps14
    go_wp2_with fail
    go_loopw [5] (fun x5 wr => ∃ j : Nat, j ≤ a.length ∧ x5 = .int .i64 (j : Int) ∧ (∀ i, i < j → a[i]? = b[i]?) ∧ Below w.heap.size w wr) (fun x5 _ => a.length - (intOf x5).toNat)
    case atStart => exact ⟨0, by omega, rfl, (fun i hi => absurd hi (Nat.not_lt_zero _)), Below.refl _ _⟩
    case round =>
      obtain ⟨wo, rfl⟩ : ∃ wo, wo = wr := ⟨_, rfl⟩
      obtain ⟨j, hj, rfl, hall, hb⟩ := hrel
      have HB9 := hide (And.intro hall hb)
      clear hall hb
      have j0 : (0 : Int) ≤ (j : Int) := by omega
      by_cases hj2 : j < a.length
      · have j1 : (j : Int) < (a.length : Int) := by omega
        have j3 : (j : Int) < (b.length : Int) := by omega
        have hj3 : j < b.length := by omega
        obtain ⟨z, hz⟩ : ∃ z, a[j]? = some z := ⟨_, List.getElem?_eq_getElem (by omega)⟩
        obtain ⟨b1, off, rfl, hlb1, hEb1⟩ := HA.out (by omega)
        obtain ⟨csz, hrz, hatz⟩ := hEb1 j z hz
        obtain ⟨rfl, hzo⟩ := hashLay_at.1 hatz
        have HXz := hide (And.intro (rangeAt_same hrz (HB9.out.2.block b1 (by omega))) (And.intro hzo hz))
        have hszz : (Try.prog.info? 24).map (·.size) = some (bv z).length := by have := hszD hzo; simpa using this
        clear hz hEb1 hrz hatz hzo
        obtain ⟨y, hy⟩ : ∃ y, b[j]? = some y := ⟨_, List.getElem?_eq_getElem (by omega)⟩
        obtain ⟨b2, off2, rfl, hlb2, hEb2⟩ := HB.out (by omega)
        obtain ⟨csy, hry, haty⟩ := hEb2 j y hy
        obtain ⟨rfl, hyo⟩ := hashLay_at.1 haty
        have HXy := hide (And.intro (rangeAt_same hry (HB9.out.2.block b2 (by omega))) (And.intro hyo hy))
        have hszy : (Try.prog.info? 24).map (·.size) = some (bv y).length := by have := hszD hyo; simpa using this
        clear hy hEb2 hry haty hyo
        by_cases hzy : z = y
        · have hd := decide_eq_true hzy
          have HD := hide hd
          have HZY := hide hzy
          clear hd hzy
          go_wp2_with fail
          refine Fre.wp_made (X := Bel) 8 [] (by kernel_rfl) (by kernel_rfl) (by simp) (by simp) (by simp) ?_
          simp only [List.take_succ_cons, List.take_zero, List.drop_succ_cons, List.drop_zero]
          refine Fre.made_val (.slice (some ⟨b1, off, none⟩) a.length cap) (by kernel_rfl) (by kernel_rfl) (by kernel_rfl) (fun _ _ => by kernel_rfl) ?_
          simp only [Act.put, List.setIfInBounds_toArray, List.set_cons_zero, List.set_cons_succ]
          refine Fre.made_val (.int .i64 (j : Int)) (by kernel_rfl) (by kernel_rfl) (by kernel_rfl) (fun _ _ => by kernel_rfl) ?_
          simp only [Act.put, List.setIfInBounds_toArray, List.set_cons_zero, List.set_cons_succ]
          refine Fre.made_val (.pointer (some ⟨b1, off + j * 20, none⟩)) (by kernel_rfl) (by kernel_rfl) (by kernel_rfl) (fun W9 hW9 => exec_idxO (o := ⟨some 19, _, _, _, _, _⟩) 33 24 (.tmp 17) (.tmp 18) rfl b1 off a.length cap j rfl rfl hj2 20 Try.underlying33 sz_hashD W9) ?_
          simp only [Act.put, List.setIfInBounds_toArray, List.set_cons_zero, List.set_cons_succ]
          refine Fre.made_val (.agg (bv z).toArray) (by kernel_rfl) (by kernel_rfl) (by kernel_rfl) (fun W9 hW9 => exec_load_mid (o := ⟨some 20, _, _, _, _, _⟩) 24 (.tmp 19) rfl b1 (off + j * 20) rfl (bv z) _ W9 (rangeAt_same HXz.out.1 (Below.block hW9 _ (by have := HB9.out.2.size; omega))) Try.underlying24 rfl hszz) ?_
          simp only [Act.put, List.setIfInBounds_toArray, List.set_cons_zero, List.set_cons_succ]
          refine Fre.made_val (.slice (some ⟨b2, off2, none⟩) b.length cap2) (by kernel_rfl) (by kernel_rfl) (by kernel_rfl) (fun _ _ => by kernel_rfl) ?_
          simp only [Act.put, List.setIfInBounds_toArray, List.set_cons_zero, List.set_cons_succ]
          refine Fre.made_val (.int .i64 (j : Int)) (by kernel_rfl) (by kernel_rfl) (by kernel_rfl) (fun _ _ => by kernel_rfl) ?_
          simp only [Act.put, List.setIfInBounds_toArray, List.set_cons_zero, List.set_cons_succ]
          refine Fre.made_val (.pointer (some ⟨b2, off2 + j * 20, none⟩)) (by kernel_rfl) (by kernel_rfl) (by kernel_rfl) (fun W9 hW9 => exec_idxO (o := ⟨some 23, _, _, _, _, _⟩) 33 24 (.tmp 21) (.tmp 22) rfl b2 off2 b.length cap2 j rfl rfl hj3 20 Try.underlying33 sz_hashD W9) ?_
          simp only [Act.put, List.setIfInBounds_toArray, List.set_cons_zero, List.set_cons_succ]
          refine Fre.made_val (.agg (bv y).toArray) (by kernel_rfl) (by kernel_rfl) (by kernel_rfl) (fun W9 hW9 => exec_load_mid (o := ⟨some 24, _, _, _, _, _⟩) 24 (.tmp 23) rfl b2 (off2 + j * 20) rfl (bv y) _ W9 (rangeAt_same HXy.out.1 (Below.block hW9 _ (by have := HB9.out.2.size; omega))) Try.underlying24 rfl hszy) ?_
          simp only [Act.put, List.setIfInBounds_toArray, List.set_cons_zero, List.set_cons_succ]
          intro w5 hx5
          have H5 := hide (HB9.out.2.trans (Below.mono hx5 HB9.out.2.size))
          clear hx5
          dsimp only [Fre.ended, List.drop]
          go_wp2_with (first | ((with_reducible refine at_slot 25 ?_); (refine wpList_value (o := ⟨some 25, _, _, _, _, _⟩) rfl (.bool false) w5 (exec_binop_agg (o := ⟨some 25, _, _, _, _, _⟩) .neq 24 (.tmp 20) (.tmp 24) _ rfl (bv z).toArray (bv y).toArray rfl rfl (by kernel_rfl) _ (fun W => by have h := bin_neq_hash z y HXz.out.2.1 HXy.out.2.1 W; rw [HD.out] at h; exact h) w5) ?_)))
          go_roundw
          case rel => exact ⟨j + 1, by omega, by go_num, (fun i hi => by rcases Nat.lt_succ_iff_lt_or_eq.1 hi with h | h; exact HB9.out.1 i h; rw [h, HXz.out.2.2, HXy.out.2.2, HZY.out]), H5.out⟩
          case measure => simp [intOf]; omega
        · have hd := decide_eq_false hzy
          have HD := hide hd
          have hne2 : a ≠ b := fun e => hzy (by have h1 := HXz.out.2.2; have h2 := HXy.out.2.2; rw [e, h2] at h1; exact (Option.some.inj h1).symm)
          have HN2 := hide (decide_eq_false hne2)
          clear hd hzy hne2
          go_wp2_with fail
          refine Fre.wp_made (X := Bel) 8 [] (by kernel_rfl) (by kernel_rfl) (by simp) (by simp) (by simp) ?_
          simp only [List.take_succ_cons, List.take_zero, List.drop_succ_cons, List.drop_zero]
          refine Fre.made_val (.slice (some ⟨b1, off, none⟩) a.length cap) (by kernel_rfl) (by kernel_rfl) (by kernel_rfl) (fun _ _ => by kernel_rfl) ?_
          simp only [Act.put, List.setIfInBounds_toArray, List.set_cons_zero, List.set_cons_succ]
          refine Fre.made_val (.int .i64 (j : Int)) (by kernel_rfl) (by kernel_rfl) (by kernel_rfl) (fun _ _ => by kernel_rfl) ?_
          simp only [Act.put, List.setIfInBounds_toArray, List.set_cons_zero, List.set_cons_succ]
          refine Fre.made_val (.pointer (some ⟨b1, off + j * 20, none⟩)) (by kernel_rfl) (by kernel_rfl) (by kernel_rfl) (fun W9 hW9 => exec_idxO (o := ⟨some 19, _, _, _, _, _⟩) 33 24 (.tmp 17) (.tmp 18) rfl b1 off a.length cap j rfl rfl hj2 20 Try.underlying33 sz_hashD W9) ?_
          simp only [Act.put, List.setIfInBounds_toArray, List.set_cons_zero, List.set_cons_succ]
          refine Fre.made_val (.agg (bv z).toArray) (by kernel_rfl) (by kernel_rfl) (by kernel_rfl) (fun W9 hW9 => exec_load_mid (o := ⟨some 20, _, _, _, _, _⟩) 24 (.tmp 19) rfl b1 (off + j * 20) rfl (bv z) _ W9 (rangeAt_same HXz.out.1 (Below.block hW9 _ (by have := HB9.out.2.size; omega))) Try.underlying24 rfl hszz) ?_
          simp only [Act.put, List.setIfInBounds_toArray, List.set_cons_zero, List.set_cons_succ]
          refine Fre.made_val (.slice (some ⟨b2, off2, none⟩) b.length cap2) (by kernel_rfl) (by kernel_rfl) (by kernel_rfl) (fun _ _ => by kernel_rfl) ?_
          simp only [Act.put, List.setIfInBounds_toArray, List.set_cons_zero, List.set_cons_succ]
          refine Fre.made_val (.int .i64 (j : Int)) (by kernel_rfl) (by kernel_rfl) (by kernel_rfl) (fun _ _ => by kernel_rfl) ?_
          simp only [Act.put, List.setIfInBounds_toArray, List.set_cons_zero, List.set_cons_succ]
          refine Fre.made_val (.pointer (some ⟨b2, off2 + j * 20, none⟩)) (by kernel_rfl) (by kernel_rfl) (by kernel_rfl) (fun W9 hW9 => exec_idxO (o := ⟨some 23, _, _, _, _, _⟩) 33 24 (.tmp 21) (.tmp 22) rfl b2 off2 b.length cap2 j rfl rfl hj3 20 Try.underlying33 sz_hashD W9) ?_
          simp only [Act.put, List.setIfInBounds_toArray, List.set_cons_zero, List.set_cons_succ]
          refine Fre.made_val (.agg (bv y).toArray) (by kernel_rfl) (by kernel_rfl) (by kernel_rfl) (fun W9 hW9 => exec_load_mid (o := ⟨some 24, _, _, _, _, _⟩) 24 (.tmp 23) rfl b2 (off2 + j * 20) rfl (bv y) _ W9 (rangeAt_same HXy.out.1 (Below.block hW9 _ (by have := HB9.out.2.size; omega))) Try.underlying24 rfl hszy) ?_
          simp only [Act.put, List.setIfInBounds_toArray, List.set_cons_zero, List.set_cons_succ]
          intro w5 hx5
          have H5 := hide (HB9.out.2.trans (Below.mono hx5 HB9.out.2.size))
          clear hx5
          dsimp only [Fre.ended, List.drop]
          go_wp2_with (first | ((with_reducible refine at_slot 25 ?_); (refine wpList_value (o := ⟨some 25, _, _, _, _, _⟩) rfl (.bool true) w5 (exec_binop_agg (o := ⟨some 25, _, _, _, _, _⟩) .neq 24 (.tmp 20) (.tmp 24) _ rfl (bv z).toArray (bv y).toArray rfl rfl (by kernel_rfl) _ (fun W => by have h := bin_neq_hash z y HXz.out.2.1 HXy.out.2.1 W; rw [HD.out] at h; exact h) w5) ?_)))
          go_ret
          exact ⟨by rw [HN2.out]; rfl, H5.out⟩
      · obtain rfl : j = a.length := by omega
        have heq : a = b := by
          apply List.ext_getElem?
          intro i
          by_cases hi : i < a.length
          · exact HB9.out.1 i hi
          · rw [List.getElem?_eq_none (by omega), List.getElem?_eq_none (by rw [← HLEN.out]; omega)]
        have HEQ := hide (decide_eq_true heq)
        clear heq
        go_wp2_with fail
        go_ret
        exact ⟨by rw [HEQ.out]; rfl, HB9.out.2⟩
  · have hne : ((a.length : Int) != (b.length : Int)) = true := by simp; omega
    have HN2 := hide (decide_eq_false (fun e : a = b => hlen (by rw [e])))
    clear hlen
    go_enter Try.func14, Try.ntmps14
    go_wp2_with fail
    go_ret
    exact ⟨by rw [HN2.out]; rfl, Below.refl _ _⟩
end Go.Proofs.Ytkiaofmngnmdhaa
end
section
namespace Go.Proofs.Ytkiaofmngnmdhaa
open Go Go.ChangeShapes Go.WideShapes Go.ChangeAt Go.RowKit
theorem Try.ownPF : ownKnob Try.prog.godebug = none := by kernel_rfl
set_option maxRecDepth 100000
theorem opensW_str {P : Program} {M : Nat} {t : TypeId} (ht : P.underlying t = some .string) (hc : P.cellsOf t = 1) : (Lay.str t).OpensW P M fun s => s.size ≤ M where
  cells := hc
  op := fun h => by
    obtain ⟨z, rfl, e, hw⟩ := DataW.trod_string ht h
    refine ⟨z, ⟨rfl, hw⟩, fun hk => hk _ ?_⟩
    rw [e]
    simp [DataW.weights]
theorem itmLay_opensW : itmLay.OpensW Try.prog reachBytes fun x => LightD x.2 where
  cells := itmLay_opens.cells
  op := fun {H enc w sp hd fuel cs y} h => by
    have hs := opensW_str (P := Try.prog) (M := reachBytes) Try.underlying9 cells_str
    have hp := opensW_struct (t := 61) (f := fun p : Pth => (p.1, p.2, ())) (fun b => (b.1, b.2.1)) (fun _ => rfl) (opensW_cons (hashLay_opens.w reachBytes) (opensW_cons hs opensW_nil)) Try.underlying61 (by kernel_rfl) (by kernel_rfl)
    have hi := opensW_struct (t := 63) (f := fun x : Inp => (x.1, x.2.1, x.2.2, ())) (fun b => (b.1, b.2.1, b.2.2.1)) (fun _ => rfl) (opensW_cons hp (opensW_cons (hashLay_opens.w reachBytes) (opensW_cons ((opens_bool (P := Try.prog) Try.underlying4 (by kernel_rfl)).w reachBytes) opensW_nil))) Try.underlying63 (by kernel_rfl) (by kernel_rfl)
    have hn := opensW_struct (t := 65) (f := fun x : Nam => (x.1, x.2, ())) (fun b => (b.1, b.2.1)) (fun _ => rfl) (opensW_cons hs (opensW_cons hi opensW_nil)) Try.underlying65 (by kernel_rfl) (by kernel_rfl)
    have hns := opensW_slice (t := 25) hn (by decide) Try.underlying25 (by kernel_rfl)
    have hb := opensW_slice (t := 26) ((opens_int (P := Try.prog) Try.underlying5 cells_u8).w reachBytes) (by decide) Try.underlying26 (by kernel_rfl)
    have hdr := opensW_struct (t := 28) (f := fun d : Drv => (d.1, d.2.1, d.2.2, ())) (fun b => (b.1, b.2.1, b.2.2.1)) (fun _ => rfl) (opensW_cons hs (opensW_cons hns (opensW_cons hb opensW_nil))) Try.underlying28 (by kernel_rfl) (by kernel_rfl)
    have ht := opensW_struct (t := 30) (f := fun x : Itm => (x.1, x.2, ())) (fun b => (b.1, b.2.1)) (fun _ => rfl) (opensW_cons (hashLay_opens.w reachBytes) (opensW_cons hdr opensW_nil)) Try.underlying30 (by kernel_rfl) (by kernel_rfl)
    obtain ⟨x, hx, hk⟩ := ht.op h
    refine ⟨x, hx, fun hw => ?_⟩
    obtain ⟨_, ⟨h1, ⟨h2, h3⟩, ⟨h4, _⟩, _⟩, _⟩ := hk hw
    have e1 : Try.prog.bytesOf namLay.t = 80 := by kernel_rfl
    have e2 : Try.prog.bytesOf (Lay.int 5 .u8).t = 1 := by kernel_rfl
    have hR : reachBytes ≤ 140737488355328 := by decide
    have h1 : x.2.1.size ≤ reachBytes := h1
    have h2 : x.2.2.1.length * Try.prog.bytesOf namLay.t ≤ reachBytes := h2
    have h4 : x.2.2.2.length * Try.prog.bytesOf (Lay.int 5 .u8).t ≤ reachBytes := h4
    rw [e1] at h2
    rw [e2] at h4
    refine ⟨by omega, by omega, by omega, fun n hn => ?_⟩
    obtain ⟨h5, ⟨⟨_, h6, _⟩, _⟩, _⟩ := h3 n hn
    have h5 : n.1.size ≤ reachBytes := h5
    have h6 : n.2.1.2.size ≤ reachBytes := h6
    exact ⟨by omega, by omega⟩
theorem open_items {H : Type} {enc : TypeId × Value → H} {w : World} {r : Reach} {b0 : Nat} {hd : Bool} {u : Value} {d : DataW H} {ps : List MemPlace}
    (hval : Value.okWide Try.prog w r b0 22 u) (h : DataW.Trod enc Try.prog w 0 (fun _ => true) hd 22 u d ps) (hsz : ∀ n ∈ d.weights Try.prog 22, n ≤ reachBytes) :
    ∃ (l : List Itm) (A : Option Addr) (cap : Nat), u = .slice A l.length cap ∧ itmsLay.At w w.heap.size [.slice A l.length cap] l ∧ ∀ x ∈ l, LightD x.2 := by
  obtain ⟨a0, len, cap, rfl⟩ := okWide_slice Try.underlying22 hval
  obtain ⟨fuel, hf⟩ := h
  have ho := opensW_slice (t := 22) itmLay_opensW (by decide) Try.underlying22 (by kernel_rfl)
  obtain ⟨l, hk, hs⟩ := ho.op hf
  obtain ⟨A, cp, e, _⟩ := slice_open hk
  injection e with e1 e2 e3
  subst e1 e2 e3
  exact ⟨l, _, _, rfl, hk, (hs hsz).2⟩
theorem open_item {H : Type} {enc : TypeId × Value → H} {w : World} {r : Reach} {b0 : Nat} {hd : Bool} {u : Value} {d : DataW H} {ps : List MemPlace}
    (hval : Value.okWide Try.prog w r b0 30 u) (h : DataW.Trod enc Try.prog w 0 (fun _ => true) hd 30 u d ps) (hsz : ∀ n ∈ d.weights Try.prog 30, n ≤ reachBytes) :
    ∃ (x : Itm) (v1 v2 : Value), u = .agg (tC x v1 v2).toArray ∧ okH x.1 ∧ DrvAt w w.heap.size x.2 v1 v2 ∧ LightD x.2 := by
  obtain ⟨cs, rfl, _⟩ := okWide_struct Try.underlying30 hval
  obtain ⟨fuel, hf⟩ := h
  obtain ⟨x, hx, hs⟩ := itmLay_opensW.op hf
  obtain ⟨v1, v2, e, h1, h2⟩ := itmLay_at.1 hx
  refine ⟨x, v1, v2, ?_, h1, h2, hs hsz⟩
  congr 1
  rw [← e]
  rfl
theorem open_hash {H : Type} {enc : TypeId × Value → H} {w : World} {r : Reach} {b0 : Nat} {hd : Bool} {u : Value} {d : DataW H} {ps : List MemPlace}
    (hval : Value.okWide Try.prog w r b0 24 u) (h : DataW.Trod enc Try.prog w 0 (fun _ => true) hd 24 u d ps) : ∃ c : Hsh, u = .agg (bv c).toArray ∧ okH c := by
  obtain ⟨l, rfl, hl, _⟩ := open_bytes Try.underlying24 Try.underlying5 cells_u8 cells_hash hval h
  exact ⟨l, rfl, hl⟩
end Go.Proofs.Ytkiaofmngnmdhaa
end
section
namespace Go.Proofs.Ytkiaofmngnmdhaa
open Go Go.RowKit Go.Maps
set_option maxRecDepth 100000
/-- the derivation of a class; an empty one where there is none -/
def findD (l : List Itm) (c : Hsh) : Drv := ((l.find? fun x => decide (x.1 = c)).map (·.2)).getD (⟨#[]⟩, [], [])
theorem findD_len {l : List Itm} {c : Hsh} {d : Drv} {n : Nat} (h : d = findD l c) (hl : ∀ x ∈ l, x.2.2.1.length ≤ n) : d.2.1.length ≤ n := by
  rw [h]
  unfold findD
  cases e : l.find? fun x => decide (x.1 = c) with
  | none => exact Nat.zero_le _
  | some x => exact hl x (List.mem_of_find?_eq_some e)
theorem clsP_le (l : List Nam) : (clsP l).length ≤ l.length := by have := clsP_len l l.length; rwa [List.take_length] at this
theorem dC_one {w : World} {B : Nat} {d : Drv} {u1 u2 : Value} (h : OwnDrv w B d u1 u2) : (dC d u1 u2).toArray.all (·.oneCell') = true := by
  obtain ⟨A1, n1, c1, A2, n2, c2, rfl, rfl⟩ := h.form
  refine all_oneCell_toArray fun v hv => ?_
  simp only [dC, List.mem_cons, List.not_mem_nil, or_false] at hv
  rcases hv with rfl | rfl | rfl <;> rfl
theorem placeH_mem {H : Type} [DecidableEq H] {l : List H} {c : H} (h : c ∈ l) : ∃ p : Nat, placeH l c = (p : Int) ∧ p = l.idxOf c ∧ p < l.length := by
  refine ⟨l.idxOf c, ?_, rfl, List.idxOf_lt_length_iff.2 h⟩
  unfold placeH
  rw [if_pos h]
/-- is a class an input of one of some? -/
def usedP (l : List Itm) (all : List Hsh) (c : Hsh) : Bool := all.any fun h => decide (c ∈ clsP (findD l h).2.1)
theorem usedP_yes {l : List Itm} {all : List Hsh} {c : Hsh} {j : Nat} {z : Hsh} (hz : all[j]? = some z) (h : c ∈ clsP (findD l z).2.1) : usedP l all c = true :=
  List.any_eq_true.2 ⟨z, List.mem_of_getElem? hz, decide_eq_true h⟩
theorem usedP_no {l : List Itm} {all : List Hsh} {c : Hsh} (h : ∀ z ∈ all, c ∉ clsP (findD l z).2.1) : usedP l all c = false := by
  unfold usedP
  rw [List.any_eq_false]
  intro z hz
  simpa using h z hz
set_option maxHeartbeats 4000000 in
theorem used_any (w : World) (l : List Itm) (v : Value) (h : itmsLay.At w w.heap.size [v] l) (hl : ∀ x ∈ l, x.2.2.1.length ≤ 1000000 ∧ x.2.2.2.length ≤ 1000000) (all : List Hsh) (va : Value) (ha : hashesLay.At w w.heap.size [va] all) (c : Hsh) (hc : okH c) :
    Calls Try.prog 13 #[v, va, .agg (bv c).toArray] w fun e w' => e = .returned (.bool (usedP l all c)) ∧ Below w.heap.size w w' := by
  obtain ⟨Aa, capa, rfl, hcl, hcm9, _, hA⟩ := slice_open ha
  have k9 : (all.length : Int) ≤ 9223372036854775807 := by simp only [maxLen] at hcm9; omega
  have hszc2 := hszD hc
  have HA := hide hA
  have HL := hide h
  clear hA hcl hcm9 h ha
  go_enter Try.func13, Try.ntmps13
  go_wp2_with (first | ((with_reducible refine at_slot 5 ?_); (refine wpList_boxA (o := ⟨some 5, _, _, _, _, _⟩) rfl 24 (.tmp 2) rfl (bv c).toArray rfl ?_); intro w1 hn; have H1 := hide hn; clear hn; simp only [Act.put, List.setIfInBounds_toArray, List.set_cons_zero, List.set_cons_succ]))
  go_loopw [7] (fun x7 wr => ∃ j : Nat, j ≤ all.length ∧ x7 = .int .i64 (j : Int) ∧ (∀ z ∈ all.take j, c ∉ clsP (findD l z).2.1) ∧ Blk wr w.heap.size 24 (bv c).toArray ∧ Below w.heap.size w wr) (fun x7 _ => all.length - (intOf x7).toNat)
  case atStart => exact ⟨0, by omega, rfl, (fun x hx => by simp at hx), H1.out.blk, H1.out.below⟩
  case round =>
    obtain ⟨wo, rfl⟩ : ∃ wo, wo = wr := ⟨_, rfl⟩
    obtain ⟨j, hj, rfl, hnot, hk, hb⟩ := hrel
    have HB := hide (And.intro (And.intro hnot hk) hb)
    clear hnot hk hb
    have j0 : (0 : Int) ≤ (j : Int) := by omega
    by_cases hj2 : j < all.length
    · have j1 : (j : Int) < (all.length : Int) := by omega
      obtain ⟨z, hz⟩ : ∃ z, all[j]? = some z := ⟨_, List.getElem?_eq_getElem (by omega)⟩
      obtain ⟨b, off, rfl, hlb, hEb⟩ := HA.out (by omega)
      obtain ⟨csz, hrz, hatz⟩ := hEb j z hz
      obtain ⟨rfl, hzo⟩ := hashLay_at.1 hatz
      have HXz := hide (And.intro (rangeAt_same hrz (HB.out.2.block b (by omega))) (And.intro hzo hz))
      have hszz : (Try.prog.info? 24).map (·.size) = some (bv z).length := by have := hszD hzo; simpa using this
      clear hz hEb hrz hatz hzo
      go_wp2_with (first | ((with_reducible refine at_slot 20 ?_); (refine wpList_value (o := ⟨some 20, _, _, _, _, _⟩) rfl (.pointer (some ⟨b, off + (j : Int).toNat * 20, none⟩)) wo (exec_index_off (o := ⟨some 20, _, _, _, _, _⟩) 33 24 (.tmp 18) (.tmp 19) rfl b off all.length capa (j : Int) .i64 rfl rfl ⟨j0, j1⟩ 20 Try.underlying33 sz_hashD wo) ?_; rw [show off + (j : Int).toNat * 20 = off + j * 20 by omega])) | ((with_reducible refine at_slot 21 ?_); (refine wpList_value (o := ⟨some 21, _, _, _, _, _⟩) rfl (.agg (bv z).toArray) wo (exec_load_mid (o := ⟨some 21, _, _, _, _, _⟩) 24 (.tmp 20) rfl b (off + j * 20) rfl (bv z) _ wo HXz.out.1 Try.underlying24 rfl hszz) ?_)))
      refine (find_any wo l _ (itms_alike HL.out HB.out.2) z HXz.out.2.1 hl).mono ?_
      rintro e w3 ⟨u1, u2, rfl, hod, hb⟩
      obtain ⟨d, hd⟩ : ∃ d, d = findD l z := ⟨_, rfl⟩
      have hdl := findD_len hd (fun x hx => (hl x hx).1)
      change OwnDrv w3 wo.heap.size (findD l z) u1 u2 at hod
      rw [← hd] at hod
      dsimp only
      rw [show ((l.find? fun x => decide (x.1 = z)).map (·.2)).getD (⟨#[]⟩, [], []) = d from hd.symm]
      have hcp : ((clsP d.2.1).length : Int) ≤ 1000000 := by have := clsP_le d.2.1; omega
      have H3 := hide (And.intro hod (And.intro (HB.out.1.2.below hb HB.out.1.2.lt) (And.intro (HB.out.2.trans (Below.mono hb HB.out.2.size)) hd)))
      clear hod hb hd
      go_wp2_with (first | ((with_reducible refine at_slot 8 ?_); (refine wpList_newZ (o := ⟨some 8, _, _, _, _, _⟩) rfl 28 zcD (by kernel_rfl) ?_); intro w4 hn; have H4 := hide hn; clear hn; simp only [Act.put, List.setIfInBounds_toArray, List.set_cons_zero, List.set_cons_succ]) | ((with_reducible refine at_store 8 23 ?_); (with_reducible refine wpList_store_blkA (o := ⟨none, _, _, _, _, _⟩) rfl 28 (.tmp 8) (.tmp 23) rfl w3.heap.size zcD (dC d u1 u2).toArray 28 H4.out.blk ?_ ?_ ?_ ?_ ?_ ?_); kernel_rfl; rfl; (exact dC_one H3.out.1); rfl; rfl; intro w5 hk5 hg5; have h5 := H4.out.below.grown hg5 (by have := H4.out.size; omega) (fun b hb => (by have := Option.some.inj hb; omega)); have H5 := hide (And.intro (And.intro hk5 (H3.out.1.keep fun g hg hl9 => h5.block g hl9)) (And.intro (H3.out.2.1.below h5 H3.out.2.1.lt) (H3.out.2.2.1.trans (Below.mono h5 H3.out.2.2.1.size)))); clear hk5 hg5 h5; simp only [Act.put, List.setIfInBounds_toArray, List.set_cons_zero, List.set_cons_succ]))
      by_cases hm : c ∈ clsP d.2.1
      · obtain ⟨p, hp, _⟩ := placeH_mem hm
        have HP := hide hp
        have hup : usedP l all c = true := usedP_yes (j := j) (z := z) HXz.out.2.2 (by rw [← H3.out.2.2.2]; exact hm)
        have HUP := hide hup
        have p0 : (0 : Int) ≤ (p : Int) := by omega
        clear hup hm hp
        refine Fre.wp_made (X := Bel) 4 [(26, OwnHs (clsP d.2.1))] (by kernel_rfl) (by kernel_rfl) (by intro p hp; rw [List.mem_singleton.1 hp]; exact ownHs_ok _) (by simp) (by simp) ?_
        simp only [List.take_succ_cons, List.take_zero, List.drop_succ_cons, List.drop_zero]
        refine Fre.made_val (.agg (dC d u1 u2).toArray) (by kernel_rfl) (by kernel_rfl) (by kernel_rfl) (fun W9 hW9 => exec_load_blk (o := ⟨some 25, _, _, _, _, _⟩) 28 (.tmp 8) rfl w3.heap.size rfl 28 _ _ W9 (H5.out.1.1.below hW9 H5.out.1.1.lt) Try.underlying28 rfl (by kernel_rfl)) ?_
        simp only [Act.put, List.setIfInBounds_toArray, List.set_cons_zero, List.set_cons_succ]
        refine Fre.made_newcall 26 _ 11 #[.agg (dC d u1 u2).toArray] (by kernel_rfl) (by kernel_rfl) rfl rfl (fun W => by kernel_rfl) (fun W hW => (classes_any W d u1 u2 ((H5.out.1.2.keep fun g _ hl9 => Below.block hW g hl9).at_ (Nat.le_refl _)) hdl).mono (fun e w' ⟨u, h1, h2, h3⟩ => ⟨u, h1, h3, _, h2⟩)) ?_
        simp only [Act.put, List.setIfInBounds_toArray, List.set_cons_zero, List.set_cons_succ]
        refine Fre.made_val (.agg (bv c).toArray) (by kernel_rfl) (by kernel_rfl) (by kernel_rfl) (fun W9 hW9 => exec_load_blk (o := ⟨some 27, _, _, _, _, _⟩) 24 (.tmp 5) rfl w.heap.size rfl 24 _ _ W9 (H5.out.2.1.below hW9 H5.out.2.1.lt) Try.underlying24 rfl hszc2) ?_
        simp only [Act.put, List.setIfInBounds_toArray, List.set_cons_zero, List.set_cons_succ]
        refine Fre.made_call1 26 _ (.int .i64 (p : Int)) 12 (fun u => #[u, .agg (bv c).toArray]) (by kernel_rfl) rfl (by kernel_rfl) (by kernel_rfl) (fun u W => by kernel_rfl) (fun u W hW hu => ?hc28) ?_
        case hc28 =>
          have h := place_any W _ u (hu.at_ (cls_ok H5.out.1.2.okn)) c hc
          rw [HP.out] at h
          exact h
        simp only [Act.put, List.setIfInBounds_toArray, List.set_cons_zero, List.set_cons_succ]
        intro w6 hx6
        have H6 := hide (And.intro (H5.out.2.1.below hx6 H5.out.2.1.lt) (H5.out.2.2.trans (Below.mono hx6 H5.out.2.2.size)))
        clear hx6
        dsimp only [Fre.ended, List.drop]
        rintro u26 _
        go_wp2_with fail
        go_ret
        exact ⟨by rw [HUP.out]; rfl, H6.out.2⟩
      · have HP := hide (placeH_not hm)
        have HM := hide hm
        clear hm
        refine Fre.wp_made (X := Bel) 4 [(26, OwnHs (clsP d.2.1))] (by kernel_rfl) (by kernel_rfl) (by intro p hp; rw [List.mem_singleton.1 hp]; exact ownHs_ok _) (by simp) (by simp) ?_
        simp only [List.take_succ_cons, List.take_zero, List.drop_succ_cons, List.drop_zero]
        refine Fre.made_val (.agg (dC d u1 u2).toArray) (by kernel_rfl) (by kernel_rfl) (by kernel_rfl) (fun W9 hW9 => exec_load_blk (o := ⟨some 25, _, _, _, _, _⟩) 28 (.tmp 8) rfl w3.heap.size rfl 28 _ _ W9 (H5.out.1.1.below hW9 H5.out.1.1.lt) Try.underlying28 rfl (by kernel_rfl)) ?_
        simp only [Act.put, List.setIfInBounds_toArray, List.set_cons_zero, List.set_cons_succ]
        refine Fre.made_newcall 26 _ 11 #[.agg (dC d u1 u2).toArray] (by kernel_rfl) (by kernel_rfl) rfl rfl (fun W => by kernel_rfl) (fun W hW => (classes_any W d u1 u2 ((H5.out.1.2.keep fun g _ hl9 => Below.block hW g hl9).at_ (Nat.le_refl _)) hdl).mono (fun e w' ⟨u, h1, h2, h3⟩ => ⟨u, h1, h3, _, h2⟩)) ?_
        simp only [Act.put, List.setIfInBounds_toArray, List.set_cons_zero, List.set_cons_succ]
        refine Fre.made_val (.agg (bv c).toArray) (by kernel_rfl) (by kernel_rfl) (by kernel_rfl) (fun W9 hW9 => exec_load_blk (o := ⟨some 27, _, _, _, _, _⟩) 24 (.tmp 5) rfl w.heap.size rfl 24 _ _ W9 (H5.out.2.1.below hW9 H5.out.2.1.lt) Try.underlying24 rfl hszc2) ?_
        simp only [Act.put, List.setIfInBounds_toArray, List.set_cons_zero, List.set_cons_succ]
        refine Fre.made_call1 26 _ (.int .i64 (-1)) 12 (fun u => #[u, .agg (bv c).toArray]) (by kernel_rfl) rfl (by kernel_rfl) (by kernel_rfl) (fun u W => by kernel_rfl) (fun u W hW hu => ?hc28) ?_
        case hc28 =>
          have h := place_any W _ u (hu.at_ (cls_ok H5.out.1.2.okn)) c hc
          rw [HP.out] at h
          exact h
        simp only [Act.put, List.setIfInBounds_toArray, List.set_cons_zero, List.set_cons_succ]
        intro w6 hx6
        have H6 := hide (And.intro (H5.out.2.1.below hx6 H5.out.2.1.lt) (H5.out.2.2.trans (Below.mono hx6 H5.out.2.2.size)))
        clear hx6
        dsimp only [Fre.ended, List.drop]
        rintro u26 _
        go_wp2_with fail
        go_roundw
        case rel => exact ⟨j + 1, by omega, by go_num, (fun y hy => by rw [List.take_add_one, HXz.out.2.2] at hy; rcases List.mem_append.1 hy with hy | hy; exact HB.out.1.1 y hy; rw [show y = z from by simpa using hy, ← H3.out.2.2.2]; exact HM.out), H6.out.1, H6.out.2⟩
        case measure => simp [intOf]; omega
    · obtain rfl : j = all.length := by omega
      have hup : usedP l all c = false := usedP_no fun z hz => HB.out.1.1 z (by rw [List.take_length]; exact hz)
      have HUP := hide hup
      clear hup
      go_wp2_with fail
      go_ret
      exact ⟨by rw [HUP.out]; rfl, HB.out.2⟩
end Go.Proofs.Ytkiaofmngnmdhaa
end
section
namespace Go.Proofs.Ytkiaofmngnmdhaa
open Go Go.RowKit
theorem run_build2 {P : Program} {t n1 n2 : Nat} {fields : Array Field} {z v1 v2 : Value} (ht : P.underlying t = some (.struct fields)) (hz : ∀ w, (zeroValue t).run P w = .ok z w) (hzs : z.cells.size = n1 + n2)
    (hpl : ∀ w, (fields.mapM fun f => do pure (f.offset, ← sizeOf f.type) : Sem (Array (Nat × Nat))).run P w = .ok #[(0, n1), (n1, n2)] w) (h1 : v1.cells.size = n1) (h2 : v2.cells.size = n2) (w : World) :
    (Instr.build t #[(0, v1), (1, v2)]).run P w = .ok (.agg (v1.cells ++ v2.cells)) w := by
  have hfill : Instr.fill (fun i => (#[(0, n1), (n1, n2)] : Array (Nat × Nat))[i]?) z.cells [(0, v1), (1, v2)] = some (v1.cells ++ v2.cells) := by
    rw [fill_part _ _ 0 v1 _ 0 (by simp [h1]) (by omega)]
    rw [fill_part _ _ 1 v2 [] n1 (by simp [h2]) (by simp; omega)]
    unfold Instr.fill
    congr 1
    apply Array.ext'
    have e1 : v1.cells.toList.length = n1 := by rw [Array.length_toList, h1]
    have e2 : z.cells.toList.length = n1 + n2 := by rw [Array.length_toList, hzs]
    simp only [List.take_zero, List.nil_append, Array.toList_append, Nat.zero_add, h1, h2]
    rw [List.take_left' e1, List.drop_of_length_le (by rw [List.length_append, List.length_drop]; omega), List.append_nil]
  unfold Instr.build
  simp only [Sem.run_bind, hz, Result.andThen_ok, run_underlying ht]
  rw [hpl]
  simp only [Result.andThen_ok]
  rw [hfill]
  rfl
theorem exec_build2 {P : Program} {ρ : Operand → Value} {o : Oper} (t : TypeId) (x y : Operand) (ho : o.op = .build t #[(0, x), (1, y)]) {n1 n2 : Nat} {fields : Array Field} {z v1 v2 : Value} (hx : ρ x = v1) (hy : ρ y = v2) (ht : P.underlying t = some (.struct fields)) (hz : ∀ w, (zeroValue t).run P w = .ok z w) (hzs : z.cells.size = n1 + n2)
    (hpl : ∀ w, (fields.mapM fun f => do pure (f.offset, ← sizeOf f.type) : Sem (Array (Nat × Nat))).run P w = .ok #[(0, n1), (n1, n2)] w) (h1 : v1.cells.size = n1) (h2 : v2.cells.size = n2) (w : World) :
    (execOp ρ o).run P w = .ok (.value (.agg (v1.cells ++ v2.cells))) w := by
  have h := run_build2 (P := P) ht hz hzs hpl h1 h2 w
  unfold execOp
  simp only [ho, List.map_toArray, List.map_cons, List.map_nil, hx, hy, Sem.run_bind, h, Result.andThen_ok, Sem.run_pure]
end Go.Proofs.Ytkiaofmngnmdhaa
end
section
namespace Go.Proofs.Ytkiaofmngnmdhaa
open Go Go.RowKit
theorem exec_buildN {P : Program} {ρ : Operand → Value} {o : Oper} (t : TypeId) (xs : Array (Nat × Operand)) (ho : o.op = .build t xs) {fields : Array Field} {places : Array (Nat × Nat)} {z : Value} {cells : Array Value} (ht : P.underlying t = some (.struct fields)) (hz : ∀ w, (zeroValue t).run P w = .ok z w)
    (hpl : ∀ w, (fields.mapM fun f => do pure (f.offset, ← sizeOf f.type) : Sem (Array (Nat × Nat))).run P w = .ok places w) (parts : List (Nat × Value)) (hx : (xs.map fun (i, x) => (i, ρ x)) = parts.toArray) (hf : Instr.fill (fun i => places[i]?) z.cells parts = some cells) (w : World) :
    (execOp ρ o).run P w = .ok (.value (.agg cells)) w := by
  have h : (Instr.build t parts.toArray).run P w = .ok (.agg cells) w := by
    unfold Instr.build
    simp only [Sem.run_bind, hz, Result.andThen_ok, run_underlying ht]
    rw [hpl]
    simp only [Result.andThen_ok]
    rw [hf]
    rfl
  unfold execOp
  simp only [ho, hx, Sem.run_bind, h, Result.andThen_ok, Sem.run_pure]
end Go.Proofs.Ytkiaofmngnmdhaa
end
section
namespace Go.Proofs.Ytkiaofmngnmdhaa
open Go Go.RowKit Go.Maps
set_option maxRecDepth 100000
def namN (j m : Nat) : Nam := (⟨#[UInt8.ofNat (97 + j)]⟩, ((List.replicate 20 0, ⟨#[]⟩), hashN m, true))
/-- what an item of an example needs -/
def nds (ns : List Nat) : List Nam := ns.zipIdx.map fun p => namN p.2 p.1
def itemP (n : Nat) (ns : List Nat) : Itm := (hashN n, (⟨#[100]⟩, nds ns, []))
theorem nds_len (ns : List Nat) : (nds ns).length = ns.length := by simp [nds]
theorem nds_step {ns : List Nat} {j m : Nat} (h : ns[j]? = some m) : nds (ns.take (j + 1)) = nds (ns.take j) ++ [namN j m] := by
  have hj := (List.getElem?_eq_some_iff.1 h).1
  unfold nds
  rw [List.take_add_one, h, List.zipIdx_append, List.map_append, List.length_take, Nat.min_eq_left (by omega)]
  simp
theorem namN_ok (j m : Nat) : okN (namN j m) := ⟨(by show 1 ≤ maxLen; decide), ⟨rfl, Nat.zero_le _⟩, hashN_ok m⟩
theorem nds_ok (ns : List Nat) : ∀ x ∈ nds ns, okN x := fun x hx => by
  obtain ⟨p, _, rfl⟩ := List.mem_map.1 hx
  exact namN_ok _ _
/-- the cells of an example's item -/
def itC (n : Nat) (u : Value) : List Value := bv (hashN n) ++ [.string ⟨#[100]⟩, u, .slice none 0 0]
theorem itC_eq (n : Nat) (ns : List Nat) (u : Value) : itC n u = tC (itemP n ns) u (.slice none 0 0) := rfl
theorem itC_len (n : Nat) (u : Value) : (itC n u).length = 23 := rfl
theorem itC_one (n : Nat) {u : Value} (h : u.oneCell' = true) : (itC n u).toArray.all (·.oneCell') = true := all_oneCell_toArray fun v hv => by
  rcases List.mem_append.1 hv with hv | hv
  · exact bv1 _ v hv
  · simp only [List.mem_cons, List.not_mem_nil, or_false] at hv
    rcases hv with rfl | rfl | rfl
    · rfl
    · exact h
    · rfl
theorem itC_set (n : Nat) (u v : Value) : ((itC n u).toArray).set! 21 v = (itC n v).toArray := rfl
theorem exec_itm {ρ : Operand → Value} {o : Oper} (x y : Operand) (ho : o.op = .build 30 #[(0, x), (1, y)]) (n : Nat) (h1 : ρ x = .agg (bv (hashN n)).toArray) (h2 : ρ y = .agg #[.string ⟨#[100]⟩, .slice none 0 0, .slice none 0 0]) (w : World) :
    (execOp ρ o).run Try.prog w = .ok (.value (.agg (itC n (.slice none 0 0)).toArray)) w := by
  refine Eq.trans (exec_build2 30 x y ho (n1 := 20) (n2 := 3) (z := .agg zcT) h1 h2 Try.underlying30 (fun w => by kernel_rfl) (by kernel_rfl) (fun w => by kernel_rfl) (by kernel_rfl) (by kernel_rfl) w) ?_
  rfl
def zcI : Array Value := ((bv (List.replicate 20 0) ++ [Value.string ByteArray.empty]) ++ (bv (List.replicate 20 0) ++ [Value.bool false])).toArray
theorem exec_inp {ρ : Operand → Value} {o : Oper} (x y : Operand) (ho : o.op = .build 63 #[(1, x), (2, y)]) (m : Nat) (h1 : ρ x = .agg (bv (hashN m)).toArray) (h2 : ρ y = .bool true) (w : World) :
    (execOp ρ o).run Try.prog w = .ok (.value (.agg (iC ((List.replicate 20 0, ⟨#[]⟩), hashN m, true)).toArray)) w :=
  exec_buildN 63 _ ho (z := .agg zcI) (places := #[(0, 21), (21, 20), (41, 1)]) Try.underlying63 (fun w => by kernel_rfl) (fun w => by kernel_rfl) [(1, .agg (bv (hashN m)).toArray), (2, .bool true)] (by simp [h1, h2]) (by kernel_rfl) w
theorem exec_nam {ρ : Operand → Value} {o : Oper} (x y : Operand) (ho : o.op = .build 65 #[(0, x), (1, y)]) (j m : Nat) (h1 : ρ x = .string ⟨#[UInt8.ofNat (97 + j)]⟩) (h2 : ρ y = .agg (iC ((List.replicate 20 0, ⟨#[]⟩), hashN m, true)).toArray) (w : World) :
    (execOp ρ o).run Try.prog w = .ok (.value (.agg (nC (namN j m)).toArray)) w := by
  refine Eq.trans (exec_build2 65 x y ho (n1 := 1) (n2 := 42) (z := .agg zcN) h1 h2 Try.underlying65 (fun w => by kernel_rfl) (by kernel_rfl) (fun w => by kernel_rfl) (by kernel_rfl) (by kernel_rfl) w) ?_
  kernel_rfl
/-- a row of one byte; of one named input -/
def OneB (b : Nat) (u : Value) (w : World) : Prop := ∃ r, u = .slice (some ⟨r, 0, none⟩) 1 1 ∧ Blk w r 5 #[.int .u8 (b : Int)]
def OneN (x : Nam) (u : Value) (w : World) : Prop := ∃ r, u = .slice (some ⟨r, 0, none⟩) 1 1 ∧ Blk w r 65 (nC x).toArray
theorem oneB_ok (b : Nat) : Fre.MadeOk Bel (OneB b) := ⟨fun u w w' ⟨r, h1, h2⟩ hx => ⟨r, h1, h2.below hx h2.lt⟩⟩
theorem oneN_ok (x : Nam) : Fre.MadeOk Bel (OneN x) := ⟨fun u w w' ⟨r, h1, h2⟩ hx => ⟨r, h1, h2.below hx h2.lt⟩⟩
theorem oneB_new {ρ : Operand → Value} {o : Oper} (x : Operand) (ho : o.op = .buildSlice 26 1 #[(0, x)]) (b : Nat) (hx : ρ x = .int .u8 (b : Int)) (W : World) :
    ∃ u w', (execOp ρ o).run Try.prog W = .ok (.value u) w' ∧ Fre.Ext Bel W w' ∧ OneB b u w' :=
  ⟨_, _, exec_buildSliceP (v := .int .u8 (b : Int)) 26 x ho hx Try.underlying26 (e := 5) (n := 1) (by kernel_rfl) (by omega) (by omega) (z := .int .u8 0) (fun w => by kernel_rfl) rfl W, (Below.refl _ W).alloc (Nat.le_refl _) _, _, rfl, Blk.new _ _ _⟩
theorem oneN_new {ρ : Operand → Value} {o : Oper} (x : Operand) (ho : o.op = .buildSlice 25 1 #[(0, x)]) (y : Nam) (hy : okN y) (hx : ρ x = .agg (nC y).toArray) (W : World) :
    ∃ u w', (execOp ρ o).run Try.prog W = .ok (.value u) w' ∧ Fre.Ext Bel W w' ∧ OneN y u w' :=
  ⟨_, _, exec_buildSliceP (v := .agg (nC y).toArray) 25 x ho hx Try.underlying25 (e := 65) (n := 43) sz_namD (by omega) (by omega) (z := .agg zcN) (fun w => by kernel_rfl) (by rw [Value.cells, List.size_toArray]; exact nC_len hy) W, (Below.refl _ W).alloc (Nat.le_refl _) _, _, rfl, Blk.new _ _ _⟩
theorem oneB_text {u : Value} {W : World} {j : Nat} (hj : 97 + j < 256) (h : OneB (97 + j) u W) : (convert 26 9 u).run Try.prog W = .ok (.string ⟨#[UInt8.ofNat (97 + j)]⟩) W := by
  obtain ⟨r, rfl, hb⟩ := h
  have e : ((UInt8.ofNat (97 + j)).toNat : Int) = ((97 + j : Nat) : Int) := by
    rw [UInt8.toNat_ofNat', Nat.mod_eq_of_lt (by omega)]
  refine run_convert_bytes_back (P := Try.prog) W 26 9 5 ⟨r, 0, none⟩ 1 [UInt8.ofNat (97 + j)] Try.underlying26 Try.underlying5 Try.underlying9 fun k hk => ?_
  have hk0 : k = 0 := by simp at hk; omega
  subst hk0
  rw [Addr.add_mid, Nat.zero_add]
  show W.cell? ⟨r, 0, none⟩ = some (.int .u8 ((UInt8.ofNat (97 + j)).toNat : Int))
  rw [e]
  exact hb.cell 0
set_option maxHeartbeats 4000000 in
theorem item_any (w : World) (n : Nat) (hn9 : n ≤ 1000000000) (ns : List Nat) (hns : ∀ m ∈ ns, m ≤ 1000000000) (hl : ns.length ≤ 100) (A : Option Addr) (cap : Nat)
    (hA : 0 < ns.length → ∃ b, A = some ⟨b, 0, none⟩ ∧ b < w.heap.size ∧ ∀ (j m : Nat), ns[j]? = some m → w.cell? ⟨b, j, none⟩ = some (.int .i64 (m : Int))) :
    Calls Try.prog 16 #[.int .i64 (n : Int), .slice A ns.length cap] w fun e w' => ∃ u, e = .returned (.agg (tC (itemP n ns) u (.slice none 0 0)).toArray) ∧ OwnDrv w' w.heap.size (itemP n ns).2 u (.slice none 0 0) ∧ Below w.heap.size w w' := by
  obtain ⟨inm, hih, hq0, hq1, hq2⟩ := info_parts info_namI
  have HJ := hide (And.intro hih (And.intro hq0 (And.intro hq1 hq2)))
  clear hih hq0 hq1 hq2
  have hsz5 : (Try.prog.info? 30).map (·.size) = some (itC n (.slice none 0 0)).toArray.size := by kernel_rfl
  have HA := hide hA
  clear hA
  go_enter Try.func16, Try.ntmps16
  go_wp2_with (first | ((with_reducible refine at_slot 4 ?_); (refine wpList_newZ (o := ⟨some 4, _, _, _, _, _⟩) rfl 30 zcT (by kernel_rfl) ?_); intro w1 hn; have H1 := hide hn; clear hn; simp only [Act.put, List.setIfInBounds_toArray, List.set_cons_zero, List.set_cons_succ]))
  refine (hash_any w1 n hn9).mono ?_
  rintro e w2 ⟨rfl, hb⟩
  dsimp only
  have H2 := hide (And.intro (H1.out.blk.below hb H1.out.blk.lt) (H1.out.below.trans (Below.mono hb H1.out.below.size)))
  clear hb
  go_wp2_with (first | ((with_reducible refine at_slot 9 ?_); (refine wpList_value (o := ⟨some 9, _, _, _, _, _⟩) rfl (.agg #[.string ⟨#[100]⟩, .slice none 0 0, .slice none 0 0]) w2 (by kernel_rfl) ?_)) | ((with_reducible refine at_slot 10 ?_); (refine wpList_value (o := ⟨some 10, _, _, _, _, _⟩) rfl (.agg (itC n (.slice none 0 0)).toArray) w2 (exec_itm (o := ⟨some 10, _, _, _, _, _⟩) (.tmp 8) (.tmp 9) rfl n rfl rfl w2) ?_)) | ((with_reducible refine at_slot 5 ?_); (refine wpList_newZ (o := ⟨some 5, _, _, _, _, _⟩) rfl 30 zcT (by kernel_rfl) ?_); intro w3 hn; have H3 := hide hn; clear hn; simp only [Act.put, List.setIfInBounds_toArray, List.set_cons_zero, List.set_cons_succ]) | ((with_reducible refine at_store 5 10 ?_); (with_reducible refine wpList_store_blkA (o := ⟨none, _, _, _, _, _⟩) rfl 30 (.tmp 5) (.tmp 10) rfl w2.heap.size zcT (itC n (.slice none 0 0)).toArray 30 H3.out.blk ?_ ?_ ?_ ?_ ?_ ?_); (exact hsz5); kernel_rfl; (exact itC_one n rfl); rfl; rfl; intro w4 hk4 hg4; have h4 := H3.out.below.grown hg4 (by have := H3.out.size; omega) (fun b hb => (by have := Option.some.inj hb; omega)); have H4 := hide (And.intro hk4 (And.intro (H2.out.1.below h4 H2.out.1.lt) (And.intro (H2.out.2.trans (Below.mono h4 H2.out.2.size)) (And.intro (show w2.heap.size < w3.heap.size by have := H3.out.size; omega) (show w3.heap.size ≤ w4.heap.size from hg4.size))))); clear hk4 hg4 h4; simp only [Act.put, List.setIfInBounds_toArray, List.set_cons_zero, List.set_cons_succ]))
  go_loopw [6] (fun x6 wr => ∃ (j : Nat) (u : Value), j ≤ ns.length ∧ x6 = .int .i64 (j : Int) ∧ Blk wr w2.heap.size 30 (itC n u).toArray ∧ wr.ownsRow w3.heap.size 65 43 u (nds (ns.take j)).length ((nds (ns.take j)).flatMap nC) ∧ Blk wr w.heap.size 30 zcT ∧ Below w.heap.size w wr ∧ w3.heap.size ≤ wr.heap.size) (fun x6 _ => ns.length - (intOf x6).toNat)
  case atStart => exact ⟨0, _, by omega, rfl, H4.out.1, World.ownsRow_nil _ _ _ _, H4.out.2.1, H4.out.2.2.1, H4.out.2.2.2.2⟩
  case round =>
    obtain ⟨wo, rfl⟩ : ∃ wo, wo = wr := ⟨_, rfl⟩
    obtain ⟨j, u, hj, rfl, hk5, hown, hk4, hb, hsz⟩ := hrel
    have HB := hide (And.intro hk5 (And.intro hown (And.intro hk4 (And.intro hb hsz))))
    clear hk5 hown hk4 hb hsz
    have j0 : (0 : Int) ≤ (j : Int) := by omega
    by_cases hj2 : j < ns.length
    · have j1 : (j : Int) < (ns.length : Int) := by omega
      obtain ⟨m, hm⟩ : ∃ m, ns[j]? = some m := ⟨_, List.getElem?_eq_getElem hj2⟩
      have hm9 := hns m (List.mem_of_getElem? hm)
      obtain ⟨b, rfl, hlb, hE⟩ := HA.out (by omega)
      have cm : wo.cell? ⟨b, j, none⟩ = some (.int .i64 (m : Int)) := (World.cell?_of_block (HB.out.2.2.2.1.block b hlb)).trans (hE j m hm)
      have HCM := hide cm
      have hst := nds_step hm
      have HST := hide hst
      have c21 : wo.cell? ⟨w2.heap.size, 21, none⟩ = some u := HB.out.1.cell 21
      have HC21 := hide c21
      have hnl := nds_len (ns.take j)
      have htk : (ns.take j).length = j := by rw [List.length_take]; omega
      rw [htk] at hnl
      clear hm hE cm hst c21 htk
      go_wp2_with fail
      refine Fre.wp_made (X := Bel) 16 [(23, OneB (97 + j)), (32, OneN (namN j m))] (by kernel_rfl) (by kernel_rfl) (by intro p hp; simp only [List.mem_cons, List.not_mem_nil, or_false] at hp; rcases hp with rfl | rfl; exact oneB_ok _; exact oneN_ok _) (by simp) (by simp) ?_
      simp only [List.take_succ_cons, List.take_zero, List.drop_succ_cons, List.drop_zero]
      refine Fre.made_val (.pointer (some ⟨w2.heap.size, 20, none⟩)) (by kernel_rfl) (by kernel_rfl) (by kernel_rfl) (fun _ _ => by kernel_rfl) ?_
      simp only [Act.put, List.setIfInBounds_toArray, List.set_cons_zero, List.set_cons_succ]
      refine Fre.made_val (.pointer (some ⟨w2.heap.size, 21, none⟩)) (by kernel_rfl) (by kernel_rfl) (by kernel_rfl) (fun _ _ => by kernel_rfl) ?_
      simp only [Act.put, List.setIfInBounds_toArray, List.set_cons_zero, List.set_cons_succ]
      refine Fre.made_val (u) (by kernel_rfl) (by kernel_rfl) (by kernel_rfl) (fun W9 hW9 => exec_load_cell (o := ⟨some 19, _, _, _, _, _⟩) 25 (.tmp 18) rfl ⟨w2.heap.size, 21, none⟩ rfl _ _ W9 Try.underlying25 rfl (((World.cell?_of_block (Below.block hW9 _ (World.block_lt_of_cell? wo _ HC21.out))).trans HC21.out))) ?_
      simp only [Act.put, List.setIfInBounds_toArray, List.set_cons_zero, List.set_cons_succ]
      refine Fre.made_val (.int .i64 (j : Int)) (by kernel_rfl) (by kernel_rfl) (by kernel_rfl) (fun _ _ => by kernel_rfl) ?_
      simp only [Act.put, List.setIfInBounds_toArray, List.set_cons_zero, List.set_cons_succ]
      refine Fre.made_val (.int .i64 ((97 + j : Nat) : Int)) (by kernel_rfl) (by kernel_rfl) (by kernel_rfl) (fun W9 hW9 => ?hs1) ?_
      case hs1 =>
        go_simp
        all_goals (rw [Go.IntWalk.i64_in _ (by omega)])
      simp only [Act.put, List.setIfInBounds_toArray, List.set_cons_zero, List.set_cons_succ]
      refine Fre.made_val (.int .u8 ((97 + j : Nat) : Int)) (by kernel_rfl) (by kernel_rfl) (by kernel_rfl) (fun W9 hW9 => ?hs2) ?_
      case hs2 =>
        go_simp
        all_goals (rw [Go.IntWalk.u8_in _ (by omega)])
      simp only [Act.put, List.setIfInBounds_toArray, List.set_cons_zero, List.set_cons_succ]
      refine Fre.made_new 23 _ (by kernel_rfl) (by kernel_rfl) rfl rfl (fun W hW => oneB_new (o := ⟨some 23, _, _, _, _, _⟩) (.tmp 22) rfl (97 + j) rfl W) ?_
      simp only [Act.put, List.setIfInBounds_toArray, List.set_cons_zero, List.set_cons_succ]
      refine Fre.made_val1 23 _ (.string ⟨#[UInt8.ofNat (97 + j)]⟩) (by kernel_rfl) rfl (by kernel_rfl) (by kernel_rfl) (fun u W hW hu => exec_convert (o := ⟨some 24, _, _, _, _, _⟩) 26 9 (.tmp 23) rfl u rfl _ (oneB_text (by omega) hu)) ?_
      simp only [Act.put, List.setIfInBounds_toArray, List.set_cons_zero, List.set_cons_succ]
      refine Fre.made_val (.slice (some ⟨b, 0, none⟩) ns.length cap) (by kernel_rfl) (by kernel_rfl) (by kernel_rfl) (fun _ _ => by kernel_rfl) ?_
      simp only [Act.put, List.setIfInBounds_toArray, List.set_cons_zero, List.set_cons_succ]
      refine Fre.made_val (.int .i64 (j : Int)) (by kernel_rfl) (by kernel_rfl) (by kernel_rfl) (fun _ _ => by kernel_rfl) ?_
      simp only [Act.put, List.setIfInBounds_toArray, List.set_cons_zero, List.set_cons_succ]
      refine Fre.made_val (.pointer (some ⟨b, j, none⟩)) (by kernel_rfl) (by kernel_rfl) (by kernel_rfl) (fun W9 hW9 => exec_idx1 (o := ⟨some 27, _, _, _, _, _⟩) 66 3 (.tmp 25) (.tmp 26) rfl b ns.length cap j rfl rfl hj2 Try.underlying66 (by kernel_rfl) W9) ?_
      simp only [Act.put, List.setIfInBounds_toArray, List.set_cons_zero, List.set_cons_succ]
      refine Fre.made_val (.int .i64 (m : Int)) (by kernel_rfl) (by kernel_rfl) (by kernel_rfl) (fun W9 hW9 => exec_load_cell (o := ⟨some 28, _, _, _, _, _⟩) 3 (.tmp 27) rfl ⟨b, j, none⟩ rfl _ _ W9 Try.underlying3 rfl (((World.cell?_of_block (Below.block hW9 _ (World.block_lt_of_cell? wo _ HCM.out))).trans HCM.out))) ?_
      simp only [Act.put, List.setIfInBounds_toArray, List.set_cons_zero, List.set_cons_succ]
      refine Fre.made_call (.agg (bv (hashN m)).toArray) 17 #[.int .i64 (m : Int)] (by kernel_rfl) (by kernel_rfl) (by kernel_rfl) (fun W9 => by kernel_rfl) (fun W9 hW9 => hash_any W9 m hm9) ?_
      simp only [Act.put, List.setIfInBounds_toArray, List.set_cons_zero, List.set_cons_succ]
      refine Fre.made_val (.agg (iC ((List.replicate 20 0, ⟨#[]⟩), hashN m, true)).toArray) (by kernel_rfl) (by kernel_rfl) (by kernel_rfl) (fun W9 hW9 => exec_inp (o := ⟨some 30, _, _, _, _, _⟩) (.tmp 29) (.const (.bool true)) rfl m rfl rfl W9) ?_
      simp only [Act.put, List.setIfInBounds_toArray, List.set_cons_zero, List.set_cons_succ]
      refine Fre.made_val (.agg (nC (namN j m)).toArray) (by kernel_rfl) (by kernel_rfl) (by kernel_rfl) (fun W9 hW9 => exec_nam (o := ⟨some 31, _, _, _, _, _⟩) (.tmp 24) (.tmp 30) rfl j m rfl rfl W9) ?_
      simp only [Act.put, List.setIfInBounds_toArray, List.set_cons_zero, List.set_cons_succ]
      refine Fre.made_new 32 _ (by kernel_rfl) (by kernel_rfl) rfl rfl (fun W hW => oneN_new (o := ⟨some 32, _, _, _, _, _⟩) (.tmp 31) rfl (namN j m) (namN_ok j m) rfl W) ?_
      simp only [Act.put, List.setIfInBounds_toArray, List.set_cons_zero, List.set_cons_succ]
      intro w6 hx6
      dsimp only [Fre.ended, List.drop]
      rintro u23 _ u32 ⟨r, rfl, hkr⟩
      have H6 := hide (And.intro (HB.out.1.below hx6 HB.out.1.lt) (And.intro (owned_keepN HB.out.2.1 fun g _ hl9 => Below.block hx6 g hl9) (And.intro (HB.out.2.2.1.below hx6 HB.out.2.2.1.lt) (And.intro (HB.out.2.2.2.1.trans (Below.mono hx6 HB.out.2.2.2.1.size)) (And.intro (Nat.le_trans HB.out.2.2.2.2 (Below.size hx6)) (box_srcN (n := 43) (m := 1) hkr (nC_len (namN_ok j m)) (fun v hv => nC_one _ v hv)))))))
      clear hx6 hkr
      go_wp2_with (at_builtin; ((with_reducible refine at_slot 33 ?_); refine wpList_appS (o := ⟨some 33, _, _, _, _, _⟩) rfl _ _ 25 rfl w3.heap.size 65 inm _ 43 80 Try.underlying25 HJ.out.1 HJ.out.2.1 HJ.out.2.2.1 HJ.out.2.2.2 rfl (by decide) _ ((nds (ns.take j)).length) ((nds (ns.take j)).flatMap nC) H6.out.2.1 (some ⟨r, 0, none⟩) 1 1 (nC (namN j m)) H6.out.2.2.2.2.2 ?hm1 ?hb1 ?hz1 rfl rfl ?_))
      case hm1 => simp only [maxLen]; omega
      case hb1 => omega
      case hz1 => exact H6.out.2.2.2.2.1
      intro u7 w7 own7 gr7 _
      have hown7 : w7.ownsRow w3.heap.size 65 43 u7 (nds (ns.take (j + 1))).length ((nds (ns.take (j + 1))).flatMap nC) := by rw [HST.out, List.length_append, hnl]; simpa using own7
      have hne5 : ∀ q, u.ownBlock = some q → q ≠ w2.heap.size := fun q hq e => by have h1 := (owned_ltN H6.out.2.1 hq).1; have := H4.out.2.2.2.1; omega
      have hne4 : ∀ q, u.ownBlock = some q → q ≠ w.heap.size := fun q hq e => by have h1 := (owned_ltN H6.out.2.1 hq).1; have := H4.out.2.2.2.1; have := H2.out.2.size; omega
      have H7 := hide (And.intro ((gr7.block _ H6.out.1.lt (fun e => hne5 _ e.symm rfl)).trans H6.out.1) (And.intro hown7 (And.intro ((gr7.block _ H6.out.2.2.1.lt (fun e => hne4 _ e.symm rfl)).trans H6.out.2.2.1) (And.intro (H6.out.2.2.2.1.grown gr7 H6.out.2.2.2.1.size (fun q hq => by have h1 := (owned_ltN H6.out.2.1 hq).1; have := H4.out.2.2.2.1; have := H2.out.2.size; omega)) (Nat.le_trans H6.out.2.2.2.2.1 gr7.size)))))
      have hu1 : u7.oneCell' = true := by obtain ⟨A7, c7, rfl⟩ := own_form9 H7.out.2.1; rfl
      clear own7 hown7 hne5 hne4 gr7
      go_wp2_with (first | ((with_reducible refine at_store 35 33 ?_); (refine wpList_store1 (o := ⟨none, _, _, _, _, _⟩) rfl 25 (.tmp 35) (.tmp 33) rfl w2.heap.size (21) 30 (itC n u).toArray H7.out.1 (by rw [List.size_toArray, itC_len]; omega) (by kernel_rfl) (u7) hu1 rfl rfl ?_); intro w8 hk hg hz; have h8 := owned_keepN H7.out.2.1 (fun q hq hl9 => hg.block q hl9 (fun e => by have h1 := (owned_ltN H7.out.2.1 hq).1; have := Option.some.inj e; have := H4.out.2.2.2.1; omega)); have H8 := hide (And.intro hk (And.intro h8 (And.intro ((hg.block _ (Blk.lt H7.out.2.2.1) (fun e => by have := Option.some.inj e; have := H2.out.1.lt; omega)).trans H7.out.2.2.1) (And.intro (H7.out.2.2.2.1.grown hg H7.out.2.2.2.1.size (fun q hq => by have := Option.some.inj hq; have := H2.out.2.size; omega)) (Nat.le_trans H7.out.2.2.2.2 hg.size))))); clear hk hg hz h8; simp only [Act.put, List.setIfInBounds_toArray, List.set_cons_zero, List.set_cons_succ]))
      go_roundw
      case rel => exact ⟨j + 1, u7, by omega, by go_num, H8.out⟩
      case measure => simp [intOf]; omega
    · obtain rfl : j = ns.length := by omega
      have hown := HB.out.2.1
      rw [List.take_length] at hown
      have hu1 : u.oneCell' = true := by obtain ⟨A7, c7, rfl⟩ := own_form9 hown; rfl
      have HO := hide hown
      have hsz6 : (Try.prog.info? 30).map (·.size) = some (itC n u).toArray.size := by rw [List.size_toArray, itC_len]; kernel_rfl
      clear hown
      go_wp2_with (first | ((with_reducible refine at_slot 36 ?_); (refine wpList_value (o := ⟨some 36, _, _, _, _, _⟩) rfl (.agg ((itC n u).toArray)) wo (exec_load_blk (o := ⟨some 36, _, _, _, _, _⟩) 30 (.tmp 5) rfl w2.heap.size rfl 30 _ _ wo HB.out.1 Try.underlying30 rfl hsz6) ?_)) | ((with_reducible refine at_store 4 36 ?_); (with_reducible refine wpList_store_blkA (o := ⟨none, _, _, _, _, _⟩) rfl 30 (.tmp 4) (.tmp 36) rfl w.heap.size zcT (itC n u).toArray 30 HB.out.2.2.1 ?_ ?_ ?_ ?_ ?_ ?_); (exact hsz6); (rw [show (itC n u).toArray.size = 23 by rw [List.size_toArray, itC_len]]; kernel_rfl); (exact itC_one n hu1); rfl; rfl; intro w9 hk9 hg9; have h9 := owned_keepN HO.out (fun q hq hl9 => hg9.block q hl9 (fun e => by have h1 := (owned_ltN HO.out hq).1; have := Option.some.inj e; have := H4.out.2.2.2.1; have := H2.out.2.size; omega)); have H9 := hide (And.intro hk9 (And.intro h9 (HB.out.2.2.2.1.grown hg9 HB.out.2.2.2.1.size (fun q hq => by have := Option.some.inj hq; omega)))); clear hk9 hg9 h9; simp only [Act.put, List.setIfInBounds_toArray, List.set_cons_zero, List.set_cons_succ]))
      refine bodyPost_ret (results_cell_row rfl _ _ w.heap.size 30 (itC n u).toArray (0, 0) _ rfl H9.out.1 Try.underlying30 rfl (by rw [List.size_toArray, itC_len]; kernel_rfl)) rfl ⟨u, rfl, ⟨(by show 1 ≤ maxLen; decide), nds_ok ns, (fun x hx => by cases hx), owned_baseN H9.out.2.1 (fun g hg => by have := (owned_ltN H9.out.2.1 hg).1; have := H4.out.2.2.2.1; have := H2.out.2.size; omega), World.ownsRow_nil _ _ _ _⟩, H9.out.2.2⟩
end Go.Proofs.Ytkiaofmngnmdhaa
end
section
namespace Go.Proofs.Ytkiaofmngnmdhaa
open Go Go.RowKit
theorem run_buildSlice2 {P : Program} {t e n : Nat} {z v u : Value} (ht : P.underlying t = some (.slice e)) (hs : (P.info? e).map (·.size) = some n) (h24 : 2 * n ≤ 16777216) (hz : ∀ w, (zeroValue e).run P w = .ok z w) (hv : v.cells.size = n) (hu : u.cells.size = n) (w : World) :
    (Instr.buildSlice t 2 #[(0, v), (1, u)]).run P w = .ok (.slice (some ⟨w.heap.size, 0, none⟩) 2 2) (w.alloc (.cells (v.cells ++ u.cells) e)) := by
  have hsz : ∀ w, (sizeOf e).run P w = .ok n w := by
    intro w
    cases hq : P.info? e with
    | none => simp [hq] at hs
    | some i =>
      have h1 : i.size = n := by simpa [hq] using hs
      simp [sizeOf, typeInfo, hq, h1]
  have hfill : ∀ cells : Array Value, cells.size = 2 * n → Instr.fill (fun i => some (i * n, n)) cells [(0, v), (1, u)] = some (v.cells ++ u.cells) := by
    intro cells hc
    have hcl : cells.toList.length = 2 * n := by simpa using hc
    rw [fill_part _ _ 0 v _ 0 (by simp [hv]) (by omega)]
    rw [fill_part _ _ 1 u _ n (by simp [hu]) (by simp only [List.size_toArray, List.length_append, List.length_take, List.length_drop]; simp [hv, hu]; omega)]
    unfold Instr.fill
    congr 1
    apply Array.ext'
    have hvl : v.cells.toList.length = n := by simpa using hv
    simp only [List.take_zero, List.nil_append, Nat.zero_add]
    obtain ⟨d, hd⟩ : ∃ d, d = cells.toList.drop v.cells.size := ⟨_, rfl⟩
    have hdl : d.length = n := by rw [hd, List.length_drop]; omega
    rw [← hd, List.take_left' hvl, List.drop_eq_nil_of_le (by rw [List.length_append]; omega)]
    simp
  have h25 : ¬ 16777216 < 2 * n := by omega
  simp [Instr.buildSlice, run_underlying ht, hsz, h25, hz, hfill, Result.andThen]
  have hr : (newRow e (v.cells ++ u.cells)).run P w = .ok ⟨w.heap.size, 0, none⟩ (w.alloc (.cells (v.cells ++ u.cells) e)) := rfl
  rw [hr]
theorem exec_buildSlice2 {P : Program} {ρ : Operand → Value} {o : Oper} (t : TypeId) (x y : Operand) (ho : o.op = .buildSlice t 2 #[(0, x), (1, y)]) {e n : Nat} {z v u : Value} (hx : ρ x = v) (hy : ρ y = u) (ht : P.underlying t = some (.slice e)) (hs : (P.info? e).map (·.size) = some n) (h24 : 2 * n ≤ 16777216) (hz : ∀ w, (zeroValue e).run P w = .ok z w) (hv : v.cells.size = n) (hu : u.cells.size = n) (w : World) :
    (execOp ρ o).run P w = .ok (.value (.slice (some ⟨w.heap.size, 0, none⟩) 2 2)) (w.alloc (.cells (v.cells ++ u.cells) e)) := by
  have h := run_buildSlice2 (P := P) ht hs h24 hz hv hu w
  unfold execOp
  simp only [ho, List.map_toArray, List.map_cons, List.map_nil, hx, hy, Sem.run_bind, h, Result.andThen_ok, Sem.run_pure]
/-- a slice whose elements' cells lie in a block -/
theorem slice_cells {α : Type} {t e : TypeId} {L : Lay α} (h0 : 0 < L.n) {w : World} {B g : Nat} {cells : List (List Value)} {l : List α} (hb : Blk w g e cells.flatten.toArray) (hg : g < B) (hlen : cells.length = l.length) (hn : l.length ≤ maxLen) (hat : ∀ (j : Nat) x cs, l[j]? = some x → cells[j]? = some cs → L.At w B cs x) :
    (Lay.slice t L).At w B [.slice (some ⟨g, 0, none⟩) l.length l.length] l := by
  have hl : ∀ cs ∈ cells, (id cs).length = L.n := fun cs hcs => by
    obtain ⟨j, hj⟩ := List.getElem?_of_mem hcs
    obtain ⟨x, hx⟩ : ∃ x, l[j]? = some x := ⟨_, List.getElem?_eq_getElem (by have := (List.getElem?_eq_some_iff.1 hj).1; omega)⟩
    exact L.len (hat j x cs hx hj)
  refine ⟨_, l.length, rfl, Nat.le_refl _, hn, (fun h => by cases h), fun _ => ⟨g, 0, rfl, hg, fun j x hj => ?_⟩⟩
  obtain ⟨cs, hcs⟩ : ∃ cs, cells[j]? = some cs := ⟨_, List.getElem?_eq_getElem (by have := (List.getElem?_eq_some_iff.1 hj).1; omega)⟩
  refine ⟨cs, fun i u hu => ?_, hat j x cs hj hcs⟩
  have h2 := flatC_at (f := id) h0 cells hl j cs hcs i u hu
  rw [hb.cell, Nat.zero_add]
  have e : cells.flatMap id = cells.flatten := by simp [List.flatMap]
  rw [e] at h2
  simpa using h2
end Go.Proofs.Ytkiaofmngnmdhaa
end
section
namespace Go.Proofs.Ytkiaofmngnmdhaa
open Go Go.RowKit Go.Maps
set_option maxRecDepth 100000
theorem wpList_newS {P : Program} {ops : Array Oper} {rest : List Oper} {o : Oper} {a : Act} {w : World} {Q : Exit → Act → World → Prop} (hg : o.guard = none) (k : Nat) (ty : TypeId) (cs : Array Value) (hr : (execOp a.eval o).run P w = .ok (.value (.slice (some ⟨w.heap.size, 0, none⟩) k k)) (w.alloc (.cells cs ty)))
    (h : ∀ w', New1 w w' ty cs → wpList P ops Q rest (a.put o.dst (.slice (some ⟨w.heap.size, 0, none⟩) k k)) w') : wpList P ops Q (o :: rest) a w :=
  wpList_value hg _ _ hr (h _ (new1_alloc w ty cs))
/-- the chapter's example -/
def exIt : List Itm := [itemP 1 [], itemP 2 [1], itemP 3 [1, 2], itemP 4 []]
theorem ex_needs : needsE exIt (hashN 3) = 0 ∧ needsL exIt (hashN 3) = [hashN 1, hashN 2, hashN 3] := by decide +kernel
theorem ex_depth : depthR exIt (hashN 3) = 3 := by decide +kernel
theorem row_needs {w : World} {g : Nat} (ns : List Nat) (hb : Blk w g 3 (ns.map fun n : Nat => Value.int .i64 (n : Int)).toArray) : 0 < ns.length → ∃ b, some (⟨g, 0, none⟩ : Addr) = some ⟨b, 0, none⟩ ∧ b < w.heap.size ∧ ∀ (j m : Nat), ns[j]? = some m → w.cell? ⟨b, j, none⟩ = some (.int .i64 (m : Int)) :=
  fun _ => ⟨g, rfl, hb.lt, fun j m h => by rw [hb.cell]; simp [h]⟩
def exC (u1 u2 u3 u4 : Value) : List (List Value) := [tC (itemP 1 []) u1 (.slice none 0 0), tC (itemP 2 [1]) u2 (.slice none 0 0), tC (itemP 3 [1, 2]) u3 (.slice none 0 0), tC (itemP 4 []) u4 (.slice none 0 0)]
theorem ex_at {w : World} {g N : Nat} {u1 u2 u3 u4 : Value} (hb : Blk w g 30 (exC u1 u2 u3 u4).flatten.toArray) (hN : w.heap.size ≤ N) (h1 : DrvAt w N (itemP 1 []).2 u1 (.slice none 0 0)) (h2 : DrvAt w N (itemP 2 [1]).2 u2 (.slice none 0 0)) (h3 : DrvAt w N (itemP 3 [1, 2]).2 u3 (.slice none 0 0)) (h4 : DrvAt w N (itemP 4 []).2 u4 (.slice none 0 0)) :
    itmsLay.At w N [.slice (some ⟨g, 0, none⟩) 4 4] exIt := by
  refine slice_cells (t := 22) (L := itmLay) (l := exIt) (by decide) hb (Nat.lt_of_lt_of_le hb.lt hN) rfl (by decide) fun j x cs hx hcs => ?_
  match j, hx, hcs with
  | 0, hx, hcs => injection hx with hx; injection hcs with hcs; subst hx hcs; exact itmLay_at.2 ⟨_, _, rfl, rfl, h1⟩
  | 1, hx, hcs => injection hx with hx; injection hcs with hcs; subst hx hcs; exact itmLay_at.2 ⟨_, _, rfl, rfl, h2⟩
  | 2, hx, hcs => injection hx with hx; injection hcs with hcs; subst hx hcs; exact itmLay_at.2 ⟨_, _, rfl, rfl, h3⟩
  | 3, hx, hcs => injection hx with hx; injection hcs with hcs; subst hx hcs; exact itmLay_at.2 ⟨_, _, rfl, rfl, h4⟩
  | j + 4, hx, _ => cases hx
theorem ex_small : (∀ x ∈ exIt, x.2.2.1.length ≤ 1000000) ∧ exIt.length ≤ 1000000 := by decide +kernel
theorem OwnDrv.below9 {w w' : World} {B : Nat} {d : Drv} {u1 u2 : Value} (h : OwnDrv w B d u1 u2) (hb : Below w.heap.size w w') : OwnDrv w' B d u1 u2 := h.keep fun g _ hl => hb.block g hl
set_option maxHeartbeats 4000000 in
theorem awake_any (w : World) : Calls Try.prog 5 #[] w fun e w' => e = .returned (.bool true) ∧ Below w.heap.size w w' := by
  go_enter Try.func5, Try.ntmps5
  go_wp2_with fail
  refine (item_any w 1 (by omega) [] (by decide) (by decide) none 0 (fun h => absurd h (by decide))).mono ?_
  rintro e w1 ⟨u1, rfl, ho, hb⟩
  dsimp only
  have H1 := hide (And.intro ho hb)
  clear ho hb
  go_wp2_with (first | ((with_reducible refine at_slot 5 ?_); (refine wpList_newS (o := ⟨some 5, _, _, _, _, _⟩) rfl 1 3 #[.int .i64 1] (by kernel_rfl) ?_); intro w2 hn; have H2 := hide (And.intro hn.blk (And.intro (H1.out.1.below9 hn.below) (H1.out.2.trans (Below.mono hn.below H1.out.2.size)))); clear hn; simp only [Act.put, List.setIfInBounds_toArray, List.set_cons_zero, List.set_cons_succ]))
  refine (item_any w2 2 (by omega) [1] (by decide) (by decide) _ 1 (row_needs [1] H2.out.1)).mono ?_
  rintro e w3 ⟨u2, rfl, ho, hb⟩
  dsimp only
  have H3 := hide (And.intro (H2.out.2.1.below9 hb) (And.intro ho (H2.out.2.2.trans (Below.mono hb H2.out.2.2.size))))
  clear ho hb
  go_wp2_with (first | ((with_reducible refine at_slot 7 ?_); (refine wpList_newS (o := ⟨some 7, _, _, _, _, _⟩) rfl 2 3 #[.int .i64 1, .int .i64 2] (by kernel_rfl) ?_); intro w4 hn; have H4 := hide (And.intro hn.blk (And.intro (H3.out.1.below9 hn.below) (And.intro (H3.out.2.1.below9 hn.below) (H3.out.2.2.trans (Below.mono hn.below H3.out.2.2.size))))); clear hn; simp only [Act.put, List.setIfInBounds_toArray, List.set_cons_zero, List.set_cons_succ]))
  refine (item_any w4 3 (by omega) [1, 2] (by decide) (by decide) _ 2 (row_needs [1, 2] H4.out.1)).mono ?_
  rintro e w5 ⟨u3, rfl, ho, hb⟩
  dsimp only
  have H5 := hide (And.intro (H4.out.2.1.below9 hb) (And.intro (H4.out.2.2.1.below9 hb) (And.intro ho (H4.out.2.2.2.trans (Below.mono hb H4.out.2.2.2.size)))))
  clear ho hb
  go_wp2_with fail
  refine (item_any w5 4 (by omega) [] (by decide) (by decide) none 0 (fun h => absurd h (by decide))).mono ?_
  rintro e w6 ⟨u4, rfl, ho, hb⟩
  dsimp only
  have H6 := hide (And.intro (H5.out.1.below9 hb) (And.intro (H5.out.2.1.below9 hb) (And.intro (H5.out.2.2.1.below9 hb) (And.intro ho (H5.out.2.2.2.trans (Below.mono hb H5.out.2.2.2.size))))))
  clear ho hb
  go_wp2_with (first | ((with_reducible refine at_slot 10 ?_); (refine wpList_newS (o := ⟨some 10, _, _, _, _, _⟩) rfl 4 30 (exC u1 u2 u3 u4).flatten.toArray (by kernel_rfl) ?_); intro w7 hn; have hat := ex_at hn.blk (Nat.le_refl _) ((H6.out.1.below9 hn.below).at_ (Nat.le_refl _)) ((H6.out.2.1.below9 hn.below).at_ (Nat.le_refl _)) ((H6.out.2.2.1.below9 hn.below).at_ (Nat.le_refl _)) ((H6.out.2.2.2.1.below9 hn.below).at_ (Nat.le_refl _)); have H7 := hide (And.intro hat (H6.out.2.2.2.2.trans (Below.mono hn.below H6.out.2.2.2.2.size))); clear hn hat; simp only [Act.put, List.setIfInBounds_toArray, List.set_cons_zero, List.set_cons_succ]))
  refine (hash_any w7 3 (by omega)).mono ?_
  rintro e w8 ⟨rfl, hb⟩
  dsimp only
  have H8 := hide (And.intro (itms_alike H7.out.1 hb) (H7.out.2.trans (Below.mono hb H7.out.2.size)))
  clear hb
  go_wp2_with fail
  refine (needs_any w8 exIt _ 4 H8.out.1 ex_small.1 ex_small.2 (hashN 3) rfl).mono ?_
  rintro e w9 ⟨u, rfl, hown, hb⟩
  rw [ex_needs.2] at hown
  rw [ex_needs.1]
  obtain ⟨g, cap, rfl⟩ := owned_placeN hown (by decide)
  have hgl := (owned_ltN hown rfl).2
  have H9 := hide (And.intro (show w9.rangeAt g 0 (bv (hashN 1)) from own_range hown 0 20 _ rfl) (And.intro (show w9.rangeAt g 40 (bv (hashN 3)) from own_range hown 40 20 _ rfl) (And.intro (itms_alike H8.out.1 hb) (H8.out.2.trans (Below.mono hb H8.out.2.size)))))
  clear hown hb
  dsimp only
  go_wp2_with fail
  refine Fre.wp_made (X := Bel) 27 [] (by kernel_rfl) (by kernel_rfl) (by simp) (by simp) (by simp) ?_
  simp only [List.take_succ_cons, List.take_zero, List.drop_succ_cons, List.drop_zero]
  refine Fre.made_val (.int .i64 0) (by kernel_rfl) (by kernel_rfl) (by kernel_rfl) (fun _ _ => by kernel_rfl) ?_
  simp only [Act.put, List.setIfInBounds_toArray, List.set_cons_zero, List.set_cons_succ]
  refine Fre.made_val (.bool true) (by kernel_rfl) (by kernel_rfl) (by kernel_rfl) (fun _ _ => by kernel_rfl) ?_
  simp only [Act.put, List.setIfInBounds_toArray, List.set_cons_zero, List.set_cons_succ]
  refine Fre.made_val (.bool true) (by kernel_rfl) (by kernel_rfl) (by kernel_rfl) (fun _ _ => by kernel_rfl) ?_
  simp only [Act.put, List.setIfInBounds_toArray, List.set_cons_zero, List.set_cons_succ]
  refine Fre.made_val (.slice (some ⟨g, 0, none⟩) 3 cap) (by kernel_rfl) (by kernel_rfl) (by kernel_rfl) (fun _ _ => by kernel_rfl) ?_
  simp only [Act.put, List.setIfInBounds_toArray, List.set_cons_zero, List.set_cons_succ]
  refine Fre.made_val (.int .i64 3) (by kernel_rfl) (by kernel_rfl) (by kernel_rfl) (fun _ _ => by kernel_rfl) ?_
  simp only [Act.put, List.setIfInBounds_toArray, List.set_cons_zero, List.set_cons_succ]
  refine Fre.made_val (.bool true) (by kernel_rfl) (by kernel_rfl) (by kernel_rfl) (fun _ _ => by kernel_rfl) ?_
  simp only [Act.put, List.setIfInBounds_toArray, List.set_cons_zero, List.set_cons_succ]
  refine Fre.made_val (.bool true) (by kernel_rfl) (by kernel_rfl) (by kernel_rfl) (fun _ _ => by kernel_rfl) ?_
  simp only [Act.put, List.setIfInBounds_toArray, List.set_cons_zero, List.set_cons_succ]
  refine Fre.made_val (.bool true) (by kernel_rfl) (by kernel_rfl) (by kernel_rfl) (fun _ _ => by kernel_rfl) ?_
  simp only [Act.put, List.setIfInBounds_toArray, List.set_cons_zero, List.set_cons_succ]
  refine Fre.made_val (.slice (some ⟨g, 0, none⟩) 3 cap) (by kernel_rfl) (by kernel_rfl) (by kernel_rfl) (fun _ _ => by kernel_rfl) ?_
  simp only [Act.put, List.setIfInBounds_toArray, List.set_cons_zero, List.set_cons_succ]
  refine Fre.made_val (.pointer (some ⟨g, 0, none⟩)) (by kernel_rfl) (by kernel_rfl) (by kernel_rfl) (fun _ _ => by kernel_rfl) ?_
  simp only [Act.put, List.setIfInBounds_toArray, List.set_cons_zero, List.set_cons_succ]
  refine Fre.made_val (.agg (bv (hashN 1)).toArray) (by kernel_rfl) (by kernel_rfl) (by kernel_rfl) (fun W9 hW9 => exec_load_mid (o := ⟨some 27, _, _, _, _, _⟩) 24 (.tmp 26) rfl g 0 rfl (bv (hashN 1)) _ W9 (rangeAt_same H9.out.1 (Below.block hW9 _ hgl)) Try.underlying24 rfl (by kernel_rfl)) ?_
  simp only [Act.put, List.setIfInBounds_toArray, List.set_cons_zero, List.set_cons_succ]
  refine Fre.made_call (.agg (bv (hashN 1)).toArray) 17 #[.int .i64 1] (by kernel_rfl) (by kernel_rfl) (by kernel_rfl) (fun W9 => by kernel_rfl) (fun W9 hW9 => hash_any W9 1 (by omega)) ?_
  simp only [Act.put, List.setIfInBounds_toArray, List.set_cons_zero, List.set_cons_succ]
  refine Fre.made_val (.bool true) (by kernel_rfl) (by kernel_rfl) (by kernel_rfl) (fun W9 hW9 => exec_binop_agg (o := ⟨some 29, _, _, _, _, _⟩) .eql 24 (.tmp 27) (.tmp 28) _ rfl (bv (hashN 1)).toArray (bv (hashN 1)).toArray rfl rfl (by kernel_rfl) _ (fun W => (bin_eq_hash (hashN 1) (hashN 1) rfl rfl W).trans (by rw [decide_eq_true rfl])) W9) ?_
  simp only [Act.put, List.setIfInBounds_toArray, List.set_cons_zero, List.set_cons_succ]
  refine Fre.made_val (.bool true) (by kernel_rfl) (by kernel_rfl) (by kernel_rfl) (fun _ _ => by kernel_rfl) ?_
  simp only [Act.put, List.setIfInBounds_toArray, List.set_cons_zero, List.set_cons_succ]
  refine Fre.made_val (.bool true) (by kernel_rfl) (by kernel_rfl) (by kernel_rfl) (fun _ _ => by kernel_rfl) ?_
  simp only [Act.put, List.setIfInBounds_toArray, List.set_cons_zero, List.set_cons_succ]
  refine Fre.made_val (.slice (some ⟨g, 0, none⟩) 3 cap) (by kernel_rfl) (by kernel_rfl) (by kernel_rfl) (fun _ _ => by kernel_rfl) ?_
  simp only [Act.put, List.setIfInBounds_toArray, List.set_cons_zero, List.set_cons_succ]
  refine Fre.made_val (.pointer (some ⟨g, 40, none⟩)) (by kernel_rfl) (by kernel_rfl) (by kernel_rfl) (fun _ _ => by kernel_rfl) ?_
  simp only [Act.put, List.setIfInBounds_toArray, List.set_cons_zero, List.set_cons_succ]
  refine Fre.made_val (.agg (bv (hashN 3)).toArray) (by kernel_rfl) (by kernel_rfl) (by kernel_rfl) (fun W9 hW9 => exec_load_mid (o := ⟨some 34, _, _, _, _, _⟩) 24 (.tmp 33) rfl g 40 rfl (bv (hashN 3)) _ W9 (rangeAt_same H9.out.2.1 (Below.block hW9 _ hgl)) Try.underlying24 rfl (by kernel_rfl)) ?_
  simp only [Act.put, List.setIfInBounds_toArray, List.set_cons_zero, List.set_cons_succ]
  refine Fre.made_call (.agg (bv (hashN 3)).toArray) 17 #[.int .i64 3] (by kernel_rfl) (by kernel_rfl) (by kernel_rfl) (fun W9 => by kernel_rfl) (fun W9 hW9 => hash_any W9 3 (by omega)) ?_
  simp only [Act.put, List.setIfInBounds_toArray, List.set_cons_zero, List.set_cons_succ]
  refine Fre.made_val (.bool true) (by kernel_rfl) (by kernel_rfl) (by kernel_rfl) (fun W9 hW9 => exec_binop_agg (o := ⟨some 36, _, _, _, _, _⟩) .eql 24 (.tmp 34) (.tmp 35) _ rfl (bv (hashN 3)).toArray (bv (hashN 3)).toArray rfl rfl (by kernel_rfl) _ (fun W => (bin_eq_hash (hashN 3) (hashN 3) rfl rfl W).trans (by rw [decide_eq_true rfl])) W9) ?_
  simp only [Act.put, List.setIfInBounds_toArray, List.set_cons_zero, List.set_cons_succ]
  refine Fre.made_val (.bool true) (by kernel_rfl) (by kernel_rfl) (by kernel_rfl) (fun _ _ => by kernel_rfl) ?_
  simp only [Act.put, List.setIfInBounds_toArray, List.set_cons_zero, List.set_cons_succ]
  refine Fre.made_val (.bool true) (by kernel_rfl) (by kernel_rfl) (by kernel_rfl) (fun _ _ => by kernel_rfl) ?_
  simp only [Act.put, List.setIfInBounds_toArray, List.set_cons_zero, List.set_cons_succ]
  refine Fre.made_val (.slice (some ⟨w6.heap.size, 0, none⟩) 4 4) (by kernel_rfl) (by kernel_rfl) (by kernel_rfl) (fun _ _ => by kernel_rfl) ?_
  simp only [Act.put, List.setIfInBounds_toArray, List.set_cons_zero, List.set_cons_succ]
  refine Fre.made_call (.agg (bv (hashN 3)).toArray) 17 #[.int .i64 3] (by kernel_rfl) (by kernel_rfl) (by kernel_rfl) (fun W9 => by kernel_rfl) (fun W9 hW9 => hash_any W9 3 (by omega)) ?_
  simp only [Act.put, List.setIfInBounds_toArray, List.set_cons_zero, List.set_cons_succ]
  refine Fre.made_call (.int .i64 3) 10 #[.slice (some ⟨w6.heap.size, 0, none⟩) 4 4, .agg (bv (hashN 3)).toArray] (by kernel_rfl) (by kernel_rfl) (by kernel_rfl) (fun W9 => by kernel_rfl) (fun W9 hW9 => ?hcd) ?_
  case hcd =>
    have h := depth_any W9 exIt _ 4 (itms_alike H9.out.2.2.1 hW9) ex_small.1 ex_small.2 (hashN 3) rfl
    rw [ex_depth] at h
    exact h
  simp only [Act.put, List.setIfInBounds_toArray, List.set_cons_zero, List.set_cons_succ]
  refine Fre.made_val (.bool true) (by kernel_rfl) (by kernel_rfl) (by kernel_rfl) (fun _ _ => by kernel_rfl) ?_
  simp only [Act.put, List.setIfInBounds_toArray, List.set_cons_zero, List.set_cons_succ]
  refine Fre.made_val (.bool true) (by kernel_rfl) (by kernel_rfl) (by kernel_rfl) (fun _ _ => by kernel_rfl) ?_
  simp only [Act.put, List.setIfInBounds_toArray, List.set_cons_zero, List.set_cons_succ]
  intro wx hx
  have HX := hide (H9.out.2.2.2.trans (Below.mono hx H9.out.2.2.2.size))
  clear hx
  dsimp only [Fre.ended, List.drop]
  go_wp2_with fail
  go_ret
  exact ⟨rfl, HX.out⟩
end Go.Proofs.Ytkiaofmngnmdhaa
end
