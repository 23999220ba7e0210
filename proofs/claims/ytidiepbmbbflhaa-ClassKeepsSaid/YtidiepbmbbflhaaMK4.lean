/- spencelaw18: hash, great, place, same; spencekit.DrvOf. spencelaw18.used. A struct built of two parts of many cells. A struct built of any parts, the filling given. spencelaw18.item. A slice built of two parts of many cells; a slice that is read out of a block. spencelaw18.awake. spencelaw18.DrvUsers. spencelaw18.DrvNeeds: the plain law; one item more at the end. A derivation's text tells it: plain. Chapter 19: tables of derivations, plain: what is added, what is kept. Chapter 19: what is kept of a table, plain. class.of. class.Table. slices.Clone of a derivation's inputs. -/
import Derived.Test.YtidiepbmbbflhaaMK2
import Derived.Test.YtidiepbmbbflhaaMK3
import Derived.Test.YtidiepbmbbflhaaBuild
import Derived.Test.YtidiepbmbbflhaaFlat
import Derived.Test.YtidiepbmbbflhaaGrow
import Derived.Test.YtidiepbmbbflhaaMK1
import Derived.Test.YtidiepbmbbflhaaAt
section
namespace Go.Proofs.Ytidiepbmbbflhaa
open Go Go.RowKit Go.Maps Go.WideShapes Go.ChangeShapes
set_option maxRecDepth 100000
def hashN (n : Nat) : Hsh := UInt8.ofNat (n % 256) :: UInt8.ofNat (n / 256 % 256) :: List.replicate 18 0
theorem hashN_ok (n : Nat) : okH (hashN n) := rfl
theorem u8_cell (n : Nat) : ((UInt8.ofNat (n % 256)).toNat : Int) = ((n % 256 : Nat) : Int) := by
  rw [UInt8.toNat_ofNat']
  omega
/-- what is counted of a derivation, up to some -/
def ofLoop (most : Nat) : Nat → List Nam → Nat
  | n, [] => n
  | n, x :: l => if n ≤ most then ofLoop most (n + 1 + x.1.size + x.2.1.2.size) l else n
def drvOfP (most : Nat) (d : Drv) : Nat := ofLoop most (1 + d.1.size + d.2.2.length) d.2.1
/-- no part of a derivation is longer than memory -/
structure LightD (d : Drv) : Prop where
  name : d.1.size ≤ 140737488355328
  ins : d.2.1.length ≤ 140737488355328
  rcp : d.2.2.length ≤ 140737488355328
  each : ∀ x ∈ d.2.1, x.1.size ≤ 140737488355328 ∧ x.2.1.2.size ≤ 140737488355328
theorem ofLoop_ge (most : Nat) : ∀ (l : List Nam) (n : Nat), n ≤ ofLoop most n l
  | [], n => Nat.le_refl _
  | x :: l, n => by
    unfold ofLoop
    split
    · exact Nat.le_trans (by omega) (ofLoop_ge most l _)
    · exact Nat.le_refl _
theorem ofLoop_len (most : Nat) : ∀ (l : List Nam) (n : Nat), ofLoop most n l ≤ most → n + l.length ≤ most
  | [], n, h => h
  | x :: l, n, h => by
    unfold ofLoop at h
    split at h
    · have := ofLoop_len most l _ h
      rw [List.length_cons]
      omega
    · omega
theorem ofLoop_step {most : Nat} {l : List Nam} {k : Nat} {x : Nam} {n : Nat} (h : l[k]? = some x) (hn : n ≤ most) : ofLoop most n (l.drop k) = ofLoop most (n + 1 + x.1.size + x.2.1.2.size) (l.drop (k + 1)) := by
  have hj := (List.getElem?_eq_some_iff.1 h)
  rw [List.drop_eq_getElem_cons hj.1, hj.2, ofLoop, if_pos hn]
theorem ofLoop_stop {most : Nat} {l : List Nam} {n : Nat} (hn : ¬ n ≤ most) : ofLoop most n l = n := by
  cases l with
  | nil => rfl
  | cons x l => rw [ofLoop, if_neg hn]
theorem nam_21 {x : Nam} (h : okN x) : (nC x)[21]? = some (.string x.2.1.2) := by
  have e : nC x = (.string x.1 :: bv x.2.1.1) ++ (.string x.2.1.2 :: (bv x.2.2.1 ++ [.bool x.2.2.2])) := by simp [nC, iC, pC]
  have hl : (Value.string x.1 :: bv x.2.1.1).length = 21 := by rw [List.length_cons, bvL, show x.2.1.1.length = 20 from h.2.1.1]
  rw [e, List.getElem?_append_right (by omega), hl]
  rfl
theorem exec_idxO {P : Program} {ρ : Operand → Value} {o : Oper} (ty e : TypeId) (x i : Operand) (ho : o.op = .indexAddr ty x i) (b off n cap k : Nat) (hx : ρ x = .slice (some ⟨b, off, none⟩) n cap) (hi : ρ i = .int .i64 (k : Int)) (hk : k < n) (s : Nat) (hu : P.underlying ty = some (.slice e)) (hs : (P.info? e).map (·.size) = some s) (w : World) :
    (execOp ρ o).run P w = .ok (.value (.pointer (some ⟨b, off + k * s, none⟩))) w := by
  have h := exec_index_off (P := P) (ρ := ρ) (o := o) ty e x i ho b off n cap (k : Int) .i64 hx hi ⟨by omega, by omega⟩ s hu hs w
  rwa [Int.toNat_natCast] at h
theorem item_drv9 {x : Itm} {v1 v2 : Value} {w : World} {b o : Nat} (h : okH x.1) (hr : w.rangeAt b o (tC x v1 v2)) : w.rangeAt b (o + 20) (dC x.2 v1 v2) := by
  have h2 := rangeAt_right (c1 := bv x.1) (c2 := dC x.2 v1 v2) (by simpa [tC] using hr)
  rwa [bvL, show x.1.length = 20 from h] at h2
theorem bin_neq_hash (a b : Hsh) (ha : okH a) (hb : okH b) (w : World) : (binOp .neq 27 (hV a) (hV b)).run Try.prog w = .ok (.bool (!decide (a = b))) w := by
  have h := eq_hash a b ha hb w
  unfold hV at h ⊢
  simp only [binOp, Sem.run_bind, h, Result.andThen_ok, Sem.run_pure]
set_option maxHeartbeats 4000000 in
theorem drvOf_any (w : World) (d : Drv) (v1 v2 : Value) (h : DrvAt w w.heap.size d v1 v2) (hl : LightD d) :
    Calls Try.prog 17 #[.agg (dC d v1 v2).toArray, .int .i64 3000] w fun e w' => e = .returned (.int .i64 (drvOfP 3000 d : Int)) ∧ Below w.heap.size w w' := by
  obtain ⟨A, cap, rfl, hcl, hcm, _, hA⟩ := slice_open h.ins
  obtain ⟨A2, cap2, rfl, hcl2, hcm2, _, _⟩ := slice_open h.rcp
  have hl1 := hl.name
  have hl2 := hl.ins
  have hl3 := hl.rcp
  have i9 : (d.2.1.length : Int) ≤ 140737488355328 := by omega
  have i8 : (d.2.2.length : Int) ≤ 140737488355328 := by omega
  have i7 : (d.1.size : Int) ≤ 140737488355328 := by omega
  have HA := hide hA
  have HL := hide hl.each
  clear hA h hcl hcm hcl2 hcm2 hl
  go_enter Try.func17, Try.ntmps17
  go_wp2_with (first | ((with_reducible refine at_slot 2 ?_); (refine wpList_boxA (o := ⟨some 2, _, _, _, _, _⟩) rfl 34 (.tmp 0) rfl (dC d (.slice A d.2.1.length cap) (.slice A2 d.2.2.length cap2)).toArray rfl ?_); intro w1 hn; have H1 := hide hn; clear hn; simp only [Act.put, List.setIfInBounds_toArray, List.set_cons_zero, List.set_cons_succ]) | ((with_reducible refine at_slot 8 ?_); (refine wpList_value (o := ⟨some 8, _, _, _, _, _⟩) rfl (.string d.1) w1 (exec_load_cell (o := ⟨some 8, _, _, _, _, _⟩) 9 (.tmp 7) rfl ⟨w.heap.size, 0, none⟩ rfl _ _ w1 Try.underlying9 rfl (show w1.cell? ⟨w.heap.size, 0, none⟩ = some (.string d.1) from H1.out.blk.cell 0)) ?_)) | ((with_reducible refine at_slot 12 ?_); (refine wpList_value (o := ⟨some 12, _, _, _, _, _⟩) rfl (.slice A2 d.2.2.length cap2) w1 (exec_load_cell (o := ⟨some 12, _, _, _, _, _⟩) 32 (.tmp 11) rfl ⟨w.heap.size, 2, none⟩ rfl _ _ w1 Try.underlying32 rfl (show w1.cell? ⟨w.heap.size, 2, none⟩ = some (.slice A2 d.2.2.length cap2) from H1.out.blk.cell 2)) ?_)))
  have c1 : w1.cell? ⟨w.heap.size, 1, none⟩ = some (.slice A d.2.1.length cap) := H1.out.blk.cell 1
  go_loopw [5, 6] (fun x5 x6 wr => ∃ (n k : Nat), k ≤ d.2.1.length ∧ n ≤ 3000 + 300000000000000 ∧ x5 = .int .i64 (n : Int) ∧ x6 = .int .i64 (k : Int) ∧ drvOfP 3000 d = ofLoop 3000 n (d.2.1.drop k) ∧ Below w1.heap.size w1 wr) (fun _ x6 _ => d.2.1.length - (intOf x6).toNat)
  case atStart => exact ⟨1 + d.1.size + d.2.2.length, 0, by omega, by omega, by go_num, rfl, rfl, Below.refl _ _⟩
  case round =>
    obtain ⟨wo, rfl⟩ : ∃ wo, wo = wr := ⟨_, rfl⟩
    obtain ⟨n, j, hj, hn, rfl, rfl, hof, hb⟩ := hrel
    have HB := hide (And.intro hof hb)
    clear hof hb
    have c1' : wo.cell? ⟨w.heap.size, 1, none⟩ = some (.slice A d.2.1.length cap) := (World.cell?_of_block (HB.out.2.block _ H1.out.blk.lt)).trans c1
    have HC1 := hide c1'
    have j0 : (0 : Int) ≤ (j : Int) := by omega
    have n0 : (0 : Int) ≤ (n : Int) := by omega
    have n9 : (n : Int) ≤ 300000000003000 := by omega
    by_cases hj2 : j < d.2.1.length
    · have j1 : (j : Int) < (d.2.1.length : Int) := by omega
      by_cases hn3 : n ≤ 3000
      · have n3 : (n : Int) ≤ 3000 := by omega
        obtain ⟨x, hx⟩ : ∃ x, d.2.1[j]? = some x := ⟨_, List.getElem?_eq_getElem hj2⟩
        obtain ⟨b, off, rfl, hlb, hE⟩ := HA.out (by omega)
        obtain ⟨cs, hr, hatx⟩ := hE j x hx
        obtain ⟨rfl, hxo⟩ := namLay_at.1 hatx
        have hr0 := rangeAt_same hr (((HB.out.2.block b (by have := H1.out.size; omega)).trans (H1.out.below.block b hlb)))
        have d0 : wo.cell? ⟨b, off + j * 43, none⟩ = some (.string x.1) := hr0 0 _ rfl
        have d21 : wo.cell? ⟨b, off + j * 43 + 21, none⟩ = some (.string x.2.1.2) := hr0 21 _ (nam_21 hxo)
        have hxl := HL.out x (List.mem_of_getElem? hx)
        have x1 : (x.1.size : Int) ≤ 140737488355328 := by omega
        have x2 : (x.2.1.2.size : Int) ≤ 140737488355328 := by omega
        have hst := ofLoop_step hx hn3
        have HST := hide hst
        have HD0 := hide (And.intro d0 d21)
        clear hx hE hr hatx hxo hr0 d0 d21 hst hxl
        go_wp2_with fail
        refine Fre.wp_made (X := Bel) 19 [] (by kernel_rfl) (by kernel_rfl) (by simp) (by simp) (by simp) ?_
        simp only [List.take_succ_cons, List.take_zero, List.drop_succ_cons, List.drop_zero]
        refine Fre.made_val (.int .i64 (n : Int)) (by kernel_rfl) (by kernel_rfl) (by kernel_rfl) (fun _ _ => by kernel_rfl) ?_
        simp only [Act.put, List.setIfInBounds_toArray, List.set_cons_zero, List.set_cons_succ]
        refine Fre.made_val (.int .i64 ((n : Int) + 1)) (by kernel_rfl) (by kernel_rfl) (by kernel_rfl) (fun W9 hW9 => ?hs1) ?_
        case hs1 =>
          go_simp
          all_goals exact Go.IntWalk.i64_in _ (by omega)
        simp only [Act.put, List.setIfInBounds_toArray, List.set_cons_zero, List.set_cons_succ]
        refine Fre.made_val (.pointer (some ⟨w.heap.size, 1, none⟩)) (by kernel_rfl) (by kernel_rfl) (by kernel_rfl) (fun _ _ => by kernel_rfl) ?_
        simp only [Act.put, List.setIfInBounds_toArray, List.set_cons_zero, List.set_cons_succ]
        refine Fre.made_val (.slice (some ⟨b, off, none⟩) d.2.1.length cap) (by kernel_rfl) (by kernel_rfl) (by kernel_rfl) (fun W9 hW9 => exec_load_cell (o := ⟨some 30, _, _, _, _, _⟩) 31 (.tmp 29) rfl ⟨w.heap.size, 1, none⟩ rfl _ _ W9 Try.underlying31 rfl (((World.cell?_of_block (Below.block hW9 _ (World.block_lt_of_cell? wo _ HC1.out))).trans HC1.out))) ?_
        simp only [Act.put, List.setIfInBounds_toArray, List.set_cons_zero, List.set_cons_succ]
        refine Fre.made_val (.int .i64 (j : Int)) (by kernel_rfl) (by kernel_rfl) (by kernel_rfl) (fun _ _ => by kernel_rfl) ?_
        simp only [Act.put, List.setIfInBounds_toArray, List.set_cons_zero, List.set_cons_succ]
        refine Fre.made_val (.pointer (some ⟨b, off + j * 43, none⟩)) (by kernel_rfl) (by kernel_rfl) (by kernel_rfl) (fun W9 hW9 => exec_idxO (o := ⟨some 32, _, _, _, _, _⟩) 31 72 (.tmp 30) (.tmp 31) rfl b off d.2.1.length cap j rfl rfl hj2 43 Try.underlying31 sz_namD W9) ?_
        simp only [Act.put, List.setIfInBounds_toArray, List.set_cons_zero, List.set_cons_succ]
        refine Fre.made_val (.pointer (some ⟨b, off + j * 43, none⟩)) (by kernel_rfl) (by kernel_rfl) (by kernel_rfl) (fun _ _ => by kernel_rfl) ?_
        simp only [Act.put, List.setIfInBounds_toArray, List.set_cons_zero, List.set_cons_succ]
        refine Fre.made_val (.string x.1) (by kernel_rfl) (by kernel_rfl) (by kernel_rfl) (fun W9 hW9 => exec_load_cell (o := ⟨some 34, _, _, _, _, _⟩) 9 (.tmp 33) rfl ⟨b, off + j * 43, none⟩ rfl _ _ W9 Try.underlying9 rfl (((World.cell?_of_block (Below.block hW9 _ (World.block_lt_of_cell? wo _ HD0.out.1))).trans HD0.out.1))) ?_
        simp only [Act.put, List.setIfInBounds_toArray, List.set_cons_zero, List.set_cons_succ]
        refine Fre.made_val (.int .i64 (x.1.size : Int)) (by kernel_rfl) (by kernel_rfl) (by kernel_rfl) (fun W9 hW9 => ?hs2) ?_
        case hs2 =>
          go_simp
        simp only [Act.put, List.setIfInBounds_toArray, List.set_cons_zero, List.set_cons_succ]
        refine Fre.made_val (.int .i64 ((n : Int) + 1 + (x.1.size : Int))) (by kernel_rfl) (by kernel_rfl) (by kernel_rfl) (fun W9 hW9 => ?hs3) ?_
        case hs3 =>
          go_simp
          all_goals exact Go.IntWalk.i64_in _ (by omega)
        simp only [Act.put, List.setIfInBounds_toArray, List.set_cons_zero, List.set_cons_succ]
        refine Fre.made_val (.pointer (some ⟨w.heap.size, 1, none⟩)) (by kernel_rfl) (by kernel_rfl) (by kernel_rfl) (fun _ _ => by kernel_rfl) ?_
        simp only [Act.put, List.setIfInBounds_toArray, List.set_cons_zero, List.set_cons_succ]
        refine Fre.made_val (.slice (some ⟨b, off, none⟩) d.2.1.length cap) (by kernel_rfl) (by kernel_rfl) (by kernel_rfl) (fun W9 hW9 => exec_load_cell (o := ⟨some 38, _, _, _, _, _⟩) 31 (.tmp 37) rfl ⟨w.heap.size, 1, none⟩ rfl _ _ W9 Try.underlying31 rfl (((World.cell?_of_block (Below.block hW9 _ (World.block_lt_of_cell? wo _ HC1.out))).trans HC1.out))) ?_
        simp only [Act.put, List.setIfInBounds_toArray, List.set_cons_zero, List.set_cons_succ]
        refine Fre.made_val (.int .i64 (j : Int)) (by kernel_rfl) (by kernel_rfl) (by kernel_rfl) (fun _ _ => by kernel_rfl) ?_
        simp only [Act.put, List.setIfInBounds_toArray, List.set_cons_zero, List.set_cons_succ]
        refine Fre.made_val (.pointer (some ⟨b, off + j * 43, none⟩)) (by kernel_rfl) (by kernel_rfl) (by kernel_rfl) (fun W9 hW9 => exec_idxO (o := ⟨some 40, _, _, _, _, _⟩) 31 72 (.tmp 38) (.tmp 39) rfl b off d.2.1.length cap j rfl rfl hj2 43 Try.underlying31 sz_namD W9) ?_
        simp only [Act.put, List.setIfInBounds_toArray, List.set_cons_zero, List.set_cons_succ]
        refine Fre.made_val (.pointer (some ⟨b, off + j * 43 + 1, none⟩)) (by kernel_rfl) (by kernel_rfl) (by kernel_rfl) (fun _ _ => by kernel_rfl) ?_
        simp only [Act.put, List.setIfInBounds_toArray, List.set_cons_zero, List.set_cons_succ]
        refine Fre.made_val (.pointer (some ⟨b, off + j * 43 + 1, none⟩)) (by kernel_rfl) (by kernel_rfl) (by kernel_rfl) (fun _ _ => by kernel_rfl) ?_
        simp only [Act.put, List.setIfInBounds_toArray, List.set_cons_zero, List.set_cons_succ]
        refine Fre.made_val (.pointer (some ⟨b, off + j * 43 + 21, none⟩)) (by kernel_rfl) (by kernel_rfl) (by kernel_rfl) (fun _ _ => by kernel_rfl) ?_
        simp only [Act.put, List.setIfInBounds_toArray, List.set_cons_zero, List.set_cons_succ]
        refine Fre.made_val (.string x.2.1.2) (by kernel_rfl) (by kernel_rfl) (by kernel_rfl) (fun W9 hW9 => exec_load_cell (o := ⟨some 44, _, _, _, _, _⟩) 9 (.tmp 43) rfl ⟨b, off + j * 43 + 21, none⟩ rfl _ _ W9 Try.underlying9 rfl (((World.cell?_of_block (Below.block hW9 _ (World.block_lt_of_cell? wo _ HD0.out.2))).trans HD0.out.2))) ?_
        simp only [Act.put, List.setIfInBounds_toArray, List.set_cons_zero, List.set_cons_succ]
        refine Fre.made_val (.int .i64 (x.2.1.2.size : Int)) (by kernel_rfl) (by kernel_rfl) (by kernel_rfl) (fun W9 hW9 => ?hs4) ?_
        case hs4 =>
          go_simp
        simp only [Act.put, List.setIfInBounds_toArray, List.set_cons_zero, List.set_cons_succ]
        intro w5 hx5
        have H5 := hide (HB.out.2.trans (Below.mono hx5 HB.out.2.size))
        clear hx5
        dsimp only [Fre.ended, List.drop]
        go_wp2_with fail
        go_roundw
        case rel => exact ⟨n + 1 + x.1.size + x.2.1.2.size, j + 1, by omega, by omega, by go_num, by go_num, by rw [HB.out.1]; exact HST.out, H5.out⟩
        case measure => simp [intOf]; omega
      · have n3 : ¬ (n : Int) ≤ 3000 := by omega
        have hfin : drvOfP 3000 d = n := by rw [HB.out.1]; exact ofLoop_stop hn3
        have HF := hide hfin
        clear hfin
        go_wp2_with fail
        go_ret
        exact ⟨by rw [HF.out]; rfl, H1.out.below.trans (Below.mono HB.out.2 H1.out.below.size)⟩
    · obtain rfl : j = d.2.1.length := by omega
      have hfin : drvOfP 3000 d = n := by rw [HB.out.1, List.drop_length]; rfl
      have HF := hide hfin
      clear hfin
      go_wp2_with fail
      go_ret
      exact ⟨by rw [HF.out]; rfl, H1.out.below.trans (Below.mono HB.out.2 H1.out.below.size)⟩
def gLoop : Nat → List Itm → Nat
  | n, [] => n
  | n, x :: l => if n ≤ 3000 then gLoop (n + drvOfP 3000 x.2) l else n
/-- are items more than is gone through in time? -/
def greatP (l : List Itm) : Bool := decide (3000 < gLoop 0 l)
theorem gLoop_len : ∀ (l : List Itm) (n : Nat), gLoop n l ≤ 3000 → n + l.length ≤ 3000 ∧ ∀ x ∈ l, drvOfP 3000 x.2 ≤ 3000
  | [], n, h => ⟨h, fun x hx => by cases hx⟩
  | x :: l, n, h => by
    unfold gLoop at h
    split at h
    · have h1 := gLoop_len l _ h
      have h2 : 1 ≤ drvOfP 3000 x.2 := Nat.le_trans (by omega) (ofLoop_ge 3000 x.2.2.1 (1 + x.2.1.size + x.2.2.2.length))
      rw [List.length_cons]
      refine ⟨by omega, fun y hy => ?_⟩
      rcases List.mem_cons.1 hy with rfl | hy
      · omega
      · exact h1.2 y hy
    · omega
theorem great_small {l : List Itm} (h : greatP l = false) : l.length ≤ 3000 ∧ ∀ x ∈ l, x.2.2.1.length ≤ 3000 ∧ x.2.2.2.length ≤ 3000 := by
  have h1 : gLoop 0 l ≤ 3000 := by
    have := of_decide_eq_false h
    omega
  obtain ⟨h2, h3⟩ := gLoop_len l 0 h1
  refine ⟨by omega, fun x hx => ?_⟩
  have h4 := ofLoop_len 3000 _ _ (h3 x hx)
  omega
theorem gLoop_step {l : List Itm} {k : Nat} {x : Itm} {n : Nat} (h : l[k]? = some x) (hn : n ≤ 3000) : gLoop n (l.drop k) = gLoop (n + drvOfP 3000 x.2) (l.drop (k + 1)) := by
  have hj := (List.getElem?_eq_some_iff.1 h)
  rw [List.drop_eq_getElem_cons hj.1, hj.2, gLoop, if_pos hn]
theorem gLoop_stop {l : List Itm} {n : Nat} (hn : ¬ n ≤ 3000) : gLoop n l = n := by
  cases l with
  | nil => rfl
  | cons x l => rw [gLoop, if_neg hn]
theorem ofLoop_le (most : Nat) : ∀ (l : List Nam) (n : Nat), (∀ x ∈ l, x.1.size ≤ 140737488355328 ∧ x.2.1.2.size ≤ 140737488355328) → ofLoop most n l ≤ max n (most + 300000000000000)
  | [], n, _ => Nat.le_max_left _ _
  | x :: l, n, h => by
    unfold ofLoop
    split
    · have h1 := h x (List.mem_cons_self ..)
      have h2 := ofLoop_le most l (n + 1 + x.1.size + x.2.1.2.size) fun y hy => h y (List.mem_cons_of_mem _ hy)
      omega
    · exact Nat.le_max_left _ _
theorem drvOf_le {d : Drv} (h : LightD d) : drvOfP 3000 d ≤ 400000000000000 := by
  have h1 := ofLoop_le 3000 d.2.1 (1 + d.1.size + d.2.2.length) h.each
  have h2 := h.name
  have h3 := h.rcp
  unfold drvOfP
  omega
/-- where a class stands in a row -/
def placeH {H : Type} [DecidableEq H] (l : List H) (c : H) : Int := if c ∈ l then (l.idxOf c : Int) else -1
theorem placeH_at {H : Type} [DecidableEq H] {l : List H} {c : H} {j : Nat} (h : l[j]? = some c) (hn : ∀ x ∈ l.take j, x ≠ c) : placeH l c = (j : Int) := by
  have hm := List.mem_of_getElem? h
  have hj := List.getElem?_eq_some_iff.1 h
  have e : l.idxOf c = j := by
    have e2 : l = l.take j ++ c :: l.drop (j + 1) := by rw [← hj.2, List.getElem_cons_drop, List.take_append_drop]
    have hnm : c ∉ l.take j := fun hm => hn c hm rfl
    conv => lhs; rw [e2]
    rw [List.idxOf_append, if_neg hnm, List.idxOf_cons_self, List.length_take]
    have := hj.1
    omega
  unfold placeH
  rw [if_pos hm, e]
theorem placeH_not {H : Type} [DecidableEq H] {l : List H} {c : H} (h : c ∉ l) : placeH l c = -1 := by
  unfold placeH
  rw [if_neg h]
end Go.Proofs.Ytidiepbmbbflhaa
end
section
namespace Go.Proofs.Ytidiepbmbbflhaa
open Go Go.RowKit Go.Maps
set_option maxRecDepth 100000
/-- the derivation of a class; an empty one where there is none -/
def findD (l : List Itm) (c : Hsh) : Drv := ((l.find? fun x => decide (x.1 = c)).map (·.2)).getD (⟨#[]⟩, [], [])
theorem findD_len {l : List Itm} {c : Hsh} {d : Drv} {n : Nat} (h : d = findD l c) (hl : ∀ x ∈ l, x.2.2.1.length ≤ n) : d.2.1.length ≤ n := by
  rw [h]
  unfold findD
  cases e : l.find? fun x => decide (x.1 = c) with
  | none => exact Nat.zero_le _
  | some x => exact hl x (List.mem_of_find?_eq_some e)
theorem clsP_le (l : List Nam) : (clsP l).length ≤ l.length := by have := clsP_len l l.length; rwa [List.take_length] at this
theorem dC_one {w : World} {B : Nat} {d : Drv} {u1 u2 : Value} (h : OwnDrv w B d u1 u2) : (dC d u1 u2).toArray.all (·.oneCell') = true := by
  obtain ⟨A1, n1, c1, A2, n2, c2, rfl, rfl⟩ := h.form
  refine all_oneCell_toArray fun v hv => ?_
  simp only [dC, List.mem_cons, List.not_mem_nil, or_false] at hv
  rcases hv with rfl | rfl | rfl <;> rfl
theorem placeH_mem {H : Type} [DecidableEq H] {l : List H} {c : H} (h : c ∈ l) : ∃ p : Nat, placeH l c = (p : Int) ∧ p = l.idxOf c ∧ p < l.length := by
  refine ⟨l.idxOf c, ?_, rfl, List.idxOf_lt_length_iff.2 h⟩
  unfold placeH
  rw [if_pos h]
/-- is a class an input of one of some? -/
def usedP (l : List Itm) (all : List Hsh) (c : Hsh) : Bool := all.any fun h => decide (c ∈ clsP (findD l h).2.1)
theorem usedP_yes {l : List Itm} {all : List Hsh} {c : Hsh} {j : Nat} {z : Hsh} (hz : all[j]? = some z) (h : c ∈ clsP (findD l z).2.1) : usedP l all c = true :=
  List.any_eq_true.2 ⟨z, List.mem_of_getElem? hz, decide_eq_true h⟩
theorem usedP_no {l : List Itm} {all : List Hsh} {c : Hsh} (h : ∀ z ∈ all, c ∉ clsP (findD l z).2.1) : usedP l all c = false := by
  unfold usedP
  rw [List.any_eq_false]
  intro z hz
  simpa using h z hz
end Go.Proofs.Ytidiepbmbbflhaa
end
section
namespace Go.Proofs.Ytidiepbmbbflhaa
open Go Go.RowKit
theorem run_build2 {P : Program} {t n1 n2 : Nat} {fields : Array Field} {z v1 v2 : Value} (ht : P.underlying t = some (.struct fields)) (hz : ∀ w, (zeroValue t).run P w = .ok z w) (hzs : z.cells.size = n1 + n2)
    (hpl : ∀ w, (fields.mapM fun f => do pure (f.offset, ← sizeOf f.type) : Sem (Array (Nat × Nat))).run P w = .ok #[(0, n1), (n1, n2)] w) (h1 : v1.cells.size = n1) (h2 : v2.cells.size = n2) (w : World) :
    (Instr.build t #[(0, v1), (1, v2)]).run P w = .ok (.agg (v1.cells ++ v2.cells)) w := by
  have hfill : Instr.fill (fun i => (#[(0, n1), (n1, n2)] : Array (Nat × Nat))[i]?) z.cells [(0, v1), (1, v2)] = some (v1.cells ++ v2.cells) := by
    rw [fill_part _ _ 0 v1 _ 0 (by simp [h1]) (by omega)]
    rw [fill_part _ _ 1 v2 [] n1 (by simp [h2]) (by simp; omega)]
    unfold Instr.fill
    congr 1
    apply Array.ext'
    have e1 : v1.cells.toList.length = n1 := by rw [Array.length_toList, h1]
    have e2 : z.cells.toList.length = n1 + n2 := by rw [Array.length_toList, hzs]
    simp only [List.take_zero, List.nil_append, Array.toList_append, Nat.zero_add, h1, h2]
    rw [List.take_left' e1, List.drop_of_length_le (by rw [List.length_append, List.length_drop]; omega), List.append_nil]
  unfold Instr.build
  simp only [Sem.run_bind, hz, Result.andThen_ok, run_underlying ht]
  rw [hpl]
  simp only [Result.andThen_ok]
  rw [hfill]
  rfl
theorem exec_build2 {P : Program} {ρ : Operand → Value} {o : Oper} (t : TypeId) (x y : Operand) (ho : o.op = .build t #[(0, x), (1, y)]) {n1 n2 : Nat} {fields : Array Field} {z v1 v2 : Value} (hx : ρ x = v1) (hy : ρ y = v2) (ht : P.underlying t = some (.struct fields)) (hz : ∀ w, (zeroValue t).run P w = .ok z w) (hzs : z.cells.size = n1 + n2)
    (hpl : ∀ w, (fields.mapM fun f => do pure (f.offset, ← sizeOf f.type) : Sem (Array (Nat × Nat))).run P w = .ok #[(0, n1), (n1, n2)] w) (h1 : v1.cells.size = n1) (h2 : v2.cells.size = n2) (w : World) :
    (execOp ρ o).run P w = .ok (.value (.agg (v1.cells ++ v2.cells))) w := by
  have h := run_build2 (P := P) ht hz hzs hpl h1 h2 w
  unfold execOp
  simp only [ho, List.map_toArray, List.map_cons, List.map_nil, hx, hy, Sem.run_bind, h, Result.andThen_ok, Sem.run_pure]
end Go.Proofs.Ytidiepbmbbflhaa
end
section
namespace Go.Proofs.Ytidiepbmbbflhaa
open Go Go.RowKit
theorem exec_buildN {P : Program} {ρ : Operand → Value} {o : Oper} (t : TypeId) (xs : Array (Nat × Operand)) (ho : o.op = .build t xs) {fields : Array Field} {places : Array (Nat × Nat)} {z : Value} {cells : Array Value} (ht : P.underlying t = some (.struct fields)) (hz : ∀ w, (zeroValue t).run P w = .ok z w)
    (hpl : ∀ w, (fields.mapM fun f => do pure (f.offset, ← sizeOf f.type) : Sem (Array (Nat × Nat))).run P w = .ok places w) (parts : List (Nat × Value)) (hx : (xs.map fun (i, x) => (i, ρ x)) = parts.toArray) (hf : Instr.fill (fun i => places[i]?) z.cells parts = some cells) (w : World) :
    (execOp ρ o).run P w = .ok (.value (.agg cells)) w := by
  have h : (Instr.build t parts.toArray).run P w = .ok (.agg cells) w := by
    unfold Instr.build
    simp only [Sem.run_bind, hz, Result.andThen_ok, run_underlying ht]
    rw [hpl]
    simp only [Result.andThen_ok]
    rw [hf]
    rfl
  unfold execOp
  simp only [ho, hx, Sem.run_bind, h, Result.andThen_ok, Sem.run_pure]
end Go.Proofs.Ytidiepbmbbflhaa
end
section
namespace Go.Proofs.Ytidiepbmbbflhaa
open Go Go.RowKit Go.Maps
set_option maxRecDepth 100000
def namN (j m : Nat) : Nam := (⟨#[UInt8.ofNat (97 + j)]⟩, ((List.replicate 20 0, ⟨#[]⟩), hashN m, true))
/-- what an item of an example needs -/
def nds (ns : List Nat) : List Nam := ns.zipIdx.map fun p => namN p.2 p.1
def itemP (n : Nat) (ns : List Nat) : Itm := (hashN n, (⟨#[100]⟩, nds ns, []))
theorem nds_len (ns : List Nat) : (nds ns).length = ns.length := by simp [nds]
theorem nds_step {ns : List Nat} {j m : Nat} (h : ns[j]? = some m) : nds (ns.take (j + 1)) = nds (ns.take j) ++ [namN j m] := by
  have hj := (List.getElem?_eq_some_iff.1 h).1
  unfold nds
  rw [List.take_add_one, h, List.zipIdx_append, List.map_append, List.length_take, Nat.min_eq_left (by omega)]
  simp
theorem namN_ok (j m : Nat) : okN (namN j m) := ⟨(by show 1 ≤ maxLen; decide), ⟨rfl, Nat.zero_le _⟩, hashN_ok m⟩
theorem nds_ok (ns : List Nat) : ∀ x ∈ nds ns, okN x := fun x hx => by
  obtain ⟨p, _, rfl⟩ := List.mem_map.1 hx
  exact namN_ok _ _
/-- the cells of an example's item -/
def itC (n : Nat) (u : Value) : List Value := bv (hashN n) ++ [.string ⟨#[100]⟩, u, .slice none 0 0]
theorem itC_eq (n : Nat) (ns : List Nat) (u : Value) : itC n u = tC (itemP n ns) u (.slice none 0 0) := rfl
theorem itC_len (n : Nat) (u : Value) : (itC n u).length = 23 := rfl
theorem itC_one (n : Nat) {u : Value} (h : u.oneCell' = true) : (itC n u).toArray.all (·.oneCell') = true := all_oneCell_toArray fun v hv => by
  rcases List.mem_append.1 hv with hv | hv
  · exact bv1 _ v hv
  · simp only [List.mem_cons, List.not_mem_nil, or_false] at hv
    rcases hv with rfl | rfl | rfl
    · rfl
    · exact h
    · rfl
theorem itC_set (n : Nat) (u v : Value) : ((itC n u).toArray).set! 21 v = (itC n v).toArray := rfl
theorem exec_itm {ρ : Operand → Value} {o : Oper} (x y : Operand) (ho : o.op = .build 43 #[(0, x), (1, y)]) (n : Nat) (h1 : ρ x = .agg (bv (hashN n)).toArray) (h2 : ρ y = .agg #[.string ⟨#[100]⟩, .slice none 0 0, .slice none 0 0]) (w : World) :
    (execOp ρ o).run Try.prog w = .ok (.value (.agg (itC n (.slice none 0 0)).toArray)) w := by
  refine Eq.trans (exec_build2 43 x y ho (n1 := 20) (n2 := 3) (z := .agg zcT) h1 h2 Try.underlying43 (fun w => by kernel_rfl) (by kernel_rfl) (fun w => by kernel_rfl) (by kernel_rfl) (by kernel_rfl) w) ?_
  rfl
def zcI : Array Value := ((bv (List.replicate 20 0) ++ [Value.string ByteArray.empty]) ++ (bv (List.replicate 20 0) ++ [Value.bool false])).toArray
theorem exec_inp {ρ : Operand → Value} {o : Oper} (x y : Operand) (ho : o.op = .build 70 #[(1, x), (2, y)]) (m : Nat) (h1 : ρ x = .agg (bv (hashN m)).toArray) (h2 : ρ y = .bool true) (w : World) :
    (execOp ρ o).run Try.prog w = .ok (.value (.agg (iC ((List.replicate 20 0, ⟨#[]⟩), hashN m, true)).toArray)) w :=
  exec_buildN 70 _ ho (z := .agg zcI) (places := #[(0, 21), (21, 20), (41, 1)]) Try.underlying70 (fun w => by kernel_rfl) (fun w => by kernel_rfl) [(1, .agg (bv (hashN m)).toArray), (2, .bool true)] (by simp [h1, h2]) (by kernel_rfl) w
theorem exec_nam {ρ : Operand → Value} {o : Oper} (x y : Operand) (ho : o.op = .build 72 #[(0, x), (1, y)]) (j m : Nat) (h1 : ρ x = .string ⟨#[UInt8.ofNat (97 + j)]⟩) (h2 : ρ y = .agg (iC ((List.replicate 20 0, ⟨#[]⟩), hashN m, true)).toArray) (w : World) :
    (execOp ρ o).run Try.prog w = .ok (.value (.agg (nC (namN j m)).toArray)) w := by
  refine Eq.trans (exec_build2 72 x y ho (n1 := 1) (n2 := 42) (z := .agg zcN) h1 h2 Try.underlying72 (fun w => by kernel_rfl) (by kernel_rfl) (fun w => by kernel_rfl) (by kernel_rfl) (by kernel_rfl) w) ?_
  kernel_rfl
/-- a row of one byte; of one named input -/
def OneB (b : Nat) (u : Value) (w : World) : Prop := ∃ r, u = .slice (some ⟨r, 0, none⟩) 1 1 ∧ Blk w r 5 #[.int .u8 (b : Int)]
def OneN (x : Nam) (u : Value) (w : World) : Prop := ∃ r, u = .slice (some ⟨r, 0, none⟩) 1 1 ∧ Blk w r 72 (nC x).toArray
theorem oneB_ok (b : Nat) : Fre.MadeOk Bel (OneB b) := ⟨fun u w w' ⟨r, h1, h2⟩ hx => ⟨r, h1, h2.below hx h2.lt⟩⟩
theorem oneN_ok (x : Nam) : Fre.MadeOk Bel (OneN x) := ⟨fun u w w' ⟨r, h1, h2⟩ hx => ⟨r, h1, h2.below hx h2.lt⟩⟩
theorem oneB_new {ρ : Operand → Value} {o : Oper} (x : Operand) (ho : o.op = .buildSlice 32 1 #[(0, x)]) (b : Nat) (hx : ρ x = .int .u8 (b : Int)) (W : World) :
    ∃ u w', (execOp ρ o).run Try.prog W = .ok (.value u) w' ∧ Fre.Ext Bel W w' ∧ OneB b u w' :=
  ⟨_, _, exec_buildSliceP (v := .int .u8 (b : Int)) 32 x ho hx Try.underlying32 (e := 5) (n := 1) (by kernel_rfl) (by omega) (by omega) (z := .int .u8 0) (fun w => by kernel_rfl) rfl W, (Below.refl _ W).alloc (Nat.le_refl _) _, _, rfl, Blk.new _ _ _⟩
theorem oneN_new {ρ : Operand → Value} {o : Oper} (x : Operand) (ho : o.op = .buildSlice 31 1 #[(0, x)]) (y : Nam) (hy : okN y) (hx : ρ x = .agg (nC y).toArray) (W : World) :
    ∃ u w', (execOp ρ o).run Try.prog W = .ok (.value u) w' ∧ Fre.Ext Bel W w' ∧ OneN y u w' :=
  ⟨_, _, exec_buildSliceP (v := .agg (nC y).toArray) 31 x ho hx Try.underlying31 (e := 72) (n := 43) sz_namD (by omega) (by omega) (z := .agg zcN) (fun w => by kernel_rfl) (by rw [Value.cells, List.size_toArray]; exact nC_len hy) W, (Below.refl _ W).alloc (Nat.le_refl _) _, _, rfl, Blk.new _ _ _⟩
theorem oneB_text {u : Value} {W : World} {j : Nat} (hj : 97 + j < 256) (h : OneB (97 + j) u W) : (convert 32 9 u).run Try.prog W = .ok (.string ⟨#[UInt8.ofNat (97 + j)]⟩) W := by
  obtain ⟨r, rfl, hb⟩ := h
  have e : ((UInt8.ofNat (97 + j)).toNat : Int) = ((97 + j : Nat) : Int) := by
    rw [UInt8.toNat_ofNat', Nat.mod_eq_of_lt (by omega)]
  refine run_convert_bytes_back (P := Try.prog) W 32 9 5 ⟨r, 0, none⟩ 1 [UInt8.ofNat (97 + j)] Try.underlying32 Try.underlying5 Try.underlying9 fun k hk => ?_
  have hk0 : k = 0 := by simp at hk; omega
  subst hk0
  rw [Addr.add_mid, Nat.zero_add]
  show W.cell? ⟨r, 0, none⟩ = some (.int .u8 ((UInt8.ofNat (97 + j)).toNat : Int))
  rw [e]
  exact hb.cell 0
end Go.Proofs.Ytidiepbmbbflhaa
end
section
namespace Go.Proofs.Ytidiepbmbbflhaa
open Go Go.RowKit
theorem run_buildSlice2 {P : Program} {t e n : Nat} {z v u : Value} (ht : P.underlying t = some (.slice e)) (hs : (P.info? e).map (·.size) = some n) (h24 : 2 * n ≤ 16777216) (hz : ∀ w, (zeroValue e).run P w = .ok z w) (hv : v.cells.size = n) (hu : u.cells.size = n) (w : World) :
    (Instr.buildSlice t 2 #[(0, v), (1, u)]).run P w = .ok (.slice (some ⟨w.heap.size, 0, none⟩) 2 2) (w.alloc (.cells (v.cells ++ u.cells) e)) := by
  have hsz : ∀ w, (sizeOf e).run P w = .ok n w := by
    intro w
    cases hq : P.info? e with
    | none => simp [hq] at hs
    | some i =>
      have h1 : i.size = n := by simpa [hq] using hs
      simp [sizeOf, typeInfo, hq, h1]
  have hfill : ∀ cells : Array Value, cells.size = 2 * n → Instr.fill (fun i => some (i * n, n)) cells [(0, v), (1, u)] = some (v.cells ++ u.cells) := by
    intro cells hc
    have hcl : cells.toList.length = 2 * n := by simpa using hc
    rw [fill_part _ _ 0 v _ 0 (by simp [hv]) (by omega)]
    rw [fill_part _ _ 1 u _ n (by simp [hu]) (by simp only [List.size_toArray, List.length_append, List.length_take, List.length_drop]; simp [hv, hu]; omega)]
    unfold Instr.fill
    congr 1
    apply Array.ext'
    have hvl : v.cells.toList.length = n := by simpa using hv
    simp only [List.take_zero, List.nil_append, Nat.zero_add]
    obtain ⟨d, hd⟩ : ∃ d, d = cells.toList.drop v.cells.size := ⟨_, rfl⟩
    have hdl : d.length = n := by rw [hd, List.length_drop]; omega
    rw [← hd, List.take_left' hvl, List.drop_eq_nil_of_le (by rw [List.length_append]; omega)]
    simp
  have h25 : ¬ 16777216 < 2 * n := by omega
  simp [Instr.buildSlice, run_underlying ht, hsz, h25, hz, hfill, Result.andThen]
  have hr : (newRow e (v.cells ++ u.cells)).run P w = .ok ⟨w.heap.size, 0, none⟩ (w.alloc (.cells (v.cells ++ u.cells) e)) := rfl
  rw [hr]
theorem exec_buildSlice2 {P : Program} {ρ : Operand → Value} {o : Oper} (t : TypeId) (x y : Operand) (ho : o.op = .buildSlice t 2 #[(0, x), (1, y)]) {e n : Nat} {z v u : Value} (hx : ρ x = v) (hy : ρ y = u) (ht : P.underlying t = some (.slice e)) (hs : (P.info? e).map (·.size) = some n) (h24 : 2 * n ≤ 16777216) (hz : ∀ w, (zeroValue e).run P w = .ok z w) (hv : v.cells.size = n) (hu : u.cells.size = n) (w : World) :
    (execOp ρ o).run P w = .ok (.value (.slice (some ⟨w.heap.size, 0, none⟩) 2 2)) (w.alloc (.cells (v.cells ++ u.cells) e)) := by
  have h := run_buildSlice2 (P := P) ht hs h24 hz hv hu w
  unfold execOp
  simp only [ho, List.map_toArray, List.map_cons, List.map_nil, hx, hy, Sem.run_bind, h, Result.andThen_ok, Sem.run_pure]
/-- a slice whose elements' cells lie in a block -/
theorem slice_cells {α : Type} {t e : TypeId} {L : Lay α} (h0 : 0 < L.n) {w : World} {B g : Nat} {cells : List (List Value)} {l : List α} (hb : Blk w g e cells.flatten.toArray) (hg : g < B) (hlen : cells.length = l.length) (hn : l.length ≤ maxLen) (hat : ∀ (j : Nat) x cs, l[j]? = some x → cells[j]? = some cs → L.At w B cs x) :
    (Lay.slice t L).At w B [.slice (some ⟨g, 0, none⟩) l.length l.length] l := by
  have hl : ∀ cs ∈ cells, (id cs).length = L.n := fun cs hcs => by
    obtain ⟨j, hj⟩ := List.getElem?_of_mem hcs
    obtain ⟨x, hx⟩ : ∃ x, l[j]? = some x := ⟨_, List.getElem?_eq_getElem (by have := (List.getElem?_eq_some_iff.1 hj).1; omega)⟩
    exact L.len (hat j x cs hx hj)
  refine ⟨_, l.length, rfl, Nat.le_refl _, hn, (fun h => by cases h), fun _ => ⟨g, 0, rfl, hg, fun j x hj => ?_⟩⟩
  obtain ⟨cs, hcs⟩ : ∃ cs, cells[j]? = some cs := ⟨_, List.getElem?_eq_getElem (by have := (List.getElem?_eq_some_iff.1 hj).1; omega)⟩
  refine ⟨cs, fun i u hu => ?_, hat j x cs hj hcs⟩
  have h2 := flatC_at (f := id) h0 cells hl j cs hcs i u hu
  rw [hb.cell, Nat.zero_add]
  have e : cells.flatMap id = cells.flatten := by simp [List.flatMap]
  rw [e] at h2
  simpa using h2
end Go.Proofs.Ytidiepbmbbflhaa
end
section
namespace Go.Proofs.Ytidiepbmbbflhaa
open Go Go.RowKit Go.Maps
set_option maxRecDepth 100000
theorem wpList_newS {P : Program} {ops : Array Oper} {rest : List Oper} {o : Oper} {a : Act} {w : World} {Q : Exit → Act → World → Prop} (hg : o.guard = none) (k : Nat) (ty : TypeId) (cs : Array Value) (hr : (execOp a.eval o).run P w = .ok (.value (.slice (some ⟨w.heap.size, 0, none⟩) k k)) (w.alloc (.cells cs ty)))
    (h : ∀ w', New1 w w' ty cs → wpList P ops Q rest (a.put o.dst (.slice (some ⟨w.heap.size, 0, none⟩) k k)) w') : wpList P ops Q (o :: rest) a w :=
  wpList_value hg _ _ hr (h _ (new1_alloc w ty cs))
/-- the chapter's example -/
def exIt : List Itm := [itemP 1 [], itemP 2 [1], itemP 3 [1, 2], itemP 4 []]
theorem ex_needs : needsE exIt (hashN 3) = 0 ∧ needsL exIt (hashN 3) = [hashN 1, hashN 2, hashN 3] := by decide +kernel
theorem ex_depth : depthR exIt (hashN 3) = 3 := by decide +kernel
theorem row_needs {w : World} {g : Nat} (ns : List Nat) (hb : Blk w g 3 (ns.map fun n : Nat => Value.int .i64 (n : Int)).toArray) : 0 < ns.length → ∃ b, some (⟨g, 0, none⟩ : Addr) = some ⟨b, 0, none⟩ ∧ b < w.heap.size ∧ ∀ (j m : Nat), ns[j]? = some m → w.cell? ⟨b, j, none⟩ = some (.int .i64 (m : Int)) :=
  fun _ => ⟨g, rfl, hb.lt, fun j m h => by rw [hb.cell]; simp [h]⟩
def exC (u1 u2 u3 u4 : Value) : List (List Value) := [tC (itemP 1 []) u1 (.slice none 0 0), tC (itemP 2 [1]) u2 (.slice none 0 0), tC (itemP 3 [1, 2]) u3 (.slice none 0 0), tC (itemP 4 []) u4 (.slice none 0 0)]
theorem ex_at {w : World} {g N : Nat} {u1 u2 u3 u4 : Value} (hb : Blk w g 43 (exC u1 u2 u3 u4).flatten.toArray) (hN : w.heap.size ≤ N) (h1 : DrvAt w N (itemP 1 []).2 u1 (.slice none 0 0)) (h2 : DrvAt w N (itemP 2 [1]).2 u2 (.slice none 0 0)) (h3 : DrvAt w N (itemP 3 [1, 2]).2 u3 (.slice none 0 0)) (h4 : DrvAt w N (itemP 4 []).2 u4 (.slice none 0 0)) :
    itmsLay.At w N [.slice (some ⟨g, 0, none⟩) 4 4] exIt := by
  refine slice_cells (t := 25) (L := itmLay) (l := exIt) (by decide) hb (Nat.lt_of_lt_of_le hb.lt hN) rfl (by decide) fun j x cs hx hcs => ?_
  match j, hx, hcs with
  | 0, hx, hcs => injection hx with hx; injection hcs with hcs; subst hx hcs; exact itmLay_at.2 ⟨_, _, rfl, rfl, h1⟩
  | 1, hx, hcs => injection hx with hx; injection hcs with hcs; subst hx hcs; exact itmLay_at.2 ⟨_, _, rfl, rfl, h2⟩
  | 2, hx, hcs => injection hx with hx; injection hcs with hcs; subst hx hcs; exact itmLay_at.2 ⟨_, _, rfl, rfl, h3⟩
  | 3, hx, hcs => injection hx with hx; injection hcs with hcs; subst hx hcs; exact itmLay_at.2 ⟨_, _, rfl, rfl, h4⟩
  | j + 4, hx, _ => cases hx
theorem ex_small : (∀ x ∈ exIt, x.2.2.1.length ≤ 1000000) ∧ exIt.length ≤ 1000000 := by decide +kernel
theorem OwnDrv.below9 {w w' : World} {B : Nat} {d : Drv} {u1 u2 : Value} (h : OwnDrv w B d u1 u2) (hb : Below w.heap.size w w') : OwnDrv w' B d u1 u2 := h.keep fun g _ hl => hb.block g hl
end Go.Proofs.Ytidiepbmbbflhaa
end
section
namespace Go.Proofs.Ytidiepbmbbflhaa
open Go Go.RowKit Go.Maps
set_option maxRecDepth 100000
theorem itms_ok {w : World} {B : Nat} {v : Value} {l : List Itm} (h : itmsLay.At w B [v] l) : ∀ x ∈ l, okH x.1 := fun x hx => by
  obtain ⟨j, hj⟩ := List.getElem?_of_mem hx
  obtain ⟨A, cap, rfl, _, _, _, hA⟩ := slice_open h
  obtain ⟨b, off, rfl, _, hE⟩ := hA (by have := (List.getElem?_eq_some_iff.1 hj).1; omega)
  obtain ⟨cs, _, hat⟩ := hE j x hj
  obtain ⟨_, _, _, ho, _⟩ := itmLay_at.1 hat
  exact ho
theorem itms_take {w : World} {B : Nat} {A : Option Addr} {cap : Nat} {l : List Itm} (h : itmsLay.At w B [.slice A l.length cap] l) (i : Nat) : itmsLay.At w B [.slice A (l.take i).length cap] (l.take i) := by
  obtain ⟨A', cap', e, h1, h2, h3, hA⟩ := slice_open h
  injection e with e1 e2 e3
  subst e1 e3
  have hle : (l.take i).length ≤ l.length := by rw [List.length_take]; omega
  refine ⟨A, cap, rfl, by omega, h2, h3, fun h0 => ?_⟩
  obtain ⟨b, off, e, hb, hE⟩ := hA (by omega)
  refine ⟨b, off, e, hb, fun j x hj => hE j x ?_⟩
  rw [List.getElem?_take] at hj
  split at hj
  · exact hj
  · cases hj
theorem needs_css {H : Type} [DecidableEq H] {l : List (Dr.It H)} {c h : H} (hm : h ∈ Dr.needsP l c) : h ∈ Dr.css l := (Dr.outA_sub _ _).subset hm
theorem css_mem {l : List Itm} {h : Hsh} (hm : h ∈ Dr.css (l.map itP)) : ∃ x ∈ l, x.1 = h := by
  unfold Dr.css at hm
  obtain ⟨y, hy, rfl⟩ := List.mem_map.1 hm
  obtain ⟨x, hx, rfl⟩ := List.mem_map.1 hy
  exact ⟨x, hx, rfl⟩
theorem css_known {l : List Itm} {h : Hsh} (hm : h ∈ Dr.css (l.map itP)) : (mget (kmap l) h).isSome = true := by
  cases e : (mget (kmap l) h).isSome with
  | true => rfl
  | false => exact absurd hm (known_not e)
theorem needs_known {l : List Itm} (hr : Dr.rightP (l.map itP) = true) {h : Hsh} (hm : h ∈ Dr.css (l.map itP)) : needsE l h = 0 ∧ needsL l h = Dr.needsP (l.map itP) h := by
  unfold needsE needsL
  rw [hr, css_known hm]
  exact ⟨rfl, rfl⟩
theorem find_some {l : List Itm} (hr : Dr.Right (l.map itP)) {x : Itm} (hx : x ∈ l) : (l.find? fun y => decide (y.1 = x.1)) = some x := by
  obtain ⟨j, hj⟩ := List.getElem?_of_mem hx
  refine find_first hj rfl fun y hy e => ?_
  obtain ⟨i, hi⟩ := List.getElem?_of_mem hy
  have hij : i < j := by
    have := (List.getElem?_eq_some_iff.1 hi).1
    rw [List.length_take] at this
    omega
  rw [List.getElem?_take_of_lt hij] at hi
  have h1 := Dr.idx_at hr (n := i) (x := itP y) (by rw [List.getElem?_map, hi]; rfl)
  have h2 := Dr.idx_at hr (n := j) (x := itP x) (by rw [List.getElem?_map, hj]; rfl)
  have e2 : (itP y).cls = (itP x).cls := e
  rw [e2, h2] at h1
  omega
theorem findD_at {l : List Itm} (hr : Dr.Right (l.map itP)) {x : Itm} (hx : x ∈ l) : findD l x.1 = x.2 := by
  unfold findD
  rw [find_some hr hx]
  rfl
theorem right_take9 {l : List Itm} (hr : Dr.Right (l.map itP)) (j : Nat) : Dr.rightP ((l.take j).map itP) = true := by
  rw [List.map_take]
  exact (Dr.rightP_iff _).2 (Dr.right_take hr j)
/-- what is so of each one that uses a class -/
structure UserOk (l : List Itm) (c z : Hsh) : Prop where
  ok : okH z
  is : (l.find? fun y => decide (y.1 = z)).isSome = true
  has : c ∈ clsP (findD l z).2.1
  e : needsE l z = 0
  needs : c ∈ needsL l z
  ne : z ≠ c
theorem user_ok {l : List Itm} (hr : Dr.rightP (l.map itP) = true) (hok : ∀ x ∈ l, okH x.1) {c z : Hsh} (hz : z ∈ Dr.usersP (l.map itP) c) : UserOk l c z := by
  have hR := (Dr.rightP_iff _).1 hr
  obtain ⟨y, hy, h1, h2⟩ := Dr.mem_users.1 hz
  obtain ⟨x, hx, rfl⟩ := List.mem_map.1 hy
  have hzx : x.1 = z := h2
  subst hzx
  have hcs : x.1 ∈ Dr.css (l.map itP) := List.mem_map.2 ⟨itP x, hy, rfl⟩
  have hn := needs_known hr hcs
  have hu := Dr.users_need hR hy h1
  exact ⟨hok x hx, by rw [find_some hR hx]; rfl, by rw [findD_at hR hx]; exact h1, hn.1, by rw [hn.2]; exact hu.1, hu.2⟩
theorem needsL_ok {l : List Itm} (hok : ∀ x ∈ l, okH x.1) (z : Hsh) : ∀ h ∈ needsL l z, okH h := fun h hm => by
  unfold needsL at hm
  split at hm
  · split at hm
    · obtain ⟨x, hx, rfl⟩ := css_mem (needs_css hm)
      exact hok x hx
    · cases hm
  · cases hm
theorem usersP_ok {l : List Itm} (hok : ∀ x ∈ l, okH x.1) (c : Hsh) : ∀ h ∈ Dr.usersP (l.map itP) c, okH h := fun h hm => by
  obtain ⟨y, hy, _, h2⟩ := Dr.mem_users.1 hm
  obtain ⟨x, hx, rfl⟩ := List.mem_map.1 hy
  rw [← h2]
  exact hok x hx
theorem users_same {l : List Itm} (hr : Dr.Right (l.map itP)) (c : Hsh) {j : Nat} {x : Itm} (hx : l[j]? = some x) : x.1 ∈ Dr.usersP (l.map itP) c ↔ c ∈ clsP x.2.2.1 :=
  Dr.users_iff hr (x := itP x) (List.mem_map.2 ⟨x, List.mem_of_getElem? hx, rfl⟩) c
theorem needsP_le {H : Type} [DecidableEq H] (l : List (Dr.It H)) (c : H) : (Dr.needsP l c).length ≤ l.length := by
  have h : (Dr.needsP l c).length ≤ (Dr.css l).length := (Dr.outA_sub _ _).length_le
  simpa [Dr.css] using h
theorem needsL_len {l : List Itm} (z : Hsh) : (needsL l z).length ≤ l.length := by
  unfold needsL
  split
  · split
    · have := needsP_le (l.map itP) z
      rwa [List.length_map] at this
    · exact Nat.zero_le _
  · exact Nat.zero_le _
end Go.Proofs.Ytidiepbmbbflhaa
end
section
namespace Go.Proofs.Ytidiepbmbbflhaa
open Go Go.RowKit Go.Maps
set_option maxRecDepth 100000
section
variable {H : Type} [DecidableEq H]
/-- what is so of each one that is needed -/
theorem part_plain {l : List (Dr.It H)} (hr : Dr.Right l) {c z : H} {i : Nat} (hz : (Dr.needsP l c)[i]? = some z) : ∃ (n : Nat) (y : Dr.It H), l[n]? = some y ∧ y.cls = z ∧ (∀ d ∈ y.ins, (∃ p : Nat, placeH (Dr.needsP l c) d = (p : Int) ∧ p < i) ∧ d ∈ Dr.css l ∧ Dr.depthP l d < Dr.depthP l z) ∧ (Dr.needsP l z).length ≤ i + 1 ∧ ∀ d ∈ Dr.needsP l z, d ∈ Dr.needsP l c := by
  obtain ⟨n, y, hy, hm, h1, h2, _⟩ := Dr.needsP_at hr (c := c) i (List.getElem?_eq_some_iff.1 hz).1
  rw [hz] at h1
  injection h1 with h1
  subst h1
  have hsub := Dr.needs_sub hr hy hm
  rw [h2] at hsub
  refine ⟨n, y, hy, rfl, fun d hd => ?_, hsub.2, hsub.1⟩
  have ha := Dr.needs_ahead hr hy hm hd
  obtain ⟨p, hp, e, _⟩ := placeH_mem ha.2
  have hat := (Dr.out_at hr (Dr.needP_len l ((Dr.css l).idxOf c)) hy hm).2
  rw [h2] at hat
  refine ⟨⟨p, hp, ?_⟩, needs_css ha.2, Dr.depth_lt hr hy hd⟩
  have h3 := ha.1
  rw [← e] at h3
  have h4 : (Dr.needsP l c).idxOf y.cls = i := hat
  omega
end
theorem depth_known {l : List Itm} (hr : Dr.rightP (l.map itP) = true) {h : Hsh} (hm : h ∈ Dr.css (l.map itP)) : depthR l h = Dr.depthP (l.map itP) h := by
  unfold depthR
  rw [hr, css_known hm]
  rfl
structure PartOk (l : List Itm) (all : List Hsh) (i : Nat) (z : Hsh) : Prop where
  ok : okH z
  is : (l.find? fun y => decide (y.1 = z)).isSome = true
  cls : ∀ d ∈ clsP (findD l z).2.1, okH d ∧ (∃ p : Nat, placeH all d = (p : Int) ∧ p < i) ∧ depthR l d < depthR l z
  e : needsE l z = 0
  len : (needsL l z).length ≤ i + 1
  used : i + 1 < all.length → usedP l all z = true
  sub : ∀ h ∈ needsL l z, h ∈ all
theorem part_ok {l : List Itm} (hr : Dr.rightP (l.map itP) = true) (hok : ∀ x ∈ l, okH x.1) {c z : Hsh} (hc : c ∈ Dr.css (l.map itP)) {all : List Hsh} (ha : all = needsL l c) {i : Nat} (hz : all[i]? = some z) : PartOk l all i z := by
  have hR := (Dr.rightP_iff _).1 hr
  have e0 := (needs_known hr hc).2
  rw [e0] at ha
  subst ha
  obtain ⟨n, y, hy, h1, h2, h3, h4⟩ := part_plain hR hz
  have hym := List.mem_of_getElem? hy
  obtain ⟨x, hx, rfl⟩ := List.mem_map.1 hym
  have hzx : x.1 = z := h1
  subst hzx
  have hcs : x.1 ∈ Dr.css (l.map itP) := List.mem_map.2 ⟨itP x, hym, rfl⟩
  have hn := needs_known hr hcs
  refine ⟨hok x hx, by rw [find_some hR hx]; rfl, fun d hd => ?_, hn.1, by rw [hn.2]; exact h3, fun hi => ?_, by rw [hn.2]; exact h4⟩
  · rw [findD_at hR hx] at hd
    obtain ⟨hp, hdc, hdp⟩ := h2 d hd
    obtain ⟨x2, hx2, rfl⟩ := css_mem hdc
    exact ⟨hok x2 hx2, hp, by rw [depth_known hr hdc, depth_known hr hcs]; exact hdp⟩
  · obtain ⟨j, y2, hj, hy2, hin⟩ := Dr.needs_used hR hc hi hz
    obtain ⟨x2, hx2, rfl⟩ := List.mem_map.1 hy2
    refine usedP_yes (j := j) (z := x2.1) hj ?_
    rw [findD_at hR hx2]
    exact hin
theorem find_known {l : List Itm} (c : Hsh) : (l.find? fun x => decide (x.1 = c)).isSome = (mget (kmap l) c).isSome := by
  cases e : (mget (kmap l) c).isSome with
  | true =>
    obtain ⟨x, hx, rfl⟩ := css_mem (known_mem e)
    rw [List.find?_isSome]
    exact ⟨x, hx, by simp⟩
  | false =>
    have h := known_not e
    cases e2 : (l.find? fun x => decide (x.1 = c)) with
    | none => rfl
    | some x =>
      refine absurd ?_ h
      have h1 := List.find?_some e2
      have h2 : x.1 = c := by simpa using h1
      rw [← h2]
      exact List.mem_map.2 ⟨itP x, List.mem_map.2 ⟨x, List.mem_of_find?_eq_some e2, rfl⟩, rfl⟩
theorem last_is {l : List Itm} (hr : Dr.rightP (l.map itP) = true) {c : Hsh} (hc : c ∈ Dr.css (l.map itP)) {all : List Hsh} (ha : all = needsL l c) : 0 < all.length ∧ all[all.length - 1]? = some c := by
  rw [ha, (needs_known hr hc).2]
  exact Dr.needs_last ((Dr.rightP_iff _).1 hr) hc
theorem more_same {l : List Itm} {x : Itm} (hr : Dr.rightP (l.map itP) = true) (hr2 : Dr.rightP ((l ++ [x]).map itP) = true) {c : Hsh} (hc : c ∈ Dr.css (l.map itP)) : needsE (l ++ [x]) c = 0 ∧ needsL (l ++ [x]) c = needsL l c ∧ depthR (l ++ [x]) c = depthR l c := by
  have e : (l ++ [x]).map itP = l.map itP ++ [itP x] := by simp
  have hc2 : c ∈ Dr.css ((l ++ [x]).map itP) := by
    rw [e, Dr.css_app]
    exact List.mem_append_left _ hc
  have h1 := needs_known hr2 hc2
  have h2 := Dr.needs_more ((Dr.rightP_iff _).1 hr) (itP x) hc
  rw [h1.1, h1.2, (needs_known hr hc).2, depth_known hr2 hc2, depth_known hr hc, e, h2.1, h2.2]
  exact ⟨rfl, rfl, rfl⟩
/-! the items, one more at their end -/
theorem info_itmI : (Try.prog.info? 43).map (fun i => (i.zero, i.size, i.bytes)) = some (some (.agg zcT), 23, 88) := by kernel_rfl
def EmptyI (B : Nat) (u : Value) (w : World) : Prop := ∃ r, u = .slice (some ⟨r, 0, none⟩) 0 0 ∧ B ≤ r ∧ Blk w r 43 #[]
def RowI (B n : Nat) (cells : List (List Value)) (u : Value) (w : World) : Prop := w.ownsRow B 43 23 u n (cells.flatMap id)
def OneI (cs : List Value) (u : Value) (w : World) : Prop := ∃ r, u = .slice (some ⟨r, 0, none⟩) 1 1 ∧ Blk w r 43 cs.toArray
theorem emptyI_ok (B : Nat) : Fre.MadeOk Bel (EmptyI B) := ⟨fun u w w' ⟨r, h1, h2, h3⟩ hx => ⟨r, h1, h2, h3.below hx h3.lt⟩⟩
theorem rowI_ok (B n : Nat) (cells : List (List Value)) : Fre.MadeOk Bel (RowI B n cells) := ⟨fun u w w' h hx => owned_keepN h fun g _ hl => Below.block hx g hl⟩
theorem oneI_ok (cs : List Value) : Fre.MadeOk Bel (OneI cs) := ⟨fun u w w' ⟨r, h1, h2⟩ hx => ⟨r, h1, h2.below hx h2.lt⟩⟩
theorem emptyI_new {ρ : Operand → Value} {o : Oper} (ho : o.op = .buildSlice 25 0 #[]) {B : Nat} (W : World) (hB : B ≤ W.heap.size) :
    ∃ u w', (execOp ρ o).run Try.prog W = .ok (.value u) w' ∧ Fre.Ext Bel W w' ∧ EmptyI B u w' := by
  refine ⟨.slice (some ⟨W.heap.size, 0, none⟩) 0 0, W.alloc (.cells #[] 43), ?_, (Below.refl _ W).alloc (Nat.le_refl _) _, _, rfl, hB, Blk.new _ _ _⟩
  unfold execOp
  simp only [ho]
  kernel_rfl
theorem oneI_new {ρ : Operand → Value} {o : Oper} (x : Operand) (ho : o.op = .buildSlice 25 1 #[(0, x)]) {y : Itm} {v1 v2 : Value} (hy : okH y.1) (hx : ρ x = .agg (tC y v1 v2).toArray) (W : World) :
    ∃ u w', (execOp ρ o).run Try.prog W = .ok (.value u) w' ∧ Fre.Ext Bel W w' ∧ OneI (tC y v1 v2) u w' :=
  ⟨_, _, exec_buildSliceP (v := .agg (tC y v1 v2).toArray) 25 x ho hx Try.underlying25 (e := 43) (n := 23) sz_itm (by omega) (by omega) (z := .agg zcT) (fun w => by kernel_rfl) (by rw [Value.cells, List.size_toArray]; exact tC_len hy) W, (Below.refl _ W).alloc (Nat.le_refl _) _, _, rfl, Blk.new _ _ _⟩
theorem app_firstI {B : Nat} {u : Value} {W : World} {A : Option Addr} {m cp : Nat} {news : List Value} (h : EmptyI B u W) (hB : B ≤ W.heap.size) (hs : SrcN W 23 A m cp news) (h63 : m ≤ maxLen) (hby : m * 88 ≤ 140737488355328) :
    ∃ v' w', (Builtin.append_ #[25, 25] 25 #[u, .slice A m cp]).run Try.prog W = .ok v' w' ∧ Fre.Ext Bel W w' ∧ w'.ownsRow B 43 23 v' m news := by
  obtain ⟨r, rfl, hr, hb⟩ := h
  have hown : W.ownsRow B 43 23 (.slice (some ⟨r, 0, none⟩) 0 0) 0 [] := ⟨rfl, .inr ⟨r, 0, #[], rfl, hr, hb, Nat.le_refl _, Nat.zero_le _, rfl, rfl⟩⟩
  obtain ⟨i, hi, hz0, hz1, hz2⟩ := info_parts info_itmI
  rcases Nat.eq_zero_or_pos m with h0 | h0
  · subst h0
    have hn : news = [] := List.eq_nil_of_length_eq_zero (by rw [hs.len])
    subst hn
    cases A with
    | none =>
      obtain ⟨_, rfl⟩ := hs.none_ rfl
      exact ⟨_, W, run_append_owned_none (P := Try.prog) (w := W) B 25 25 43 i 23 Try.underlying25 hi _ 0 [] hown, (Below.refl _ _), hown⟩
    | some ad =>
      have h := run_append_room_cells (P := Try.prog) (w := W) 25 25 43 i Try.underlying25 hi r 0 0 0 ad 0 cp [] (by simp) (fun j u hu => by simp at hu) (fun u hu => by cases hu) (Nat.le_refl _) (fun j hj => by simp at hj) (fun j hj => by simp at hj)
      exact ⟨_, _, h, (Below.refl _ _), hown⟩
  · cases A with
    | none => have := (hs.none_ rfl).1; omega
    | some ad =>
      obtain ⟨v', w', k1, k2, k3, k4⟩ := run_appG (P := Try.prog) (w := W) B 25 25 43 i _ 23 88 Try.underlying25 hi hz0 hz1 hz2 rfl (by omega) _ 0 [] hown ad m cp news hs.len (hs.cells ad rfl) hs.one h0 (by simpa using h63) (by simpa using hby) hB
      refine ⟨v', w', k1, ?_, by simpa using k2⟩
      rcases k4 with ⟨g, cap, q1, q2⟩ | ⟨_, h⟩
      · injection q1 with _ _ q1
        subst q1 q2
        rcases owned_formN k2 with ⟨h, _⟩ | ⟨g', cap', cur, h, _, h2, _⟩
        · cases h
        · injection h with _ h3 h4
          omega
      · exact h
theorem rowI_new {ρ : Operand → Value} {o : Oper} (x y : Operand) (ho : o.op = .call { callee := .builtin .append, args := #[x, y], argTypes := #[25, 25] }) (hty : o.type = 25) {B : Nat} {u : Value} {W : World} {A : Option Addr} {m cp : Nat} {cells : List (List Value)} (hx : ρ x = u) (hy : ρ y = .slice A m cp) (h : EmptyI B u W) (hB : B ≤ W.heap.size) (hs : SrcN W 23 A m cp (cells.flatMap id)) (h63 : m ≤ maxLen) (hby : m * 88 ≤ 140737488355328) :
    ∃ u' w', (execOp ρ o).run Try.prog W = .ok (.value u') w' ∧ Fre.Ext Bel W w' ∧ RowI B m cells u' w' := by
  obtain ⟨v', w', h1, h2, h3⟩ := app_firstI h hB hs h63 hby
  refine ⟨v', w', ?_, h2, h3⟩
  unfold execOp
  simp only [ho, hty, resolve, invoke, builtin, Sem.run_bind, Sem.run_pure, Result.andThen_ok, List.map_toArray, List.map_cons, List.map_nil, hx, hy, h1]
/-- the cells of items -/
structure CellsI (w : World) (l : List Itm) (A : Option Addr) (cap : Nat) (cells : List (List Value)) : Prop where
  len : cells.length = l.length
  at_ : ∀ (j : Nat) x cs, l[j]? = some x → cells[j]? = some cs → itmLay.At w w.heap.size cs x
  src : SrcN w 23 A l.length cap (cells.flatMap id)
theorem cellsI_of {w : World} {l : List Itm} {A : Option Addr} {cap : Nat} (h : itmsLay.At w w.heap.size [.slice A l.length cap] l) : ∃ cells, CellsI w l A cap cells := by
  obtain ⟨A', cap', e, h1, h2, h3, hA⟩ := slice_open h
  injection e with e1 e2 e3
  subst e1 e3
  rcases Nat.eq_zero_or_pos l.length with h0 | h0
  · obtain rfl := List.eq_nil_of_length_eq_zero h0
    exact ⟨[], rfl, (fun j x cs hx => by cases hx), rfl, (fun e => ⟨rfl, h3 e⟩), (fun u hu => by cases hu), fun ad _ j u hu => by simp at hu⟩
  · obtain ⟨b, off, rfl, hb, hE⟩ := hA h0
    obtain ⟨cf, hcf⟩ := elems_fun hE
    have hcl : ∀ cs ∈ (List.range l.length).map cf, (id cs).length = 23 := fun cs hcs => by
      obtain ⟨j, hj, rfl⟩ := List.mem_map.1 hcs
      have hjl := List.mem_range.1 hj
      exact itmLay.len (hcf j _ (List.getElem?_eq_getElem hjl)).2
    refine ⟨(List.range l.length).map cf, by simp, fun j x cs hx hcs => ?_, by rw [flatC_length _ hcl]; simp, (fun e => by cases e), fun u hu => ?_, fun ad had j u hu => ?_⟩
    · have hjl := (List.getElem?_eq_some_iff.1 hx).1
      have e : cs = cf j := by simpa [hjl] using hcs.symm
      rw [e]
      exact (hcf j x hx).2
    · obtain ⟨cs, hcs, hu⟩ := List.mem_flatMap.1 hu
      obtain ⟨j, hj, rfl⟩ := List.mem_map.1 hcs
      have hjl := List.mem_range.1 hj
      exact itmLay.one (hcf j _ (List.getElem?_eq_getElem hjl)).2 u hu
    · obtain ⟨cs, h6, h7⟩ := flatC_get (by decide) _ hcl j u hu
      injection had with had
      subst had
      have hjl : j / 23 < l.length := by
        have := (List.getElem?_eq_some_iff.1 h6).1
        simpa using this
      have e : cs = cf (j / 23) := by simpa [hjl] using h6.symm
      subst e
      have h8 := (hcf (j / 23) _ (List.getElem?_eq_getElem hjl)).1 _ u h7
      rw [Addr.add_mid]
      have h8 : w.cell? ⟨b, off + j / 23 * 23 + j % 23, none⟩ = some u := h8
      rwa [Nat.add_assoc, show j / 23 * 23 + j % 23 = j by omega] at h8
/-- a row of one's own, its things' cells known each -/
theorem own_cells9 {α : Type} {t e : TypeId} {L : Lay α} (h0 : 0 < L.n) {w : World} {R : Nat} {v : Value} {l : List α} {cells : List (List Value)} (hown : w.ownsRow R e L.n v l.length (cells.flatMap id)) (B : Nat) (hB : w.heap.size ≤ B) (hcl : cells.length = l.length) (hat : ∀ (j : Nat) x cs, l[j]? = some x → cells[j]? = some cs → L.At w B cs x) : (Lay.slice t L).At w B [v] l := by
  have hlen : ∀ cs ∈ cells, (id cs).length = L.n := fun cs hcs => by
    obtain ⟨j, hj⟩ := List.getElem?_of_mem hcs
    obtain ⟨x, hx⟩ : ∃ x, l[j]? = some x := ⟨_, List.getElem?_eq_getElem (by have := (List.getElem?_eq_some_iff.1 hj).1; omega)⟩
    exact L.len (hat j x cs hx hj)
  rcases owned_formN hown with ⟨rfl, hl, _⟩ | ⟨g, cap, cur, rfl, hbg, hnc, hcm, hg, hcs, htake, _⟩
  · obtain rfl := List.eq_nil_of_length_eq_zero hl
    exact ⟨none, 0, rfl, Nat.le_refl _, Nat.zero_le _, (fun _ => rfl), fun h => absurd h (by simp)⟩
  · refine ⟨_, cap, rfl, hnc, hcm, (fun h => by cases h), fun _ => ⟨g, 0, rfl, by have := hg.lt; omega, fun j x hj => ?_⟩⟩
    obtain ⟨cs, hc⟩ : ∃ cs, cells[j]? = some cs := ⟨_, List.getElem?_eq_getElem (by have := (List.getElem?_eq_some_iff.1 hj).1; omega)⟩
    refine ⟨cs, fun i u hu => ?_, hat j x cs hj hc⟩
    have h2 := flatC_at (f := id) h0 cells hlen j cs hc i u hu
    rw [hg.cell, ← Array.getElem?_toList, Nat.zero_add]
    rw [← htake] at h2
    have hlt : j * L.n + i < l.length * L.n := by
      have := (List.getElem?_eq_some_iff.1 h2).1
      rw [List.length_take] at this
      omega
    rwa [List.getElem?_take_of_lt hlt] at h2
theorem longer_at {w W : World} {B : Nat} {l : List Itm} {A : Option Addr} {cap : Nat} {x : Itm} {v1 v2 u : Value} {cells : List (List Value)} (hc : CellsI w l A cap cells) (hx : okH x.1) (hd : DrvAt w w.heap.size x.2 v1 v2) (hb : Below w.heap.size w W) (hown : W.ownsRow B 43 23 u (l.length + 1) (cells.flatMap id ++ tC x v1 v2)) : itmsLay.At W W.heap.size [u] (l ++ [x]) := by
  refine own_cells9 (t := 25) (L := itmLay) (cells := cells ++ [tC x v1 v2]) (by decide) (by have h : W.ownsRow B 43 23 u (l ++ [x]).length ((cells ++ [tC x v1 v2]).flatMap id) := (by simpa using hown); exact h) W.heap.size (Nat.le_refl _) (by simp [hc.len]) fun j y cs hy hcs => ?_
  rcases Nat.lt_or_ge j l.length with hj | hj
  · rw [List.getElem?_append_left hj] at hy
    rw [List.getElem?_append_left (by rw [hc.len]; exact hj)] at hcs
    exact itmLay.widen (itmLay.alike (hc.at_ j y cs hy hcs) fun g hg => hb.block g hg) hb.size
  · rw [List.getElem?_append_right hj] at hy
    rw [List.getElem?_append_right (by rw [hc.len]; exact hj), hc.len] at hcs
    have hj0 : j - l.length = 0 := by
      have := (List.getElem?_eq_some_iff.1 hy).1
      simp at this
      omega
    rw [hj0] at hy hcs
    injection hy with hy
    injection hcs with hcs
    subst hy hcs
    exact itmLay_at.2 ⟨v1, v2, rfl, hx, hd.alike9 hb⟩
end Go.Proofs.Ytidiepbmbbflhaa
end
section
namespace Go.Proofs.Ytidiepbmbbflhaa
open Go Go.RowKit Go.Maps
set_option maxRecDepth 100000
theorem split_at {α : Type} {s : α} : ∀ {a b : List α} {r q : List α}, s ∉ a → s ∉ b → a ++ s :: r = b ++ s :: q → a = b ∧ r = q
  | [], [], _, _, _, _, h => by
    injection h with _ h
    exact ⟨rfl, h⟩
  | [], y :: b, _, _, _, hb, h => by
    injection h with h _
    exact absurd (by rw [h]; exact List.mem_cons_self ..) hb
  | x :: a, [], _, _, ha, _, h => by
    injection h with h _
    exact absurd (by rw [h]; exact List.mem_cons_self ..) ha
  | x :: a, y :: b, _, _, ha, hb, h => by
    injection h with h1 h2
    obtain ⟨h3, h4⟩ := split_at (fun h => ha (List.mem_cons_of_mem _ h)) (fun h => hb (List.mem_cons_of_mem _ h)) h2
    exact ⟨by rw [h1, h3], h4⟩
theorem lines_inj {α : Type} {s : α} : ∀ {a b : List (List α)}, (∀ x ∈ a, s ∉ x) → (∀ x ∈ b, s ∉ x) → (a.flatMap fun x => x ++ [s]) = (b.flatMap fun x => x ++ [s]) → a = b
  | [], [], _, _, _ => rfl
  | [], y :: b, _, _, h => by simp at h
  | x :: a, [], _, _, h => by simp at h
  | x :: a, y :: b, ha, hb, h => by
    rw [List.flatMap_cons, List.flatMap_cons, List.append_assoc, List.append_assoc] at h
    obtain ⟨h1, h2⟩ := split_at (ha x (List.mem_cons_self ..)) (hb y (List.mem_cons_self ..)) h
    rw [h1, lines_inj (fun z hz => ha z (List.mem_cons_of_mem _ hz)) (fun z hz => hb z (List.mem_cons_of_mem _ hz)) h2]
theorem join_lines (s : UInt8) : ∀ (l : List (List UInt8)) (x : List UInt8), Lib.join (x :: l) [s] ++ [s] = (x :: l).flatMap fun x => x ++ [s]
  | [], x => by simp [Lib.join_one]
  | y :: l, x => by
    have h := join_lines s l y
    rw [List.flatMap_cons, ← h]
    simp [Lib.join, List.intercalate]
/-! names -/
theorem runes_all (s : ByteArray) : ∀ (fuel pos : Nat), s.size ≤ pos + fuel → runesOk s fuel pos = true → ∀ i (h : i < s.size), pos ≤ i → signP ((s[i]'h).toNat : Int) = true
  | 0, pos, hf, _, i, h, hp => by omega
  | f + 1, pos, hf, hr, i, h, hp => by
    have hps : pos < s.size := by omega
    rw [runesOk, if_pos hps, Bool.and_eq_true] at hr
    by_cases ha : (s[pos]'hps).toNat < 128
    · rw [decode_ascii s pos hps ha] at hr
      rcases Nat.lt_or_ge pos i with hlt | hge
      · exact runes_all s f (pos + 1) (by omega) hr.2 i h hlt
      · obtain rfl : i = pos := by omega
        exact hr.1
    · have hd := (decode_high s pos hps (by omega)).1
      have h1 := hr.1
      unfold signP at h1
      rw [decide_eq_false (by omega)] at h1
      cases h1
theorem name_sign {s : ByteArray} (h : nameP s = true) : ∀ b ∈ s.data.toList, signP (b.toNat : Int) = true := fun b hb => by
  unfold nameP at h
  rw [Bool.and_eq_true] at h
  obtain ⟨i, hi⟩ := List.getElem?_of_mem hb
  obtain ⟨h1, h2⟩ := List.getElem?_eq_some_iff.1 hi
  have h3 := runes_all s s.size 0 (by omega) h.1 i (by simpa using h1) (Nat.zero_le _)
  rw [← h2]
  exact h3
theorem name_free {s : ByteArray} (h : nameP s = true) : (10 : UInt8) ∉ s.data.toList ∧ (32 : UInt8) ∉ s.data.toList := by
  refine ⟨fun hm => ?_, fun hm => ?_⟩
  · have := name_sign h _ hm
    exact absurd this (by decide +kernel)
  · have := name_sign h _ hm
    exact absurd this (by decide +kernel)
/-! letters -/
def vOut : List UInt8 → Nat
  | [] => 0
  | b :: l => alphabet.idxOf b + 32 * vOut l
def vIn : List UInt8 → Nat
  | [] => 0
  | b :: l => b.toNat + 256 * vIn l
theorem vOut_snoc : ∀ (l : List UInt8) (b : UInt8), vOut (l ++ [b]) = vOut l + alphabet.idxOf b * 32 ^ l.length
  | [], b => by simp [vOut]
  | x :: l, b => by
    show alphabet.idxOf x + 32 * vOut (l ++ [b]) = _
    rw [vOut_snoc l b, List.length_cons, Nat.pow_succ]
    show _ = alphabet.idxOf x + 32 * vOut l + _
    rw [Nat.mul_add, Nat.add_assoc, show 32 * (alphabet.idxOf b * 32 ^ l.length) = alphabet.idxOf b * (32 ^ l.length * 32) by rw [Nat.mul_comm 32, Nat.mul_assoc]]
theorem vIn_snoc : ∀ (l : List UInt8) (b : UInt8), vIn (l ++ [b]) = vIn l + b.toNat * 256 ^ l.length
  | [], b => by simp [vIn]
  | x :: l, b => by
    show x.toNat + 256 * vIn (l ++ [b]) = _
    rw [vIn_snoc l b, List.length_cons, Nat.pow_succ]
    show _ = x.toNat + 256 * vIn l + _
    rw [Nat.mul_add, Nat.add_assoc, show 256 * (b.toNat * 256 ^ l.length) = b.toNat * (256 ^ l.length * 256) by rw [Nat.mul_comm 256, Nat.mul_assoc]]
theorem vIn_inj : ∀ {a b : List UInt8}, a.length = b.length → vIn a = vIn b → a = b
  | [], [], _, _ => rfl
  | [], _ :: _, h, _ => by simp at h
  | _ :: _, [], h, _ => by simp at h
  | x :: a, y :: b, h, e => by
    have e : x.toNat + 256 * vIn a = y.toNat + 256 * vIn b := e
    have h1 := x.toNat_lt
    have h2 := y.toNat_lt
    have h3 : x = y := UInt8.toNat_inj.1 (by omega)
    have h4 : a = b := vIn_inj (by simpa using h) (by omega)
    rw [h3, h4]
theorem letter_idx : ∀ k, k < 32 → alphabet.idxOf (letterAt k) = k ∧ letterAt k ∈ alphabet := by decide +kernel
structure LtInv (p : List UInt8) (s : Nat × Nat × List UInt8) : Prop where
  v : vOut s.2.2 + s.1 * 32 ^ s.2.2.length = vIn p
  n : 5 * s.2.2.length + s.2.1 = 8 * p.length
  a : s.1 < 2 ^ s.2.1
  l : ∀ b ∈ s.2.2, b ∈ alphabet
theorem lt_emit {p : List UInt8} {h m : Nat} {o : List UInt8} (hi : LtInv p (h, m, o)) (hm : 5 ≤ m) : LtInv p (h / 32, m - 5, o ++ [letterAt (h % 32)]) := by
  obtain ⟨h1, h2⟩ := letter_idx (h % 32) (by omega)
  have hv := hi.v
  have hn := hi.n
  have ha := hi.a
  dsimp only at hv hn ha
  refine ⟨?_, ?_, ?_, ?_⟩
  · dsimp only
    rw [vOut_snoc, h1, List.length_append, List.length_singleton, Nat.pow_succ, ← hv, Nat.add_assoc]
    congr 1
    have e : h * 32 ^ o.length = (h % 32 + h / 32 * 32) * 32 ^ o.length := by
      congr 1
      omega
    rw [e, Nat.add_mul, Nat.mul_assoc (h / 32), Nat.mul_comm 32 (32 ^ o.length)]
  · dsimp only
    rw [List.length_append, List.length_singleton]
    omega
  · dsimp only
    have e : (2 : Nat) ^ m = 2 ^ (m - 5) * 32 := by
      rw [show (32 : Nat) = 2 ^ 5 from rfl, ← Nat.pow_add]
      congr 1
      omega
    rw [e] at ha
    exact Nat.div_lt_of_lt_mul (by rw [Nat.mul_comm]; exact ha)
  · intro b hb
    rcases List.mem_append.1 hb with hb | hb
    · exact hi.l b hb
    · rw [List.mem_singleton.1 hb]; exact h2
theorem lt_step {p : List UInt8} {s : Nat × Nat × List UInt8} (hi : LtInv p s) (hm : s.2.1 < 5) (x : UInt8) : LtInv (p ++ [x]) (ltStep s x) ∧ (ltStep s x).2.1 < 5 := by
  obtain ⟨h, m, o⟩ := s
  have hv := hi.v
  have hn := hi.n
  have ha := hi.a
  dsimp only at hv hn ha hm
  have h0 : LtInv (p ++ [x]) (h + x.toNat * 2 ^ m, m + 8, o) := by
    refine ⟨?_, ?_, ?_, hi.l⟩
    · dsimp only
      rw [vIn_snoc, Nat.add_mul, ← Nat.add_assoc, hv]
      congr 1
      rw [Nat.mul_assoc]
      congr 1
      rw [show (32 : Nat) = 2 ^ 5 from rfl, show (256 : Nat) = 2 ^ 8 from rfl, ← Nat.pow_mul, ← Nat.pow_mul, ← Nat.pow_add]
      congr 1
      omega
    · dsimp only
      rw [List.length_append, List.length_singleton]
      omega
    · dsimp only
      have hx := x.toNat_lt
      have e : (2 : Nat) ^ (m + 8) = 256 * 2 ^ m := by rw [Nat.pow_add, Nat.mul_comm]
      rw [e]
      have h9 : x.toNat * 2 ^ m ≤ 255 * 2 ^ m := Nat.mul_le_mul_right _ (by omega)
      omega
  have e : ltStep (h, m, o) x = drain 2 (h + x.toNat * 2 ^ m) (m + 8) o := rfl
  rw [e, drain, if_pos (by omega)]
  have h1 := lt_emit h0 (by omega)
  rw [drain]
  split
  · rename_i h5
    exact ⟨lt_emit h1 h5, by show m + 8 - 5 - 5 < 5; omega⟩
  · rename_i h5
    exact ⟨h1, by show m + 8 - 5 < 5; omega⟩
theorem letters_inv (h : List UInt8) : ∀ (p : List UInt8) (s : Nat × Nat × List UInt8), LtInv p s → s.2.1 < 5 → LtInv (p ++ h) (h.foldl ltStep s) ∧ (h.foldl ltStep s).2.1 < 5 := by
  induction h with
  | nil => intro p s hi hm; rw [List.append_nil]; exact ⟨hi, hm⟩
  | cons x h ih =>
    intro p s hi hm
    have h1 := lt_step hi hm x
    have h2 := ih (p ++ [x]) _ h1.1 h1.2
    rwa [List.append_assoc] at h2
theorem letters_val {h : Hsh} (hh : okH h) : vOut (lettersP h) = vIn h ∧ (lettersP h).length = 32 ∧ ∀ b ∈ lettersP h, b ∈ alphabet := by
  obtain ⟨hi, hm⟩ := letters_inv h [] (0, 0, []) ⟨rfl, rfl, by decide, fun b hb => by cases hb⟩ (by decide)
  rw [List.nil_append] at hi
  have hn := hi.n
  have hl : h.length = 20 := hh
  have hm0 : (h.foldl ltStep (0, 0, [])).2.1 = 0 := by omega
  have ha := hi.a
  rw [hm0] at ha
  have ha0 : (h.foldl ltStep (0, 0, [])).1 = 0 := by omega
  have hv := hi.v
  rw [ha0, Nat.zero_mul, Nat.add_zero] at hv
  exact ⟨hv, by unfold lettersP; omega, hi.l⟩
theorem letters_inj {a b : Hsh} (ha : okH a) (hb : okH b) (h : lettersP a = lettersP b) : a = b :=
  vIn_inj (Eq.trans (show a.length = 20 from ha) (show b.length = 20 from hb).symm) (by rw [← (letters_val ha).1, h, (letters_val hb).1])
theorem alpha_free : (10 : UInt8) ∉ alphabet ∧ (32 : UInt8) ∉ alphabet ∧ (45 : UInt8) ∉ alphabet := by decide +kernel
theorem letters_free {h : Hsh} (hh : okH h) : (10 : UInt8) ∉ lettersP h ∧ (32 : UInt8) ∉ lettersP h ∧ (45 : UInt8) ∉ lettersP h :=
  ⟨fun hm => alpha_free.1 ((letters_val hh).2.2 _ hm), fun hm => alpha_free.2.1 ((letters_val hh).2.2 _ hm), fun hm => alpha_free.2.2 ((letters_val hh).2.2 _ hm)⟩
/-! digits -/
theorem digit_inj : ∀ a : Nat, a < 16 → ∀ b : Nat, b < 16 → digitAt (a : Int) = digitAt (b : Int) → a = b := by decide +kernel
theorem digit_free : ∀ a : Nat, a < 16 → digitAt (a : Int) ≠ 45 ∧ digitAt (a : Int) ≠ 10 := by decide +kernel
theorem digit_inj9 {a b : Int} (ha : 0 ≤ a ∧ a < 16) (hb : 0 ≤ b ∧ b < 16) (h : digitAt a = digitAt b) : a = b := by
  obtain ⟨n, rfl⟩ := Int.eq_ofNat_of_zero_le ha.1
  obtain ⟨m, rfl⟩ := Int.eq_ofNat_of_zero_le hb.1
  rw [digit_inj n (by omega) m (by omega) h]
theorem shownB_inj : ∀ {a b : List Int}, (∀ x ∈ a, 0 ≤ x ∧ x ≤ 255) → (∀ x ∈ b, 0 ≤ x ∧ x ≤ 255) → shownB a = shownB b → a = b
  | [], [], _, _, _ => rfl
  | [], y :: b, _, _, h => by simp [shownB] at h
  | x :: a, [], _, _, h => by simp [shownB] at h
  | x :: a, y :: b, ha, hb, h => by
    have h : digitAt (x / 16) :: digitAt (x % 16) :: shownB a = digitAt (y / 16) :: digitAt (y % 16) :: shownB b := h
    injection h with h1 h
    injection h with h2 h3
    have hx := ha x (List.mem_cons_self ..)
    have hy := hb y (List.mem_cons_self ..)
    have e1 := digit_inj9 (by omega) (by omega) h1
    have e2 := digit_inj9 (by omega) (by omega) h2
    have e : x = y := by omega
    rw [e, shownB_inj (fun z hz => ha z (List.mem_cons_of_mem _ hz)) (fun z hz => hb z (List.mem_cons_of_mem _ hz)) h3]
theorem shownB_free {a : List Int} (ha : ∀ x ∈ a, 0 ≤ x ∧ x ≤ 255) : ∀ b ∈ shownB a, b ≠ 45 ∧ b ≠ 10 := fun b hb => by
  obtain ⟨c, hc, hm⟩ := List.mem_flatMap.1 hb
  have h0 := ha c hc
  have key : ∀ k : Int, 0 ≤ k → k < 16 → digitAt k ≠ 45 ∧ digitAt k ≠ 10 := fun k h1 h2 => by
    obtain ⟨n, rfl⟩ := Int.eq_ofNat_of_zero_le h1
    exact digit_free n (by omega)
  simp only [List.mem_cons, List.not_mem_nil, or_false] at hm
  rcases hm with rfl | rfl
  · exact key _ (by omega) (by omega)
  · exact key _ (by omega) (by omega)
theorem shownP_free {a : List Int} (ha : ∀ x ∈ a, 0 ≤ x ∧ x ≤ 255) : (10 : UInt8) ∉ shownP a := fun hm => by
  unfold shownP at hm
  split at hm
  · exact absurd hm (by decide)
  · exact (shownB_free ha _ hm).2 rfl
theorem shownP_inj {a b : List Int} (ha : ∀ x ∈ a, 0 ≤ x ∧ x ≤ 255) (hb : ∀ x ∈ b, 0 ≤ x ∧ x ≤ 255) (h : shownP a = shownP b) : a = b := by
  have key : ∀ {a : List Int}, a ≠ [] → (∀ x ∈ a, 0 ≤ x ∧ x ≤ 255) → shownB a ≠ [45] := fun {a} hn ha e => by
    have : (45 : UInt8) ∈ shownB a := by rw [e]; exact List.mem_cons_self ..
    exact (shownB_free ha _ this).1 rfl
  unfold shownP at h
  split at h
  · rename_i h1
    split at h
    · rename_i h2; rw [h1, h2]
    · rename_i h2; exact absurd h.symm (key h2 hb)
  · rename_i h1
    split at h
    · exact absurd h (key h1 ha)
    · exact shownB_inj ha hb h
/-! lines -/
theorem bytes_ext {a b : ByteArray} (h : a.data.toList = b.data.toList) : a = b := by
  obtain ⟨a⟩ := a
  obtain ⟨b⟩ := b
  congr 1
  exact Array.toList_inj.1 h
/-- an input that can be written -/
structure Wr (x : Nam) : Prop where
  name : nameP x.1 = true
  ok : okN x
  yes : x.2.2.2 = true → x.2.1 = zeroP
  no : x.2.2.2 = false → nameP x.2.1.2 = true ∧ x.2.2.1 = zeroH
theorem line_yes {x : Nam} (h : x.2.2.2 = true) : (lineS x).data.toList = [99, 108, 97, 115, 115, 32] ++ (x.1.data.toList ++ 32 :: lettersP x.2.2.1) := by
  unfold lineS
  rw [if_pos h]
  simp
theorem line_no {x : Nam} (h : x.2.2.2 = false) : (lineS x).data.toList = [115, 114, 99, 32] ++ (x.1.data.toList ++ 32 :: (lettersP x.2.1.1 ++ 45 :: x.2.1.2.data.toList)) := by
  unfold lineS pathS
  rw [if_neg (by rw [h]; decide)]
  simp
theorem line_free {x : Nam} (hx : Wr x) : (10 : UInt8) ∉ (lineS x).data.toList := by
  have hn := (name_free hx.name).1
  cases hc : x.2.2.2 with
  | true =>
    rw [line_yes hc]
    have hl := (letters_free hx.ok.2.2).1
    simp [hn, hl]
  | false =>
    rw [line_no hc]
    have hl := (letters_free hx.ok.2.1.1).1
    have h2 := (name_free (hx.no hc).1).1
    simp [hn, hl, h2]
theorem line_inj {x y : Nam} (hx : Wr x) (hy : Wr y) (h : lineS x = lineS y) : x = y := by
  have h : (lineS x).data.toList = (lineS y).data.toList := by rw [h]
  obtain ⟨n1, ⟨p1, s1⟩, c1, b1⟩ := x
  obtain ⟨n2, ⟨p2, s2⟩, c2, b2⟩ := y
  have hn1 := (name_free hx.name).2
  have hn2 := (name_free hy.name).2
  dsimp only at hn1 hn2
  cases b1 with
  | true =>
    cases b2 with
    | true =>
      rw [line_yes rfl, line_yes rfl] at h
      obtain ⟨h1, h2⟩ := split_at hn1 hn2 (List.append_cancel_left h)
      have e1 := bytes_ext h1
      have e2 := letters_inj hx.ok.2.2 hy.ok.2.2 h2
      have e3 := (hx.yes rfl).trans (hy.yes rfl).symm
      dsimp only at e1 e2 e3
      rw [e1, e2, e3]
    | false =>
      rw [line_yes rfl, line_no rfl] at h
      simp at h
  | false =>
    cases b2 with
    | true =>
      rw [line_no rfl, line_yes rfl] at h
      simp at h
    | false =>
      rw [line_no rfl, line_no rfl] at h
      obtain ⟨h1, h2⟩ := split_at hn1 hn2 (List.append_cancel_left h)
      obtain ⟨h3, h4⟩ := split_at (letters_free hx.ok.2.1.1).2.2 (letters_free hy.ok.2.1.1).2.2 h2
      have e1 := bytes_ext h1
      have e2 := letters_inj hx.ok.2.1.1 hy.ok.2.1.1 h3
      have e3 := bytes_ext h4
      have e4 := (hx.no rfl).2.trans (hy.no rfl).2.symm
      dsimp only at e1 e2 e3 e4
      rw [e1, e2, e3, e4]
theorem can_wr : ∀ {l : List Nam} {b : ByteArray}, canAll l b = true → (∀ x ∈ l, okN x) → ∀ x ∈ l, Wr x
  | [], _, _, _, x, hx => by cases hx
  | y :: l, b, h, ho, x, hx => by
    rw [canAll, Bool.and_eq_true] at h
    rcases List.mem_cons.1 hx with rfl | hx
    · have h1 := h.1
      unfold canP at h1
      simp only [Bool.and_eq_true] at h1
      refine ⟨h1.1.1, ho _ (List.mem_cons_self ..), fun hc => ?_, fun hc => ?_⟩
      · have h2 := h1.2
        rw [if_pos hc] at h2
        exact of_decide_eq_true h2
      · have h2 := h1.2
        rw [if_neg (by rw [hc]; decide), Bool.and_eq_true] at h2
        exact ⟨h2.1, of_decide_eq_true h2.2⟩
    · exact can_wr h.2 (fun z hz => ho z (List.mem_cons_of_mem _ hz)) x hx
theorem map_inj9 {α β : Type} {f : α → β} : ∀ {a b : List α}, (∀ x ∈ a, ∀ y ∈ b, f x = f y → x = y) → a.map f = b.map f → a = b
  | [], [], _, _ => rfl
  | [], _ :: _, _, h => by cases h
  | _ :: _, [], _, h => by cases h
  | x :: a, y :: b, hf, h => by
    injection h with h1 h2
    rw [hf x (List.mem_cons_self ..) y (List.mem_cons_self ..) h1, map_inj9 (fun u hu v hv => hf u (List.mem_cons_of_mem _ hu) v (List.mem_cons_of_mem _ hv)) h2]
theorem text_lines (d : Drv) : (textP d).data.toList = ((linesP d).map (·.data.toList)).flatMap fun x => x ++ [10] := by
  unfold textP
  rw [ByteArray.data_append, Array.toList_append]
  exact join_lines 10 _ _
theorem lines_free {d : Drv} (h : CanP d = true) (ho : ∀ x ∈ d.2.1, okN x) (hb : ∀ x ∈ d.2.2, 0 ≤ x ∧ x ≤ 255) : ∀ x ∈ (linesP d).map (·.data.toList), (10 : UInt8) ∉ x := fun x hx => by
  unfold CanP at h
  simp only [Bool.and_eq_true] at h
  obtain ⟨s, hs, rfl⟩ := List.mem_map.1 hx
  unfold linesP at hs
  rcases List.mem_cons.1 hs with rfl | hs
  · have hn := (name_free h.2.1).1
    simp [hn]
  · rcases List.mem_append.1 hs with hs | hs
    · obtain ⟨y, hy, rfl⟩ := List.mem_map.1 hs
      exact line_free (can_wr h.1 ho y hy)
    · rw [List.mem_singleton.1 hs]
      have hn := shownP_free hb
      simp [hn]
/-- a text tells its derivation -/
theorem text_inj {a b : Drv} (ha : CanP a = true) (hb : CanP b = true) (hoa : ∀ x ∈ a.2.1, okN x) (hob : ∀ x ∈ b.2.1, okN x) (hba : ∀ x ∈ a.2.2, 0 ≤ x ∧ x ≤ 255) (hbb : ∀ x ∈ b.2.2, 0 ≤ x ∧ x ≤ 255) (h : textP a = textP b) : a = b := by
  have h1 : (textP a).data.toList = (textP b).data.toList := by rw [h]
  rw [text_lines, text_lines] at h1
  have h2 := lines_inj (lines_free ha hoa hba) (lines_free hb hob hbb) h1
  have h3 : linesP a = linesP b := map_inj9 (fun x _ y _ e => bytes_ext e) h2
  unfold linesP at h3
  injection h3 with e1 e2
  have hl : (a.2.1.map lineS).length = (b.2.1.map lineS).length := by
    have := congrArg List.length e2
    simpa using this
  obtain ⟨e3, e4⟩ := List.append_inj e2 hl
  unfold CanP at ha hb
  simp only [Bool.and_eq_true] at ha hb
  have n1 : a.1 = b.1 := bytes_ext (by
    have := congrArg (·.data.toList) e1
    simpa using this)
  have n2 : a.2.1 = b.2.1 := map_inj9 (fun x hx y hy e => line_inj (can_wr ha.1 hoa x hx) (can_wr hb.1 hob y hy) e) e3
  have n3 : a.2.2 = b.2.2 := shownP_inj hba hbb (by
    injection e4 with e4 _
    have := congrArg (·.data.toList) e4
    simpa using this)
  obtain ⟨x, y, z⟩ := a
  obtain ⟨x2, y2, z2⟩ := b
  dsimp only at n1 n2 n3
  rw [n1, n2, n3]
end Go.Proofs.Ytidiepbmbbflhaa
end
section
namespace Go.Proofs.Ytidiepbmbbflhaa
open Go Go.RowKit Go.Maps
set_option maxRecDepth 100000
namespace Dr
variable {H : Type} [DecidableEq H]
theorem rightA_app : ∀ (l m : List (It H)) (known : List H), rightA known (l ++ m) = (rightA known l && rightA (known ++ css l) m)
  | [], m, known => by simp [rightA, css]
  | x :: l, m, known => by
    have e : known ++ css (x :: l) = known ++ [x.cls] ++ css l := by simp [css]
    rw [List.cons_append, rightA, rightA, rightA_app l m (known ++ [x.cls]), e]
    simp only [Bool.and_assoc]
theorem rightP_snoc {l : List (It H)} {x : It H} : rightP (l ++ [x]) = true ↔ rightP l = true ∧ x.ok = true ∧ x.cls ∉ css l ∧ ∀ c ∈ x.ins, c ∈ css l := by
  unfold rightP
  rw [rightA_app]
  simp only [rightA, List.nil_append, Bool.and_eq_true, Bool.not_eq_true', List.all_eq_true, List.contains_iff_mem, and_true]
  constructor
  · rintro ⟨h1, ⟨h2, h3⟩, h4⟩
    exact ⟨h1, h2, by simpa using h3, fun c hc => by simpa using h4 c hc⟩
  · rintro ⟨h1, h2, h3, h4⟩
    exact ⟨h1, ⟨h2, by simpa using h3⟩, fun c hc => by simpa using h4 c hc⟩
theorem rightP_take {l : List (It H)} (h : rightP l = true) (i : Nat) : rightP (l.take i) = true := by
  unfold rightP at h ⊢
  have e := List.take_append_drop i l
  rw [← e, rightA_app, Bool.and_eq_true] at h
  exact h.1
theorem rightP_at {l : List (It H)} (h : rightP l = true) {i : Nat} {x : It H} (hx : l[i]? = some x) : x.ok = true ∧ x.cls ∉ css (l.take i) ∧ ∀ c ∈ x.ins, c ∈ css (l.take i) := by
  have h1 := rightP_take h (i + 1)
  rw [List.take_add_one, hx] at h1
  exact (rightP_snoc.1 h1).2
theorem rightA_filter (Q : H → Bool) : ∀ (l : List (It H)) (known : List H), rightA known l = true → (∀ x ∈ l, Q x.cls = true → ∀ c ∈ x.ins, Q c = true) → rightA (known.filter Q) (l.filter fun x => Q x.cls) = true
  | [], known, _, _ => rfl
  | x :: l, known, h, hQ => by
    simp only [rightA, Bool.and_eq_true, Bool.not_eq_true', List.all_eq_true] at h
    obtain ⟨⟨⟨h1, h2⟩, h3⟩, h4⟩ := h
    have h2 : x.cls ∉ known := by simpa using h2
    have h3 : ∀ c ∈ x.ins, c ∈ known := fun c hc => by simpa using h3 c hc
    have ih := rightA_filter Q l _ h4 fun y hy => hQ y (List.mem_cons_of_mem _ hy)
    rw [List.filter_append] at ih
    cases hq : Q x.cls with
    | true =>
      rw [List.filter_cons_of_pos (by simpa using hq)]
      rw [List.filter_cons_of_pos (by simpa using hq), List.filter_nil] at ih
      simp only [rightA, Bool.and_eq_true, Bool.not_eq_true', List.all_eq_true]
      refine ⟨⟨⟨h1, ?_⟩, fun c hc => ?_⟩, ih⟩
      · have : x.cls ∉ known.filter Q := fun hm => h2 (List.mem_filter.1 hm).1
        simpa using this
      · have : c ∈ known.filter Q := List.mem_filter.2 ⟨h3 c hc, hQ x (List.mem_cons_self ..) hq c hc⟩
        simpa using this
    | false =>
      rw [List.filter_cons_of_neg (by simp [hq])]
      rw [List.filter_cons_of_neg (by simp [hq]), List.filter_nil, List.append_nil] at ih
      exact ih
theorem rightP_filter {l : List (It H)} (Q : H → Bool) (h : rightP l = true) (hQ : ∀ x ∈ l, Q x.cls = true → ∀ c ∈ x.ins, Q c = true) : rightP (l.filter fun x => Q x.cls) = true := rightA_filter Q l [] h hQ
end Dr
/-- a derivation as memory holds it -/
def OkD (d : Drv) : Prop := (∀ x ∈ d.2.1, okN x) ∧ ∀ x ∈ d.2.2, 0 ≤ x ∧ x ≤ 255
variable (hof : Drv → Hsh)
def tabP (l : List Itm) : Bool := Dr.rightP (l.map itP) && l.all fun x => decide (hof x.2 = x.1)
def findI (l : List Itm) (c : Hsh) : Option Itm := l.find? fun x => decide (x.1 = c)
/-- a table with a derivation: the table, its class, the error -/
def addP (l : List Itm) (d : Drv) : List Itm × Hsh × Int :=
  if tabP hof l = true then
    (if putE d = 0 then
      (if ((clsP d.2.1).all fun c => (findI l c).isSome) = true then
        (match findI l (hof d) with
        | some x => if textP x.2 = textP d then (l, hof d, 0) else ([], zeroH, 14)
        | none => (l ++ [(hof d, d)], hof d, 0))
      else ([], zeroH, 5))
    else ([], zeroH, putE d))
  else ([], zeroH, 2)
variable {hof}
theorem tab_right {l : List Itm} (h : tabP hof l = true) : Dr.rightP (l.map itP) = true := by
  unfold tabP at h
  rw [Bool.and_eq_true] at h
  exact h.1
theorem tab_of {l : List Itm} (h : tabP hof l = true) {x : Itm} (hx : x ∈ l) : hof x.2 = x.1 := by
  unfold tabP at h
  rw [Bool.and_eq_true, List.all_eq_true] at h
  exact of_decide_eq_true (h.2 x hx)
theorem findI_css {l : List Itm} {c : Hsh} : (findI l c).isSome = true ↔ c ∈ Dr.css (l.map itP) := by
  unfold findI
  rw [find_known]
  exact ⟨known_mem, css_known⟩
theorem findI_none {l : List Itm} {c : Hsh} (h : findI l c = none) : c ∉ Dr.css (l.map itP) := fun hm => by
  have := findI_css.2 hm
  rw [h] at this
  cases this
theorem findI_some {l : List Itm} {c : Hsh} {x : Itm} (h : findI l c = some x) : x ∈ l ∧ x.1 = c :=
  ⟨List.mem_of_find?_eq_some h, by simpa using List.find?_some h⟩
theorem findI_at {l : List Itm} (hr : Dr.rightP (l.map itP) = true) {x : Itm} (hx : x ∈ l) : findI l x.1 = some x := find_some ((Dr.rightP_iff _).1 hr) hx
theorem findD_of {l : List Itm} {c : Hsh} {x : Itm} (h : findI l c = some x) : findD l c = x.2 := by
  unfold findD
  unfold findI at h
  rw [h]
  rfl
/-- what is so where something was added -/
theorem add_ok {l : List Itm} {d : Drv} {next : List Itm} {h : Hsh} (ha : addP hof l d = (next, h, 0)) : tabP hof l = true ∧ putE d = 0 ∧ (∀ c ∈ clsP d.2.1, c ∈ Dr.css (l.map itP)) ∧ h = hof d ∧ ((∃ x, findI l (hof d) = some x ∧ textP x.2 = textP d ∧ next = l) ∨ (findI l (hof d) = none ∧ next = l ++ [(hof d, d)])) := by
  unfold addP at ha
  split at ha
  · rename_i h1
    split at ha
    · rename_i h2
      split at ha
      · rename_i h3
        rw [List.all_eq_true] at h3
        refine ⟨h1, h2, fun c hc => findI_css.1 (h3 c hc), ?_⟩
        split at ha
        · rename_i x hx
          split at ha
          · rename_i h4
            simp only [Prod.mk.injEq] at ha
            exact ⟨ha.2.1.symm, .inl ⟨x, hx, h4, ha.1.symm⟩⟩
          · simp only [Prod.mk.injEq] at ha
            exact absurd ha.2.2 (by decide)
        · rename_i hx
          simp only [Prod.mk.injEq] at ha
          exact ⟨ha.2.1.symm, .inr ⟨hx, ha.1.symm⟩⟩
      · simp only [Prod.mk.injEq] at ha
        exact absurd ha.2.2 (by decide)
    · rename_i h2
      simp only [Prod.mk.injEq] at ha
      exact absurd ha.2.2 h2
  · simp only [Prod.mk.injEq] at ha
    exact absurd ha.2.2 (by decide)
theorem add_bad {l : List Itm} {d : Drv} (h : (addP hof l d).2.2 ≠ 0) : (addP hof l d).1 = [] ∧ (addP hof l d).2.1 = zeroH := by
  unfold addP at h ⊢
  split
  · rename_i h1
    rw [if_pos h1] at h
    split
    · rename_i h2
      rw [if_pos h2] at h
      split
      · rename_i h3
        rw [if_pos h3] at h
        split
        · rename_i x hx
          rw [hx] at h
          dsimp only at h
          split
          · rename_i h4
            rw [if_pos h4] at h
            exact absurd rfl h
          · exact ⟨rfl, rfl⟩
        · rename_i hx
          rw [hx] at h
          exact absurd rfl h
      · exact ⟨rfl, rfl⟩
    · exact ⟨rfl, rfl⟩
  · exact ⟨rfl, rfl⟩
theorem tab_snoc {l : List Itm} {d : Drv} (h : tabP hof l = true) (hp : putE d = 0) (hc : ∀ c ∈ clsP d.2.1, c ∈ Dr.css (l.map itP)) (hn : findI l (hof d) = none) : tabP hof (l ++ [(hof d, d)]) = true := by
  unfold tabP
  rw [Bool.and_eq_true, List.all_eq_true]
  refine ⟨?_, fun x hx => ?_⟩
  · rw [List.map_append]
    exact Dr.rightP_snoc.2 ⟨tab_right h, decide_eq_true hp, findI_none hn, hc⟩
  · rcases List.mem_append.1 hx with hx | hx
    · exact decide_eq_true (tab_of h hx)
    · rw [List.mem_singleton.1 hx]
      exact decide_eq_true rfl
theorem put_can {d : Drv} (h : putE d = 0) : CanP d = true := by
  unfold putE at h
  split at h
  · assumption
  · exact absurd h (by decide)
/-- what is added stays a table; those that were there stay; it is found; added again it changes nothing -/
theorem add_grows {l : List Itm} {d : Drv} {next : List Itm} {h : Hsh} (ha : addP hof l d = (next, h, 0)) (hd : OkD d) (hl : ∀ x ∈ l, OkD x.2) :
    tabP hof next = true ∧ h = hof d ∧ (∃ x, findI next h = some x ∧ x.2 = d) ∧ next.take l.length = l ∧ l.length ≤ next.length ∧ next.length ≤ l.length + 1 ∧ addP hof next d = (next, h, 0) ∧ (∀ x ∈ next, OkD x.2) ∧ putE d = 0 := by
  obtain ⟨h1, h2, h3, rfl, h4⟩ := add_ok ha
  rcases h4 with ⟨x, hx, ht, rfl⟩ | ⟨hn, rfl⟩
  · obtain ⟨hm, hc⟩ := findI_some hx
    have hpx : putE x.2 = 0 := by
      obtain ⟨i, hi⟩ := List.getElem?_of_mem hm
      have := (Dr.rightP_at (tab_right h1) (i := i) (x := itP x) (by rw [List.getElem?_map, hi]; rfl)).1
      exact of_decide_eq_true this
    have ox := hl x hm
    exact ⟨h1, rfl, ⟨x, hx, text_inj (put_can hpx) (put_can h2) ox.1 hd.1 ox.2 hd.2 ht⟩, List.take_length, Nat.le_refl _, Nat.le_succ _, ha, hl, h2⟩
  · have ht := tab_snoc h1 h2 h3 hn
    have hf : findI (l ++ [(hof d, d)]) (hof d) = some (hof d, d) := findI_at (tab_right ht) (x := (hof d, d)) (by simp)
    refine ⟨ht, rfl, ⟨_, hf, rfl⟩, by simp, by simp, by simp, ?_, fun x hx => ?_, h2⟩
    · unfold addP
      rw [if_pos ht, if_pos h2, if_pos (List.all_eq_true.2 fun c hc => findI_css.2 (by rw [List.map_append]; unfold Dr.css; rw [List.map_append]; exact List.mem_append_left _ (h3 c hc))), hf]
      exact if_pos rfl
    · rcases List.mem_append.1 hx with hx | hx
      · exact hl x hx
      · rw [List.mem_singleton.1 hx]; exact hd
theorem tab_take {l : List Itm} (h : tabP hof l = true) (i : Nat) : tabP hof (l.take i) = true := by
  unfold tabP
  rw [Bool.and_eq_true, List.all_eq_true]
  refine ⟨?_, fun x hx => decide_eq_true (tab_of h (List.mem_of_mem_take hx))⟩
  rw [List.map_take]
  exact Dr.rightP_take (tab_right h) i
/-- a table is made anew by adding what it has, in its order -/
theorem add_anew {l : List Itm} (h : tabP hof l = true) {i : Nat} {x : Itm} (hx : l[i]? = some x) : addP hof (l.take i) x.2 = (l.take (i + 1), x.1, 0) := by
  have hat := Dr.rightP_at (tab_right h) (i := i) (x := itP x) (by rw [List.getElem?_map, hx]; rfl)
  rw [← List.map_take] at hat
  have ho := tab_of h (List.mem_of_getElem? hx)
  have hn : findI (l.take i) (hof x.2) = none := by
    cases e : findI (l.take i) (hof x.2) with
    | none => rfl
    | some y =>
      refine absurd (findI_css.1 (by rw [e]; rfl : (findI (l.take i) (hof x.2)).isSome = true)) ?_
      rw [ho]
      exact hat.2.1
  have hall : ((clsP x.2.2.1).all fun c => (findI (l.take i) c).isSome) = true := List.all_eq_true.2 fun c hc => findI_css.2 (hat.2.2 c hc)
  unfold addP
  rw [if_pos (tab_take h i), if_pos (of_decide_eq_true hat.1), if_pos hall, hn, ho, List.take_add_one, hx]
  rfl
end Go.Proofs.Ytidiepbmbbflhaa
end
section
namespace Go.Proofs.Ytidiepbmbbflhaa
open Go Go.RowKit Go.Maps
set_option maxRecDepth 100000
theorem placeH_in {H : Type} [DecidableEq H] {l : List H} {c : H} {p : Nat} (h : placeH l c = (p : Int)) : c ∈ l := by
  unfold placeH at h
  split at h
  · assumption
  · omega
/-- what is needed is closed -/
theorem needs_closed9 {H : Type} [DecidableEq H] {l : List (Dr.It H)} (hr : Dr.Right l) {k : H} {y : Dr.It H} (hy : y ∈ l) (hm : y.cls ∈ Dr.needsP l k) : ∀ c ∈ y.ins, c ∈ Dr.needsP l k := fun c hc => by
  obtain ⟨i, hi⟩ := List.getElem?_of_mem hm
  obtain ⟨n, z, hz, h1, h2, _⟩ := part_plain hr hi
  have e := Dr.eq_of_cls hr (List.mem_of_getElem? hz) hy h1
  rw [e] at h2
  obtain ⟨⟨p, hp, _⟩, _⟩ := h2 c hc
  exact placeH_in hp
/-- which are kept -/
def askP (l : List Itm) (keep : List Hsh) (c : Hsh) : Bool := keep.any fun k => decide (c ∈ needsL l k)
def keepP (l : List Itm) (keep : List Hsh) : List Itm := l.filter fun x => askP l keep x.1
theorem ask_iff {l : List Itm} {keep : List Hsh} {c : Hsh} : askP l keep c = true ↔ ∃ k ∈ keep, c ∈ needsL l k := by
  unfold askP
  rw [List.any_eq_true]
  exact ⟨fun ⟨k, h1, h2⟩ => ⟨k, h1, of_decide_eq_true h2⟩, fun ⟨k, h1, h2⟩ => ⟨k, h1, decide_eq_true h2⟩⟩
theorem keep_mem {l : List Itm} {keep : List Hsh} {x : Itm} : x ∈ keepP l keep ↔ x ∈ l ∧ ∃ k ∈ keep, x.1 ∈ needsL l k := by
  unfold keepP
  rw [List.mem_filter, ask_iff]
theorem needsL_at {l : List Itm} (hr : Dr.rightP (l.map itP) = true) {k h : Hsh} (hm : h ∈ needsL l k) : k ∈ Dr.css (l.map itP) ∧ h ∈ Dr.needsP (l.map itP) k := by
  unfold needsL at hm
  rw [if_pos hr] at hm
  split at hm
  · rename_i hk
    exact ⟨known_mem hk, hm⟩
  · cases hm
variable {hof : Drv → Hsh}
theorem keep_tab {l : List Itm} (h : tabP hof l = true) (keep : List Hsh) : tabP hof (keepP l keep) = true := by
  have hr := tab_right h
  have hR := (Dr.rightP_iff _).1 hr
  unfold tabP
  rw [Bool.and_eq_true, List.all_eq_true]
  refine ⟨?_, fun x hx => decide_eq_true (tab_of h (keep_mem.1 hx).1)⟩
  have e : (keepP l keep).map itP = (l.map itP).filter fun y => askP l keep y.cls := by
    unfold keepP
    rw [List.filter_map]
    rfl
  rw [e]
  refine Dr.rightP_filter (askP l keep) hr fun y hy hq c hc => ?_
  obtain ⟨k, hk, hm⟩ := ask_iff.1 hq
  obtain ⟨h1, h2⟩ := needsL_at hr hm
  exact ask_iff.2 ⟨k, hk, by rw [(needs_known hr h1).2]; exact needs_closed9 hR hy h2 c hc⟩
theorem keep_find {l : List Itm} (h : tabP hof l = true) {keep : List Hsh} {k : Hsh} (hk : k ∈ keep) : (findI (keepP l keep) k).isSome = (findI l k).isSome := by
  have hr := tab_right h
  cases e : (findI l k).isSome with
  | true =>
    have hc := findI_css.1 e
    obtain ⟨x, hx, rfl⟩ := css_mem hc
    have hself : x.1 ∈ needsL l x.1 := by
      have := (last_is hr hc rfl).2
      exact List.mem_of_getElem? this
    exact findI_css.2 (List.mem_map.2 ⟨itP x, List.mem_map.2 ⟨x, keep_mem.2 ⟨hx, x.1, hk, hself⟩, rfl⟩, rfl⟩)
  | false =>
    cases e2 : (findI (keepP l keep) k).isSome with
    | false => rfl
    | true =>
      obtain ⟨x, hx, rfl⟩ := css_mem (findI_css.1 e2)
      have h9 : (findI l x.1).isSome = true := findI_css.2 (List.mem_map.2 ⟨itP x, List.mem_map.2 ⟨x, (keep_mem.1 hx).1, rfl⟩, rfl⟩)
      rw [h9] at e
      cases e
/-- what is kept, and was not asked for, is used -/
theorem keep_used {l : List Itm} (h : tabP hof l = true) {keep : List Hsh} {x : Itm} (hx : x ∈ keepP l keep) (hn : x.1 ∉ keep) : 0 < (Dr.usersP ((keepP l keep).map itP) x.1).length := by
  have hr := tab_right h
  have hR := (Dr.rightP_iff _).1 hr
  obtain ⟨hxl, k, hk, hm⟩ := keep_mem.1 hx
  obtain ⟨hkc, hm2⟩ := needsL_at hr hm
  obtain ⟨i, hi⟩ := List.getElem?_of_mem hm2
  have hlast := Dr.needs_last hR hkc
  have hil := (List.getElem?_eq_some_iff.1 hi).1
  have hi2 : i + 1 < (Dr.needsP (l.map itP) k).length := by
    rcases Nat.lt_or_ge (i + 1) (Dr.needsP (l.map itP) k).length with h1 | h1
    · exact h1
    · have e : i = (Dr.needsP (l.map itP) k).length - 1 := by omega
      rw [e, hlast.2] at hi
      injection hi with hi
      rw [hi] at hk
      exact absurd hk hn
  obtain ⟨j, y, hj, hy, hin⟩ := Dr.needs_used hR hkc hi2 hi
  obtain ⟨z, hz, rfl⟩ := List.mem_map.1 hy
  have hzk : z ∈ keepP l keep := keep_mem.2 ⟨hz, k, hk, by rw [(needs_known hr hkc).2]; exact List.mem_of_getElem? hj⟩
  have hu : z.1 ∈ Dr.usersP ((keepP l keep).map itP) x.1 := Dr.mem_users.2 ⟨itP z, List.mem_map.2 ⟨z, hzk, rfl⟩, hin, rfl⟩
  exact List.length_pos_of_mem hu
/-- where each one stands -/
def posI (l : List Itm) (x : Itm) : Nat := posD (l.map itP) x.1
theorem pos_at {l : List Itm} (hr : Dr.Right (l.map itP)) {i : Nat} {x : Itm} (hx : l[i]? = some x) : posI l x = i :=
  Dr.idx_at hr (n := i) (x := itP x) (by rw [List.getElem?_map, hx]; rfl)
theorem pos_lt {l : List Itm} (hr : Dr.Right (l.map itP)) {x : Itm} (hx : x ∈ l) : l[posI l x]? = some x := by
  obtain ⟨i, hi⟩ := List.getElem?_of_mem hx
  rw [pos_at hr hi]
  exact hi
theorem keep_order {l : List Itm} (hr : Dr.Right (l.map itP)) (keep : List Hsh) {i : Nat} {x y : Itm} (hx : (keepP l keep)[i]? = some x) (hy : (keepP l keep)[i + 1]? = some y) : posI l x < posI l y := by
  have hp : l.Pairwise fun a b => posI l a < posI l b := by
    rw [List.pairwise_iff_getElem]
    intro i j hi hj hij
    rw [pos_at hr (List.getElem?_eq_getElem hi), pos_at hr (List.getElem?_eq_getElem hj)]
    exact hij
  have h2 : (keepP l keep).Pairwise fun a b => posI l a < posI l b := hp.sublist List.filter_sublist
  rw [List.pairwise_iff_getElem] at h2
  obtain ⟨a1, a2⟩ := List.getElem?_eq_some_iff.1 hx
  obtain ⟨b1, b2⟩ := List.getElem?_eq_some_iff.1 hy
  have := h2 i (i + 1) a1 b1 (by omega)
  rwa [a2, b2] at this
/-! all that there was, added again -/
structure AgainP (hof : Drv → Hsh) (l : List Itm) (i : Nat) (g : List Itm) : Prop where
  tab : tabP hof g = true
  sub : ∀ x ∈ g, x ∈ l
  all : ∀ x ∈ l.take i, x ∈ g
theorem again_keep {l : List Itm} (h : tabP hof l = true) (keep : List Hsh) : AgainP hof l 0 (keepP l keep) :=
  ⟨keep_tab h keep, fun x hx => (keep_mem.1 hx).1, fun x hx => by simp at hx⟩
theorem again_step {l g : List Itm} {i : Nat} {x : Itm} (h : tabP hof l = true) (ha : AgainP hof l i g) (hx : l[i]? = some x) : ∃ next, addP hof g x.2 = (next, x.1, 0) ∧ AgainP hof l (i + 1) next := by
  have hr := tab_right h
  have hat := Dr.rightP_at hr (i := i) (x := itP x) (by rw [List.getElem?_map, hx]; rfl)
  rw [← List.map_take] at hat
  have hxm := List.mem_of_getElem? hx
  have ho := tab_of h hxm
  have hcl : ∀ c ∈ clsP x.2.2.1, c ∈ Dr.css (g.map itP) := fun c hc => by
    obtain ⟨y, hy, rfl⟩ := css_mem (hat.2.2 c hc)
    exact List.mem_map.2 ⟨itP y, List.mem_map.2 ⟨y, ha.all y hy, rfl⟩, rfl⟩
  have hall : ((clsP x.2.2.1).all fun c => (findI g c).isSome) = true := List.all_eq_true.2 fun c hc => findI_css.2 (hcl c hc)
  have htk : ∀ (next : List Itm), (∀ y ∈ g, y ∈ next) → x ∈ next → ∀ y ∈ l.take (i + 1), y ∈ next := fun next h1 h2 y hy => by
    rw [List.take_add_one, hx] at hy
    rcases List.mem_append.1 hy with hy | hy
    · exact h1 y (ha.all y hy)
    · rw [show y = x by simpa using hy]; exact h2
  cases e : findI g (hof x.2) with
  | some y =>
    obtain ⟨hy, hc⟩ := findI_some e
    have hyx : y = x := by
      have h1 := findI_at hr (ha.sub y hy)
      have h2 := findI_at hr hxm
      rw [hc, ho, h2] at h1
      exact (Option.some.inj h1).symm
    refine ⟨g, ?_, ha.tab, ha.sub, htk g (fun _ h => h) (hyx ▸ hy)⟩
    unfold addP
    rw [if_pos ha.tab, if_pos (of_decide_eq_true hat.1), if_pos hall, e]
    dsimp only
    rw [if_pos (by rw [hyx]), ho]
  | none =>
    have ht := tab_snoc ha.tab (of_decide_eq_true hat.1) hcl e
    have ex : (hof x.2, x.2) = x := by rw [ho]
    rw [ex] at ht
    refine ⟨g ++ [x], ?_, ht, fun y hy => ?_, htk _ (fun y hy => List.mem_append_left _ hy) (by simp)⟩
    · unfold addP
      rw [if_pos ha.tab, if_pos (of_decide_eq_true hat.1), if_pos hall, e]
      dsimp only
      rw [ex, ho]
    · rcases List.mem_append.1 hy with hy | hy
      · exact ha.sub y hy
      · rw [List.mem_singleton.1 hy]; exact hxm
theorem nodup_le {α : Type} [DecidableEq α] : ∀ {a b : List α}, a.Nodup → (∀ x ∈ a, x ∈ b) → a.length ≤ b.length
  | [], b, _, _ => Nat.zero_le _
  | x :: a, b, hn, hs => by
    obtain ⟨h1, h2⟩ := List.nodup_cons.1 hn
    have hx := hs x (List.mem_cons_self ..)
    have h3 : a.length ≤ (b.erase x).length := nodup_le h2 fun y hy => (List.mem_erase_of_ne (fun e => h1 (by rw [← e]; exact hy))).2 (hs y (List.mem_cons_of_mem _ hy))
    rw [List.length_erase_of_mem hx] at h3
    have := List.length_pos_of_mem hx
    rw [List.length_cons]
    omega
theorem again_len {l g : List Itm} (h : tabP hof l = true) (ha : AgainP hof l l.length g) : g.length = l.length := by
  have n1 := ((Dr.rightP_iff _).1 (tab_right h)).nodup
  have n2 := ((Dr.rightP_iff _).1 (tab_right ha.tab)).nodup
  have e : ∀ q : List Itm, (Dr.css (q.map itP)).length = q.length := css_len
  have h1 := nodup_le n1 (b := Dr.css (g.map itP)) fun c hc => by
    obtain ⟨x, hx, rfl⟩ := css_mem hc
    exact List.mem_map.2 ⟨itP x, List.mem_map.2 ⟨x, ha.all x (by rw [List.take_length]; exact hx), rfl⟩, rfl⟩
  have h2 := nodup_le n2 (b := Dr.css (l.map itP)) fun c hc => by
    obtain ⟨x, hx, rfl⟩ := css_mem hc
    exact List.mem_map.2 ⟨itP x, List.mem_map.2 ⟨x, ha.sub x hx, rfl⟩, rfl⟩
  rw [e, e] at h1 h2
  omega
end Go.Proofs.Ytidiepbmbbflhaa
end
section
namespace Go.Proofs.Ytidiepbmbbflhaa
open Go Go.RowKit Go.Maps
set_option maxRecDepth 100000
/-- a derivation's class -/
def hofP (d : Drv) : Hsh := ofB [99, 108, 97, 115, 115] [(textP d).data.toList]
theorem hofP_ok (d : Drv) : okH (hofP d) := by
  show (ofB _ _).length = 20
  unfold ofB
  exact length_fold _ _
theorem text_small {d : Drv} (h : putE d = 0) : (textP d).size ≤ 2000 := by
  unfold putE at h
  split at h
  · split at h
    · exact absurd h (by decide)
    · omega
  · exact absurd h (by decide)
theorem parts_one {w w' : World} {g cap : Nat} {s : ByteArray} (hb : Blk w' w.heap.size 32 #[.slice (some ⟨g, 0, none⟩) s.size cap]) (hs : w'.heap.size = w.heap.size + 1) (hc : s.size ≤ cap) (hg : g < w.heap.size) (hk : ∀ b, b < w.heap.size → w'.heap[b]? = w.heap[b]?) (h : BytesOf w g s) : PartsAt w' w'.heap.size (.slice (some ⟨w.heap.size, 0, none⟩) 1 1) [s.data.toList] := by
  have ht : TextAt w' 5 g s := ⟨by rw [hk g hg]; exact h.1, fun j hj => (World.cell?_of_block (hk g hg)).trans (h.2 j hj)⟩
  refine ⟨_, 1, rfl, Nat.le_refl _, fun _ => ⟨w.heap.size, 0, rfl, by omega, fun j hj => ?_⟩⟩
  have hj0 : j = 0 := by simp at hj; omega
  subst hj0
  exact ⟨_, hb.cell 0, (TB.of_text (base := 0) hc (by omega) ht).bytes⟩
set_option maxHeartbeats 1000000 in
theorem of_ok (w : World) (d : Drv) (v1 v2 : Value) (h : DrvAt w w.heap.size d v1 v2) (hp : putE d = 0) :
    Calls Try.prog 22 #[.agg (dC d v1 v2).toArray] w fun e w' => e = .returned (.agg (bv (hofP d)).toArray) ∧ Below w.heap.size w w' := by
  go_enter Try.func22, Try.ntmps22
  go_wp2_with (first | ((with_reducible refine at_slot 1 ?_); (refine wpList_boxA (o := ⟨some 1, _, _, _, _, _⟩) rfl 34 (.tmp 0) rfl (dC d v1 v2).toArray rfl ?_); intro w1 hn; have H1 := hide hn; clear hn; simp only [Act.put, List.setIfInBounds_toArray, List.set_cons_zero, List.set_cons_succ]) | ((with_reducible refine at_slot 2 ?_); (refine wpList_newZ (o := ⟨some 2, _, _, _, _, _⟩) rfl 27 zcH (by kernel_rfl) ?_); intro w2 hn; have H2 := hide (And.intro (H1.out.blk.below hn.below H1.out.blk.lt) (And.intro hn.blk (And.intro (H1.out.below.trans (Below.mono hn.below H1.out.below.size)) (show w.heap.size < w1.heap.size by have := H1.out.size; omega)))); clear hn; simp only [Act.put, List.setIfInBounds_toArray, List.set_cons_zero, List.set_cons_succ]) | ((with_reducible refine at_slot 3 ?_); (refine wpList_value (o := ⟨some 3, _, _, _, _, _⟩) rfl (.agg ((dC d v1 v2).toArray)) w2 (exec_load_blk (o := ⟨some 3, _, _, _, _, _⟩) 34 (.tmp 1) rfl w.heap.size rfl 34 _ _ w2 H2.out.1 Try.underlying34 rfl (by kernel_rfl)) ?_)))
  refine (written_ok w2 d v1 v2 (h.alike9 H2.out.2.2.1) hp).mono ?_
  rintro e w3 ⟨g, cap, rfl, k1, k2, k3, k4, hb⟩
  dsimp only
  have H3 := hide (And.intro (H2.out.2.1.below hb H2.out.2.1.lt) (And.intro k1 (And.intro k2 (And.intro k4 (H2.out.2.2.1.trans (Below.mono hb H2.out.2.2.1.size))))))
  clear k1 k2 k3 k4 hb
  go_wp2_with (first | ((with_reducible refine at_slot 5 ?_); (refine wpList_row1 (o := ⟨some 5, _, _, _, _, _⟩) rfl 88 (.tmp 4) rfl 32 1 (.slice none 0 0) (.slice (some ⟨g, 0, none⟩) (textP d).size cap) rfl Try.underlying88 (by kernel_rfl) (by decide) (by decide) (fun w => by kernel_rfl) rfl ?_); intro w4 hn; have H4 := hide hn; clear hn; simp only [Act.put, List.setIfInBounds_toArray, List.set_cons_zero, List.set_cons_succ]))
  have hpt := parts_one H4.out.blk H4.out.size H3.out.2.2.1 H3.out.2.2.2.1 (fun b hb => H4.out.below.block b hb) H3.out.2.1
  refine (of_any ⟨#[99, 108, 97, 115, 115]⟩ [99, 108, 97, 115, 115] rfl (by decide) [(textP d).data.toList] (by have := text_small hp; simpa using Nat.le_trans this (by decide)) (by show 1 ≤ 1000000000; decide) _ w4 w4.heap.size (Nat.le_refl _) hpt).mono ?_
  rintro e w5 ⟨rfl, hb⟩
  dsimp only
  have hb35 := H4.out.below.trans (Below.mono hb H4.out.below.size)
  have H5 := hide (And.intro (H3.out.1.below hb35 H3.out.1.lt) (H3.out.2.2.2.2.trans (Below.mono hb35 H3.out.2.2.2.2.size)))
  have hok := hofP_ok d
  have hsz := hszD hok
  have hszz : zcH.size = (bv (hofP d)).toArray.size := by rw [show (bv (hofP d)).toArray.size = 20 by rw [List.size_toArray, bvL]; exact hok]; kernel_rfl
  have hone : (bv (hofP d)).toArray.all (·.oneCell') = true := all_oneCell_toArray (bv1 _)
  clear hb hb35 hpt
  go_wp2_with (first | ((with_reducible refine at_store 2 6 ?_); (with_reducible refine wpList_store_blkA (o := ⟨none, _, _, _, _, _⟩) rfl 27 (.tmp 2) (.tmp 6) rfl w1.heap.size zcH (bv (hofP d)).toArray 27 H5.out.1 ?_ ?_ ?_ ?_ ?_ ?_); (exact hsz); (exact hszz); (exact hone); rfl; rfl; intro w9 hk9 hg9; have H9 := hide (And.intro hk9 (H5.out.2.grown hg9 H5.out.2.size (fun b hb => by have := Option.some.inj hb; have := H2.out.2.2.2; omega))); clear hk9 hg9; simp only [Act.put, List.setIfInBounds_toArray, List.set_cons_zero, List.set_cons_succ]))
  refine bodyPost_ret (results_cell_row rfl _ _ w1.heap.size 27 (bv (hofP d)).toArray (0, 0) _ rfl H9.out.1 Try.underlying27 rfl hsz) rfl ⟨rfl, H9.out.2⟩
set_option maxHeartbeats 1000000 in
theorem of_no (w : World) (d : Drv) (v1 v2 : Value) (h : DrvAt w w.heap.size d v1 v2) (hp : ¬ putE d = 0) :
    Calls Try.prog 22 #[.agg (dC d v1 v2).toArray] w fun e w' => e = .panicked [{ v := thrown (putE d), recovered := false }] ∧ Below w.heap.size w w' := by
  go_enter Try.func22, Try.ntmps22
  go_wp2_with (first | ((with_reducible refine at_slot 1 ?_); (refine wpList_boxA (o := ⟨some 1, _, _, _, _, _⟩) rfl 34 (.tmp 0) rfl (dC d v1 v2).toArray rfl ?_); intro w1 hn; have H1 := hide hn; clear hn; simp only [Act.put, List.setIfInBounds_toArray, List.set_cons_zero, List.set_cons_succ]) | ((with_reducible refine at_slot 2 ?_); (refine wpList_newZ (o := ⟨some 2, _, _, _, _, _⟩) rfl 27 zcH (by kernel_rfl) ?_); intro w2 hn; have H2 := hide (And.intro (H1.out.blk.below hn.below H1.out.blk.lt) (And.intro hn.blk (And.intro (H1.out.below.trans (Below.mono hn.below H1.out.below.size)) (show w.heap.size < w1.heap.size by have := H1.out.size; omega)))); clear hn; simp only [Act.put, List.setIfInBounds_toArray, List.set_cons_zero, List.set_cons_succ]) | ((with_reducible refine at_slot 3 ?_); (refine wpList_value (o := ⟨some 3, _, _, _, _, _⟩) rfl (.agg ((dC d v1 v2).toArray)) w2 (exec_load_blk (o := ⟨some 3, _, _, _, _, _⟩) 34 (.tmp 1) rfl w.heap.size rfl 34 _ _ w2 H2.out.1 Try.underlying34 rfl (by kernel_rfl)) ?_)))
  refine (written_no w2 d v1 v2 (h.alike9 H2.out.2.2.1) hp).mono ?_
  rintro e w3 ⟨rfl, hb⟩
  dsimp only
  change bodyPost Try.prog Try.f22 _ _ _ _
  simp only [bodyPost]
  exact ⟨trivial, trivial, H2.out.2.2.1.trans (Below.mono hb H2.out.2.2.1.size)⟩
end Go.Proofs.Ytidiepbmbbflhaa
end
section
namespace Go.Proofs.Ytidiepbmbbflhaa
open Go Go.RowKit Go.Maps
set_option maxRecDepth 100000
set_option maxHeartbeats 1000000 in
theorem table1_any (w : World) (x : Itm) (v1 v2 : Value) (hx : okH x.1) (h : DrvAt w w.heap.size x.2 v1 v2) (hp : putE x.2 = 0) :
    Calls Try.prog 26 #[.agg (tC x v1 v2).toArray] w fun e w' => e = .returned (.bool (!decide (hofP x.2 = x.1))) ∧ Below w.heap.size w w' := by
  go_enter Try.func26, Try.ntmps26
  go_wp2_with (first | ((with_reducible refine at_slot 1 ?_); (refine wpList_boxA (o := ⟨some 1, _, _, _, _, _⟩) rfl 43 (.tmp 0) rfl (tC x v1 v2).toArray rfl ?_); intro w1 hn; have H1 := hide hn; clear hn; simp only [Act.put, List.setIfInBounds_toArray, List.set_cons_zero, List.set_cons_succ]))
  have hat : DrvAt w1 w1.heap.size x.2 v1 v2 := h.alike9 H1.out.below
  have HAT := hide hat
  have hr := rangeAt_blk H1.out.blk
  have HR := hide hr
  have hg1 := H1.out.blk.lt
  have hszx := hszD hx
  have hszx1 : (Try.prog.info? 27).map (·.size) = some (bv x.1).length := by simpa using hszx
  clear hat hr hszx
  refine Fre.wp_made (X := Bel) 6 [] (by kernel_rfl) (by kernel_rfl) (by simp) (by simp) (by simp) ?_
  simp only [List.take_succ_cons, List.take_zero, List.drop_succ_cons, List.drop_zero]
  refine Fre.made_val (.pointer (some ⟨w.heap.size, 20, none⟩)) (by kernel_rfl) (by kernel_rfl) (by kernel_rfl) (fun _ _ => by kernel_rfl) ?_
  simp only [Act.put, List.setIfInBounds_toArray, List.set_cons_zero, List.set_cons_succ]
  refine Fre.made_val (.agg (dC x.2 v1 v2).toArray) (by kernel_rfl) (by kernel_rfl) (by kernel_rfl) (fun W9 hW9 => exec_load_mid (o := ⟨some 4, _, _, _, _, _⟩) 34 (.tmp 3) rfl w.heap.size 20 rfl (dC x.2 v1 v2) _ W9 (rangeAt_same (item_drv hx H1.out.blk) (Below.block hW9 _ hg1)) Try.underlying34 rfl (by kernel_rfl)) ?_
  simp only [Act.put, List.setIfInBounds_toArray, List.set_cons_zero, List.set_cons_succ]
  refine Fre.made_call (.agg (bv (hofP x.2)).toArray) 22 #[.agg (dC x.2 v1 v2).toArray] (by kernel_rfl) (by kernel_rfl) (by kernel_rfl) (fun W9 => by kernel_rfl) (fun W9 hW9 => of_ok W9 x.2 v1 v2 (HAT.out.alike9 hW9) hp) ?_
  simp only [Act.put, List.setIfInBounds_toArray, List.set_cons_zero, List.set_cons_succ]
  refine Fre.made_val (.pointer (some ⟨w.heap.size, 0, none⟩)) (by kernel_rfl) (by kernel_rfl) (by kernel_rfl) (fun _ _ => by kernel_rfl) ?_
  simp only [Act.put, List.setIfInBounds_toArray, List.set_cons_zero, List.set_cons_succ]
  refine Fre.made_val (.agg (bv x.1).toArray) (by kernel_rfl) (by kernel_rfl) (by kernel_rfl) (fun W9 hW9 => exec_load_mid (o := ⟨some 7, _, _, _, _, _⟩) 27 (.tmp 6) rfl w.heap.size 0 rfl (bv x.1) _ W9 (rangeAt_same (item_cls hx H1.out.blk) (Below.block hW9 _ hg1)) Try.underlying27 rfl hszx1) ?_
  simp only [Act.put, List.setIfInBounds_toArray, List.set_cons_zero, List.set_cons_succ]
  refine Fre.made_val (.bool (!decide (hofP x.2 = x.1))) (by kernel_rfl) (by kernel_rfl) (by kernel_rfl) (fun W9 hW9 => exec_binop_agg (o := ⟨some 8, _, _, _, _, _⟩) .neq 27 (.tmp 5) (.tmp 7) _ rfl (bv (hofP x.2)).toArray (bv x.1).toArray rfl rfl (by kernel_rfl) _ (fun W => bin_neq_hash (hofP x.2) x.1 (hofP_ok _) hx W) W9) ?_
  simp only [Act.put, List.setIfInBounds_toArray, List.set_cons_zero, List.set_cons_succ]
  intro wx hx9
  have HX := hide (H1.out.below.trans (Below.mono hx9 H1.out.below.size))
  clear hx9
  dsimp only [Fre.ended, List.drop]
  go_wp2_with fail
  go_ret
  exact ⟨rfl, HX.out⟩
set_option maxHeartbeats 400000 in
theorem index_any9 (w : World) (l : List Itm) (A : Option Addr) (cap : Nat) (h : itmsLay.At w w.heap.size [.slice A l.length cap] l) (f : Itm → Bool) (hcl : ∀ (W : World) (x : Itm) (v1 v2 : Value), x ∈ l → DrvAt W W.heap.size x.2 v1 v2 → okH x.1 → Calls Try.prog 26 #[.agg (tC x v1 v2).toArray] W fun e w' => e = .returned (.bool (f x)) ∧ Below W.heap.size W w') :
    Calls Try.prog 42 #[.slice A l.length cap, .func (.func 26) #[] #[]] w fun e w' => ∃ r : Int, e = .returned (.int .i64 r) ∧ decide (0 ≤ r) = l.any f ∧ Below w.heap.size w w' := by
  obtain ⟨A', cap', e, hcl', hcm9, _, hA⟩ := slice_open h
  injection e with e1 e2 e3
  subst e1 e3
  have k9 : (l.length : Int) ≤ 9223372036854775807 := by simp only [maxLen] at hcm9; omega
  have HA := hide hA
  have hcl9 := hide hcl
  clear hA hcl' hcm9 e2 h hcl
  go_enter Try.func42, Try.ntmps42
  go_wp2_with fail
  go_loopw [8] (fun x8 wr => ∃ j : Nat, j ≤ l.length ∧ x8 = .int .i64 (j : Int) ∧ (∀ y ∈ l.take j, f y = false) ∧ Below w.heap.size w wr) (fun x8 _ => l.length - (intOf x8).toNat)
  case atStart => exact ⟨0, by omega, rfl, (fun y hy => by simp at hy), Below.refl _ _⟩
  case round =>
    obtain ⟨wo, rfl⟩ : ∃ wo, wo = wr := ⟨_, rfl⟩
    obtain ⟨j, hj, rfl, hall, hb⟩ := hrel
    have HB := hide (And.intro hall hb)
    clear hall hb
    have j0 : (0 : Int) ≤ (j : Int) := by omega
    by_cases hj2 : j < l.length
    · have j1 : (j : Int) < (l.length : Int) := by omega
      obtain ⟨x, hx⟩ : ∃ x, l[j]? = some x := ⟨_, List.getElem?_eq_getElem hj2⟩
      obtain ⟨b, off, rfl, hlb, hE⟩ := HA.out (by omega)
      obtain ⟨cs, hr, hatx⟩ := hE j x hx
      obtain ⟨q1, q2, rfl, hxo, hxd⟩ := itmLay_at.1 hatx
      obtain ⟨B1, k1, rfl, _⟩ := slice_open hxd.ins
      obtain ⟨B2, k2, rfl, _⟩ := slice_open hxd.rcp
      obtain ⟨q1, hq1⟩ : ∃ q1, q1 = Value.slice B1 x.2.2.1.length k1 := ⟨_, rfl⟩
      obtain ⟨q2, hq2⟩ : ∃ q2, q2 = Value.slice B2 x.2.2.2.length k2 := ⟨_, rfl⟩
      have hone1 : q1.oneCell' = true ∧ q2.oneCell' = true := by rw [hq1, hq2]; exact ⟨rfl, rfl⟩
      rw [← hq1, ← hq2] at hr hatx
      rw [← hq1, ← hq2] at hxd
      have HX := hide (And.intro (rangeAt_same hr (HB.out.2.block b (by omega))) (And.intro hxo hxd))
      have HXX := hide hx
      have hszt2 : (Try.prog.info? 43).map (·.size) = some (tC x q1 q2).toArray.size := by rw [show (tC x q1 q2).toArray.size = 23 by rw [List.size_toArray]; exact tC_len hxo]; kernel_rfl
      have hszt : (Try.prog.info? 43).map (·.size) = some (tC x q1 q2).length := by simpa using hszt2
      have hszzt : zcT.size = (tC x q1 q2).toArray.size := by rw [show (tC x q1 q2).toArray.size = 23 by rw [List.size_toArray]; exact tC_len hxo]; kernel_rfl
      have honet : (tC x q1 q2).toArray.all (·.oneCell') = true := all_oneCell_toArray (tC_one x hone1.1 hone1.2)
      have hszx : (Try.prog.info? 27).map (·.size) = some (bv x.1).length := by have := hszD hxo; simpa using this
      have hszx2 := hszD hxo
      clear hx hE hr hatx hxd hq1 hq2
      go_wp2_with (first | ((with_reducible refine at_slot 14 ?_); (refine wpList_value (o := ⟨some 14, _, _, _, _, _⟩) rfl (.pointer (some ⟨b, off + (j : Int).toNat * 23, none⟩)) wo (exec_index_off (o := ⟨some 14, _, _, _, _, _⟩) 25 43 (.tmp 12) (.tmp 13) rfl b off l.length cap (j : Int) .i64 rfl rfl ⟨j0, j1⟩ 23 Try.underlying25 sz_itm wo) ?_; rw [show off + (j : Int).toNat * 23 = off + j * 23 by omega])) | ((with_reducible refine at_slot 15 ?_); (refine wpList_value (o := ⟨some 15, _, _, _, _, _⟩) rfl (.agg (tC x q1 q2).toArray) wo (exec_load_mid (o := ⟨some 15, _, _, _, _, _⟩) 43 (.tmp 14) rfl b (off + j * 23) rfl (tC x q1 q2) _ wo HX.out.1 Try.underlying43 rfl hszt) ?_)))
      refine (hcl9.out wo x q1 q2 (List.mem_of_getElem? HXX.out) (HX.out.2.2.alike9 HB.out.2) HX.out.2.1).mono ?_
      rintro e w9 ⟨rfl, hb⟩
      dsimp only
      have H9 := hide (HB.out.2.trans (Below.mono hb HB.out.2.size))
      clear hb
      cases he : f x
      · have HE := hide he
        clear he
        go_wp2_with fail
        go_roundw
        case rel => exact ⟨j + 1, by omega, by go_num, (fun y hy => by rw [List.take_add_one, HXX.out] at hy; rcases List.mem_append.1 hy with hy | hy; exact HB.out.1 y hy; rw [show y = x from by simpa using hy]; exact HE.out), H9.out⟩
        case measure => simp [intOf]; omega
      · have hany : l.any f = true := List.any_eq_true.2 ⟨x, List.mem_of_getElem? HXX.out, he⟩
        have HE := hide hany
        clear he hany
        go_wp2_with fail
        go_ret
        exact ⟨j, rfl, by rw [HE.out]; exact decide_eq_true j0, H9.out⟩
    · obtain rfl : j = l.length := by omega
      have hany : l.any f = false := by
        rw [List.any_eq_false]
        intro y hy
        rw [HB.out.1 y (by rw [List.take_length]; exact hy)]
        decide
      have HE := hide hany
      clear hany
      go_wp2_with fail
      go_ret
      exact ⟨-1, rfl, by rw [HE.out]; rfl, HB.out.2⟩
theorem contains_any9 (w : World) (l : List Itm) (A : Option Addr) (cap : Nat) (h : itmsLay.At w w.heap.size [.slice A l.length cap] l) (f : Itm → Bool) (hcl : ∀ (W : World) (x : Itm) (v1 v2 : Value), x ∈ l → DrvAt W W.heap.size x.2 v1 v2 → okH x.1 → Calls Try.prog 26 #[.agg (tC x v1 v2).toArray] W fun e w' => e = .returned (.bool (f x)) ∧ Below W.heap.size W w') :
    Calls Try.prog 25 #[.slice A l.length cap, .func (.func 26) #[] #[]] w fun e w' => e = .returned (.bool (l.any f)) ∧ Below w.heap.size w w' := by
  go_enter Try.func25, Try.ntmps25
  go_wp2_with fail
  refine (index_any9 w l A cap h f hcl).mono ?_
  rintro e w9 ⟨r, rfl, hr, hb⟩
  dsimp only
  by_cases h0 : 0 ≤ r
  · rw [decide_eq_true h0] at hr
    have HR := hide hr
    clear hr
    go_wp2_with fail
    go_ret
    exact ⟨by rw [← HR.out]; rfl, hb⟩
  · rw [decide_eq_false h0] at hr
    have HR := hide hr
    clear hr
    go_wp2_with fail
    go_ret
    exact ⟨by rw [← HR.out]; rfl, hb⟩
theorem right_put {l : List Itm} (h : Dr.rightP (l.map itP) = true) : ∀ x ∈ l, putE x.2 = 0 := fun x hx => by
  obtain ⟨i, hi⟩ := List.getElem?_of_mem hx
  exact of_decide_eq_true (Dr.rightP_at h (i := i) (x := itP x) (by rw [List.getElem?_map, hi]; rfl)).1
theorem tab_eq {l : List Itm} (h : Dr.rightP (l.map itP) = true) : tabP hofP l = !(l.any fun y => !decide (hofP y.2 = y.1)) := by
  unfold tabP
  rw [h, Bool.true_and, List.all_eq_not_any_not]
/-- class.Table -/
theorem table_any (w : World) (l : List Itm) (A : Option Addr) (cap : Nat) (h : itmsLay.At w w.heap.size [.slice A l.length cap] l) (hl : ∀ x ∈ l, x.2.2.1.length ≤ 1000000) :
    Calls Try.prog 10 #[.slice A l.length cap] w fun e w' => e = .returned (.bool (tabP hofP l)) ∧ Below w.heap.size w w' := by
  go_enter Try.func10, Try.ntmps10
  go_wp2_with fail
  refine (right_any w l A cap h hl).mono ?_
  rintro e w2 ⟨rfl, hb⟩
  dsimp only
  have H2 := hide hb
  clear hb
  cases hrt : Dr.rightP (l.map itP)
  · have ht : tabP hofP l = false := by unfold tabP; rw [hrt]; rfl
    have HT := hide ht
    clear ht hrt
    go_wp2_with fail
    go_ret
    exact ⟨by rw [HT.out]; rfl, H2.out⟩
  · have hp : ∀ x ∈ l, putE x.2 = 0 := right_put hrt
    have ht : tabP hofP l = !(l.any fun y => !decide (hofP y.2 = y.1)) := tab_eq hrt
    have HT := hide ht
    clear ht hrt
    go_wp2_with fail
    refine (contains_any9 w2 l A cap (itms_alike h H2.out) (fun y => !decide (hofP y.2 = y.1)) (fun W y u1 u2 hy hat ho => table1_any W y u1 u2 ho hat (hp y hy))).mono ?_
    rintro e w3 ⟨rfl, hb⟩
    dsimp only
    have H3 := hide (H2.out.trans (Below.mono hb H2.out.size))
    clear hb
    cases hq : (l.any fun y => !decide (hofP y.2 = y.1))
    · have HQ := hide hq
      clear hq
      go_wp2_with fail
      go_ret
      exact ⟨by rw [HT.out, HQ.out]; rfl, H3.out⟩
    · have HQ := hide hq
      clear hq
      go_wp2_with fail
      go_ret
      exact ⟨by rw [HT.out, HQ.out]; rfl, H3.out⟩
end Go.Proofs.Ytidiepbmbbflhaa
end
section
namespace Go.Proofs.Ytidiepbmbbflhaa
open Go Go.RowKit Go.Maps
set_option maxRecDepth 100000
set_option maxHeartbeats 400000 in
theorem cloneN_any (w : World) (l : List Nam) (v : Value) (h : namsLay.At w w.heap.size [v] l) (hl : l.length ≤ 1000000) :
    Calls Try.prog 49 #[v] w fun e w' => ∃ u, e = .returned u ∧ w'.ownsRow w.heap.size 72 43 u l.length (l.flatMap nC) ∧ Below w.heap.size w w' := by
  obtain ⟨inm, hih, hq0, hq1, hq2⟩ := info_parts info_namI
  have HJ := hide (And.intro hih (And.intro hq0 (And.intro hq1 hq2)))
  clear hih hq0 hq1 hq2
  obtain ⟨A, cap, rfl, h1, h2, h3, _⟩ := slice_open h
  cases A with
  | none =>
    have hc0 := h3 rfl
    obtain rfl : l = [] := List.eq_nil_of_length_eq_zero (by omega)
    subst hc0
    clear h1 h2 h3
    go_enter Try.func49, Try.ntmps49
    go_wp2_with (first | ((with_reducible refine at_slot 4 ?_); (refine wpList_value (o := ⟨some 4, _, _, _, _, _⟩) rfl (.bool true) w (by kernel_rfl) ?_)))
    go_ret
    exact ⟨_, rfl, World.ownsRow_nil _ _ _ _, Below.refl _ _⟩
  | some ad =>
    clear h1 h2 h3
    have hs0 := (slice_src (L := namLay) (f := nC) (by decide) (fun {w B cs x} h => (namLay_at.1 h).1) (fun x u hu => nC_one x u hu) h).2
    have HS := hide hs0
    clear hs0
    go_enter Try.func49, Try.ntmps49
    go_wp2_with (first | ((with_reducible refine at_slot 4 ?_); (refine wpList_value (o := ⟨some 4, _, _, _, _, _⟩) rfl (.bool false) w (by kernel_rfl) ?_)) | ((with_reducible refine at_slot 5 ?_); (refine wpList_newS (o := ⟨some 5, _, _, _, _, _⟩) rfl 0 72 #[] (by kernel_rfl) ?_); intro w1 hn; have hown : w1.ownsRow w.heap.size 72 43 (.slice (some ⟨w.heap.size, 0, none⟩) 0 0) 0 [] := ⟨rfl, .inr ⟨w.heap.size, 0, #[], rfl, Nat.le_refl _, hn.blk, Nat.le_refl _, Nat.zero_le _, rfl, rfl⟩⟩; have H1 := hide (And.intro hown (And.intro hn.below hn.size)); clear hn hown; simp only [Act.put, List.setIfInBounds_toArray, List.set_cons_zero, List.set_cons_succ]) | (at_builtin; ((with_reducible refine at_slot 7 ?_); refine wpList_appS (o := ⟨some 7, _, _, _, _, _⟩) rfl _ _ 31 rfl w.heap.size 72 inm _ 43 80 Try.underlying31 HJ.out.1 HJ.out.2.1 HJ.out.2.2.1 HJ.out.2.2.2 rfl (by decide) _ (0) ([]) H1.out.1 (some ad) l.length cap (l.flatMap nC) (HS.out.below H1.out.2.1) ?hm1 ?hb1 ?hz1 rfl rfl ?_)))
    case hm1 => simp only [maxLen]; omega
    case hb1 => omega
    case hz1 => exact H1.out.2.1.size
    intro u9 w9 own9 gr9 _
    have ho : w9.ownsRow w.heap.size 72 43 u9 l.length (l.flatMap nC) := by simpa using own9
    have H9 := hide (And.intro ho (H1.out.2.1.grown gr9 H1.out.2.1.size (fun k hk => (owned_ltN H1.out.1 hk).1)))
    clear ho own9 gr9
    go_wp2_with fail
    go_ret
    exact ⟨u9, rfl, H9.out⟩
set_option maxHeartbeats 400000 in
theorem cloneB_any (w : World) (l : List Int) (v : Value) (h : bytesLay.At w w.heap.size [v] l) (hl : l.length ≤ 1000000) :
    Calls Try.prog 50 #[v] w fun e w' => ∃ u, e = .returned u ∧ w'.ownsRow w.heap.size 5 1 u l.length (l.flatMap ib) ∧ Below w.heap.size w w' := by
  obtain ⟨inm, hih, hq0, hq1, hq2⟩ := info_parts (show (Try.prog.info? 5).map (fun i => (i.zero, i.size, i.bytes)) = some (some (.int .u8 0), 1, 1) by kernel_rfl)
  have HJ := hide (And.intro hih (And.intro hq0 (And.intro hq1 hq2)))
  clear hih hq0 hq1 hq2
  obtain ⟨A, cap, rfl, h1, h2, h3, _⟩ := slice_open h
  cases A with
  | none =>
    have hc0 := h3 rfl
    obtain rfl : l = [] := List.eq_nil_of_length_eq_zero (by omega)
    subst hc0
    clear h1 h2 h3
    go_enter Try.func50, Try.ntmps50
    go_wp2_with (first | ((with_reducible refine at_slot 4 ?_); (refine wpList_value (o := ⟨some 4, _, _, _, _, _⟩) rfl (.bool true) w (by kernel_rfl) ?_)))
    go_ret
    exact ⟨_, rfl, World.ownsRow_nil _ _ _ _, Below.refl _ _⟩
  | some ad =>
    clear h1 h2 h3
    have hs0 := (slice_src (L := Lay.int 5 .u8) (f := ib) (by decide) (fun {w B cs x} h => h.1) (fun k u hu => by rw [List.mem_singleton.1 hu]; rfl) h).2
    have HS := hide hs0
    clear hs0
    go_enter Try.func50, Try.ntmps50
    go_wp2_with (first | ((with_reducible refine at_slot 4 ?_); (refine wpList_value (o := ⟨some 4, _, _, _, _, _⟩) rfl (.bool false) w (by kernel_rfl) ?_)) | ((with_reducible refine at_slot 5 ?_); (refine wpList_newS (o := ⟨some 5, _, _, _, _, _⟩) rfl 0 5 #[] (by kernel_rfl) ?_); intro w1 hn; have hown : w1.ownsRow w.heap.size 5 1 (.slice (some ⟨w.heap.size, 0, none⟩) 0 0) 0 [] := ⟨rfl, .inr ⟨w.heap.size, 0, #[], rfl, Nat.le_refl _, hn.blk, Nat.le_refl _, Nat.zero_le _, rfl, rfl⟩⟩; have H1 := hide (And.intro hown (And.intro hn.below hn.size)); clear hn hown; simp only [Act.put, List.setIfInBounds_toArray, List.set_cons_zero, List.set_cons_succ]) | (at_builtin; ((with_reducible refine at_slot 7 ?_); refine wpList_appS (o := ⟨some 7, _, _, _, _, _⟩) rfl _ _ 32 rfl w.heap.size 5 inm _ 1 1 Try.underlying32 HJ.out.1 HJ.out.2.1 HJ.out.2.2.1 HJ.out.2.2.2 rfl (by decide) _ (0) ([]) H1.out.1 (some ad) l.length cap (l.flatMap ib) (HS.out.below H1.out.2.1) ?hm1 ?hb1 ?hz1 rfl rfl ?_)))
    case hm1 => simp only [maxLen]; omega
    case hb1 => omega
    case hz1 => exact H1.out.2.1.size
    intro u9 w9 own9 gr9 _
    have ho : w9.ownsRow w.heap.size 5 1 u9 l.length (l.flatMap ib) := by simpa using own9
    have H9 := hide (And.intro ho (H1.out.2.1.grown gr9 H1.out.2.1.size (fun k hk => (owned_ltN H1.out.1 hk).1)))
    clear ho own9 gr9
    go_wp2_with fail
    go_ret
    exact ⟨u9, rfl, H9.out⟩
end Go.Proofs.Ytidiepbmbbflhaa
end
