/- spencekit.DrvOf, with any bound (printed by gen/drvof.py); what is counted of a row. Memory of a call's own, as one fact that each step of a walk hands on: things that lie apart from each other, none of them old. Small laws for walks that a program prints: what a load gives, results that lie in cells. spencelaw18.used. A struct built of two parts of many cells. Derivations and items: the sizes of their cells, their parts, rows of one's own. class.must, class.tried: an error that is thrown, and caught. Sums of bytes, as plain functions on lists of words: what the program's package hash computes. No program is in sight here. Numbers as bytes, plain: seven bits a byte, the lowest first; more says that others follow. The walks of the program's package hash, leaves first: a turned word, mixed words, the constants. The walks of the program's package hash: the first state, the constants of the rounds, the words of a block. The walk of a block: the program's sixty-four rounds over the words of a block. A sponge, as plain lists: what it holds when some bytes have been taken, and what it holds behind some more. No program is in sight here. The walk of a sponge that takes bytes. -/
import Derived.Test.YtidiepbmbbflhaaMG2
import Derived.Test.YtidiepbmbbflhaaFlat
import Derived.Test.YtidiepbmbbflhaaMG1
import Derived.Test.YtidiepbmbbflhaaMid
import Derived.Test.YtidiepbmbbflhaaBel
import Derived.Test.YtidiepbmbbflhaaExec
import Derived.Test.YtidiepbmbbflhaaBuild
import Derived.Test.YtidiepbmbbflhaaAt
import Derived.Recover
import Derived.Laws.Pointers
import Derived.Laws.BitsAllLaws
import Derived.Laws.World
import GoSem.Core.Value
import Derived.Test.YtidiepbmbbflhaaBase
import Derived.Test.YtidiepbmbbflhaaQuietTail
import Derived.Deep.RegionHeld3
import Derived.Deep.QuietTactic
import Derived.BigQuiet
import Derived.Test.YtidiepbmbbflhaaBytes
import Derived.Laws.CopyOwn
import Derived.Test.YtidiepbmbbflhaaBase2
section
namespace Go.Proofs.Ytidiepbmbbflhaa
open Go Go.RowKit Go.Maps Go.WideShapes Go.ChangeShapes
set_option maxRecDepth 100000
/-- what is counted of a row, till there is too much -/
def cntF {α : Type} (f : α → Nat) (most : Nat) : Nat → List α → Nat
  | n, [] => n
  | n, x :: l => if n ≤ most then cntF f most (n + f x) l else n
section
variable {α : Type} {f : α → Nat} {most : Nat}
theorem cntF_step {l : List α} {k : Nat} {x : α} {n : Nat} (h : l[k]? = some x) (hn : n ≤ most) : cntF f most n (l.drop k) = cntF f most (n + f x) (l.drop (k + 1)) := by
  have hj := (List.getElem?_eq_some_iff.1 h)
  rw [List.drop_eq_getElem_cons hj.1, hj.2, cntF, if_pos hn]
theorem cntF_stop {l : List α} {n : Nat} (hn : ¬ n ≤ most) : cntF f most n l = n := by
  cases l with
  | nil => rfl
  | cons x l => rw [cntF, if_neg hn]
theorem cntF_le (h1 : ∀ x, 1 ≤ f x) : ∀ (l : List α) (n : Nat), cntF f most n l ≤ most → n + l.length ≤ most ∧ n + (l.map f).sum ≤ most ∧ ∀ x ∈ l, f x ≤ most
  | [], n, h => ⟨h, by simpa using (show n ≤ most from h), fun x hx => by cases hx⟩
  | x :: l, n, h => by
    unfold cntF at h
    split at h
    · have h2 := cntF_le h1 l _ h
      have := h1 x
      rw [List.length_cons, List.map_cons, List.sum_cons]
      refine ⟨by omega, by omega, fun y hy => ?_⟩
      rcases List.mem_cons.1 hy with rfl | hy
      · omega
      · exact h2.2.2 y hy
    · omega
end
theorem drvOfP_pos (most : Nat) (d : Drv) : 1 ≤ drvOfP most d := Nat.le_trans (by omega) (ofLoop_ge most d.2.1 (1 + d.1.size + d.2.2.length))
theorem ofLoop_bd (most : Nat) : ∀ (l : List Nam) (n : Nat), (∀ x ∈ l, x.1.size ≤ 140737488355328 ∧ x.2.1.2.size ≤ 140737488355328) → n ≤ most + 300000000000000 → ofLoop most n l ≤ most + 300000000000000
  | [], n, _, h => h
  | x :: l, n, hl, h => by
    unfold ofLoop
    split
    · refine ofLoop_bd most l _ (fun y hy => hl y (List.mem_cons_of_mem _ hy)) ?_
      have := hl x (List.mem_cons_self ..)
      omega
    · exact h
theorem drvOfP_bd (most : Nat) {d : Drv} (h : LightD d) : drvOfP most d ≤ most + 300000000000000 := ofLoop_bd most _ _ h.each (by have := h.name; have := h.rcp; omega)
theorem drvOfP_small {most : Nat} {d : Drv} (h : drvOfP most d ≤ most) : d.2.1.length ≤ most ∧ d.2.2.length ≤ most ∧ d.1.size ≤ most := by
  have h1 := ofLoop_len most _ _ h
  omega
set_option maxHeartbeats 4000000 in
theorem drvOfM_any (w : World) (most : Nat) (hmo : most ≤ 1000000) (d : Drv) (v1 v2 : Value) (h : DrvAt w w.heap.size d v1 v2) (hl : LightD d) :
    Calls Try.prog 17 #[.agg (dC d v1 v2).toArray, .int .i64 (most : Int)] w fun e w' => e = .returned (.int .i64 (drvOfP most d : Int)) ∧ Below w.heap.size w w' := by
  obtain ⟨A, cap, rfl, hcl, hcm, _, hA⟩ := slice_open h.ins
  obtain ⟨A2, cap2, rfl, hcl2, hcm2, _, _⟩ := slice_open h.rcp
  have hl1 := hl.name
  have hl2 := hl.ins
  have hl3 := hl.rcp
  have i9 : (d.2.1.length : Int) ≤ 140737488355328 := by omega
  have i8 : (d.2.2.length : Int) ≤ 140737488355328 := by omega
  have i7 : (d.1.size : Int) ≤ 140737488355328 := by omega
  have HA := hide hA
  have HL := hide hl.each
  clear hA h hcl hcm hcl2 hcm2 hl
  go_enter Try.func17, Try.ntmps17
  go_wp2_with (first | ((with_reducible refine at_slot 2 ?_); (refine wpList_boxA (o := ⟨some 2, _, _, _, _, _⟩) rfl 34 (.tmp 0) rfl (dC d (.slice A d.2.1.length cap) (.slice A2 d.2.2.length cap2)).toArray rfl ?_); intro w1 hn; have H1 := hide hn; clear hn; simp only [Act.put, List.setIfInBounds_toArray, List.set_cons_zero, List.set_cons_succ]) | ((with_reducible refine at_slot 8 ?_); (refine wpList_value (o := ⟨some 8, _, _, _, _, _⟩) rfl (.string d.1) w1 (exec_load_cell (o := ⟨some 8, _, _, _, _, _⟩) 9 (.tmp 7) rfl ⟨w.heap.size, 0, none⟩ rfl _ _ w1 Try.underlying9 rfl (show w1.cell? ⟨w.heap.size, 0, none⟩ = some (.string d.1) from H1.out.blk.cell 0)) ?_)) | ((with_reducible refine at_slot 12 ?_); (refine wpList_value (o := ⟨some 12, _, _, _, _, _⟩) rfl (.slice A2 d.2.2.length cap2) w1 (exec_load_cell (o := ⟨some 12, _, _, _, _, _⟩) 32 (.tmp 11) rfl ⟨w.heap.size, 2, none⟩ rfl _ _ w1 Try.underlying32 rfl (show w1.cell? ⟨w.heap.size, 2, none⟩ = some (.slice A2 d.2.2.length cap2) from H1.out.blk.cell 2)) ?_)))
  have c1 : w1.cell? ⟨w.heap.size, 1, none⟩ = some (.slice A d.2.1.length cap) := H1.out.blk.cell 1
  go_loopw [5, 6] (fun x5 x6 wr => ∃ (n k : Nat), k ≤ d.2.1.length ∧ n ≤ most + 300000000000000 ∧ x5 = .int .i64 (n : Int) ∧ x6 = .int .i64 (k : Int) ∧ drvOfP most d = ofLoop most n (d.2.1.drop k) ∧ Below w1.heap.size w1 wr) (fun _ x6 _ => d.2.1.length - (intOf x6).toNat)
  case atStart => exact ⟨1 + d.1.size + d.2.2.length, 0, by omega, by omega, by go_num, rfl, rfl, Below.refl _ _⟩
  case round =>
    obtain ⟨wo, rfl⟩ : ∃ wo, wo = wr := ⟨_, rfl⟩
    obtain ⟨n, j, hj, hn, rfl, rfl, hof, hb⟩ := hrel
    have HB := hide (And.intro hof hb)
    clear hof hb
    have c1' : wo.cell? ⟨w.heap.size, 1, none⟩ = some (.slice A d.2.1.length cap) := (World.cell?_of_block (HB.out.2.block _ H1.out.blk.lt)).trans c1
    have HC1 := hide c1'
    have j0 : (0 : Int) ≤ (j : Int) := by omega
    have n0 : (0 : Int) ≤ (n : Int) := by omega
    have n9 : (n : Int) ≤ 300000001000000 := by omega
    by_cases hj2 : j < d.2.1.length
    · have j1 : (j : Int) < (d.2.1.length : Int) := by omega
      by_cases hn3 : n ≤ most
      · have n3 : (n : Int) ≤ (most : Int) := by omega
        obtain ⟨x, hx⟩ : ∃ x, d.2.1[j]? = some x := ⟨_, List.getElem?_eq_getElem hj2⟩
        obtain ⟨b, off, rfl, hlb, hE⟩ := HA.out (by omega)
        obtain ⟨cs, hr, hatx⟩ := hE j x hx
        obtain ⟨rfl, hxo⟩ := namLay_at.1 hatx
        have hr0 := rangeAt_same hr (((HB.out.2.block b (by have := H1.out.size; omega)).trans (H1.out.below.block b hlb)))
        have d0 : wo.cell? ⟨b, off + j * 43, none⟩ = some (.string x.1) := hr0 0 _ rfl
        have d21 : wo.cell? ⟨b, off + j * 43 + 21, none⟩ = some (.string x.2.1.2) := hr0 21 _ (nam_21 hxo)
        have hxl := HL.out x (List.mem_of_getElem? hx)
        have x1 : (x.1.size : Int) ≤ 140737488355328 := by omega
        have x2 : (x.2.1.2.size : Int) ≤ 140737488355328 := by omega
        have hst := ofLoop_step hx hn3
        have HST := hide hst
        have HD0 := hide (And.intro d0 d21)
        clear hx hE hr hatx hxo hr0 d0 d21 hst hxl
        go_wp2_with fail
        refine Fre.wp_made (X := Bel) 19 [] (by kernel_rfl) (by kernel_rfl) (by simp) (by simp) (by simp) ?_
        simp only [List.take_succ_cons, List.take_zero, List.drop_succ_cons, List.drop_zero]
        refine Fre.made_val (.int .i64 (n : Int)) (by kernel_rfl) (by kernel_rfl) (by kernel_rfl) (fun _ _ => by kernel_rfl) ?_
        simp only [Act.put, List.setIfInBounds_toArray, List.set_cons_zero, List.set_cons_succ]
        refine Fre.made_val (.int .i64 ((n : Int) + 1)) (by kernel_rfl) (by kernel_rfl) (by kernel_rfl) (fun W9 hW9 => ?hs1) ?_
        case hs1 =>
          go_simp
          all_goals exact Go.IntWalk.i64_in _ (by omega)
        simp only [Act.put, List.setIfInBounds_toArray, List.set_cons_zero, List.set_cons_succ]
        refine Fre.made_val (.pointer (some ⟨w.heap.size, 1, none⟩)) (by kernel_rfl) (by kernel_rfl) (by kernel_rfl) (fun _ _ => by kernel_rfl) ?_
        simp only [Act.put, List.setIfInBounds_toArray, List.set_cons_zero, List.set_cons_succ]
        refine Fre.made_val (.slice (some ⟨b, off, none⟩) d.2.1.length cap) (by kernel_rfl) (by kernel_rfl) (by kernel_rfl) (fun W9 hW9 => exec_load_cell (o := ⟨some 30, _, _, _, _, _⟩) 31 (.tmp 29) rfl ⟨w.heap.size, 1, none⟩ rfl _ _ W9 Try.underlying31 rfl (((World.cell?_of_block (Below.block hW9 _ (World.block_lt_of_cell? wo _ HC1.out))).trans HC1.out))) ?_
        simp only [Act.put, List.setIfInBounds_toArray, List.set_cons_zero, List.set_cons_succ]
        refine Fre.made_val (.int .i64 (j : Int)) (by kernel_rfl) (by kernel_rfl) (by kernel_rfl) (fun _ _ => by kernel_rfl) ?_
        simp only [Act.put, List.setIfInBounds_toArray, List.set_cons_zero, List.set_cons_succ]
        refine Fre.made_val (.pointer (some ⟨b, off + j * 43, none⟩)) (by kernel_rfl) (by kernel_rfl) (by kernel_rfl) (fun W9 hW9 => exec_idxO (o := ⟨some 32, _, _, _, _, _⟩) 31 72 (.tmp 30) (.tmp 31) rfl b off d.2.1.length cap j rfl rfl hj2 43 Try.underlying31 sz_namD W9) ?_
        simp only [Act.put, List.setIfInBounds_toArray, List.set_cons_zero, List.set_cons_succ]
        refine Fre.made_val (.pointer (some ⟨b, off + j * 43, none⟩)) (by kernel_rfl) (by kernel_rfl) (by kernel_rfl) (fun _ _ => by kernel_rfl) ?_
        simp only [Act.put, List.setIfInBounds_toArray, List.set_cons_zero, List.set_cons_succ]
        refine Fre.made_val (.string x.1) (by kernel_rfl) (by kernel_rfl) (by kernel_rfl) (fun W9 hW9 => exec_load_cell (o := ⟨some 34, _, _, _, _, _⟩) 9 (.tmp 33) rfl ⟨b, off + j * 43, none⟩ rfl _ _ W9 Try.underlying9 rfl (((World.cell?_of_block (Below.block hW9 _ (World.block_lt_of_cell? wo _ HD0.out.1))).trans HD0.out.1))) ?_
        simp only [Act.put, List.setIfInBounds_toArray, List.set_cons_zero, List.set_cons_succ]
        refine Fre.made_val (.int .i64 (x.1.size : Int)) (by kernel_rfl) (by kernel_rfl) (by kernel_rfl) (fun W9 hW9 => ?hs2) ?_
        case hs2 =>
          go_simp
        simp only [Act.put, List.setIfInBounds_toArray, List.set_cons_zero, List.set_cons_succ]
        refine Fre.made_val (.int .i64 ((n : Int) + 1 + (x.1.size : Int))) (by kernel_rfl) (by kernel_rfl) (by kernel_rfl) (fun W9 hW9 => ?hs3) ?_
        case hs3 =>
          go_simp
          all_goals exact Go.IntWalk.i64_in _ (by omega)
        simp only [Act.put, List.setIfInBounds_toArray, List.set_cons_zero, List.set_cons_succ]
        refine Fre.made_val (.pointer (some ⟨w.heap.size, 1, none⟩)) (by kernel_rfl) (by kernel_rfl) (by kernel_rfl) (fun _ _ => by kernel_rfl) ?_
        simp only [Act.put, List.setIfInBounds_toArray, List.set_cons_zero, List.set_cons_succ]
        refine Fre.made_val (.slice (some ⟨b, off, none⟩) d.2.1.length cap) (by kernel_rfl) (by kernel_rfl) (by kernel_rfl) (fun W9 hW9 => exec_load_cell (o := ⟨some 38, _, _, _, _, _⟩) 31 (.tmp 37) rfl ⟨w.heap.size, 1, none⟩ rfl _ _ W9 Try.underlying31 rfl (((World.cell?_of_block (Below.block hW9 _ (World.block_lt_of_cell? wo _ HC1.out))).trans HC1.out))) ?_
        simp only [Act.put, List.setIfInBounds_toArray, List.set_cons_zero, List.set_cons_succ]
        refine Fre.made_val (.int .i64 (j : Int)) (by kernel_rfl) (by kernel_rfl) (by kernel_rfl) (fun _ _ => by kernel_rfl) ?_
        simp only [Act.put, List.setIfInBounds_toArray, List.set_cons_zero, List.set_cons_succ]
        refine Fre.made_val (.pointer (some ⟨b, off + j * 43, none⟩)) (by kernel_rfl) (by kernel_rfl) (by kernel_rfl) (fun W9 hW9 => exec_idxO (o := ⟨some 40, _, _, _, _, _⟩) 31 72 (.tmp 38) (.tmp 39) rfl b off d.2.1.length cap j rfl rfl hj2 43 Try.underlying31 sz_namD W9) ?_
        simp only [Act.put, List.setIfInBounds_toArray, List.set_cons_zero, List.set_cons_succ]
        refine Fre.made_val (.pointer (some ⟨b, off + j * 43 + 1, none⟩)) (by kernel_rfl) (by kernel_rfl) (by kernel_rfl) (fun _ _ => by kernel_rfl) ?_
        simp only [Act.put, List.setIfInBounds_toArray, List.set_cons_zero, List.set_cons_succ]
        refine Fre.made_val (.pointer (some ⟨b, off + j * 43 + 1, none⟩)) (by kernel_rfl) (by kernel_rfl) (by kernel_rfl) (fun _ _ => by kernel_rfl) ?_
        simp only [Act.put, List.setIfInBounds_toArray, List.set_cons_zero, List.set_cons_succ]
        refine Fre.made_val (.pointer (some ⟨b, off + j * 43 + 21, none⟩)) (by kernel_rfl) (by kernel_rfl) (by kernel_rfl) (fun _ _ => by kernel_rfl) ?_
        simp only [Act.put, List.setIfInBounds_toArray, List.set_cons_zero, List.set_cons_succ]
        refine Fre.made_val (.string x.2.1.2) (by kernel_rfl) (by kernel_rfl) (by kernel_rfl) (fun W9 hW9 => exec_load_cell (o := ⟨some 44, _, _, _, _, _⟩) 9 (.tmp 43) rfl ⟨b, off + j * 43 + 21, none⟩ rfl _ _ W9 Try.underlying9 rfl (((World.cell?_of_block (Below.block hW9 _ (World.block_lt_of_cell? wo _ HD0.out.2))).trans HD0.out.2))) ?_
        simp only [Act.put, List.setIfInBounds_toArray, List.set_cons_zero, List.set_cons_succ]
        refine Fre.made_val (.int .i64 (x.2.1.2.size : Int)) (by kernel_rfl) (by kernel_rfl) (by kernel_rfl) (fun W9 hW9 => ?hs4) ?_
        case hs4 =>
          go_simp
        simp only [Act.put, List.setIfInBounds_toArray, List.set_cons_zero, List.set_cons_succ]
        intro w5 hx5
        have H5 := hide (HB.out.2.trans (Below.mono hx5 HB.out.2.size))
        clear hx5
        dsimp only [Fre.ended, List.drop]
        go_wp2_with fail
        go_roundw
        case rel => exact ⟨n + 1 + x.1.size + x.2.1.2.size, j + 1, by omega, by omega, by go_num, by go_num, by rw [HB.out.1]; exact HST.out, H5.out⟩
        case measure => simp [intOf]; omega
      · have n3 : ¬ (n : Int) ≤ (most : Int) := by omega
        have hfin : drvOfP most d = n := by rw [HB.out.1]; exact ofLoop_stop hn3
        have HF := hide hfin
        clear hfin
        go_wp2_with fail
        go_ret
        exact ⟨by rw [HF.out]; rfl, H1.out.below.trans (Below.mono HB.out.2 H1.out.below.size)⟩
    · obtain rfl : j = d.2.1.length := by omega
      have hfin : drvOfP most d = n := by rw [HB.out.1, List.drop_length]; rfl
      have HF := hide hfin
      clear hfin
      go_wp2_with fail
      go_ret
      exact ⟨by rw [HF.out]; rfl, H1.out.below.trans (Below.mono HB.out.2 H1.out.below.size)⟩
end Go.Proofs.Ytidiepbmbbflhaa
end
section
namespace Go.Proofs.Ytidiepbmbbflhaa
open Go Go.RowKit
/-- a thing in memory: the blocks that it needs, and what is so -/
structure Ent where
  F : Nat → Prop
  P : World → Prop
/-- what is so of a thing hangs on its blocks alone -/
def Ent.Ok (e : Ent) : Prop := ∀ w w', e.P w → (∀ b, e.F b → b < w.heap.size → w'.heap[b]? = w.heap[b]?) → e.P w'
def Far (F G : Nat → Prop) : Prop := ∀ b, F b → G b → False
theorem Far.symm {F G : Nat → Prop} (h : Far F G) : Far G F := fun b x y => h b y x
structure Mem (w0 w : World) (L : List Ent) : Prop where
  below : Below w0.heap.size w0 w
  ok : ∀ e ∈ L, e.Ok
  holds : ∀ e ∈ L, e.P w
  lo : ∀ e ∈ L, ∀ b, e.F b → w0.heap.size ≤ b ∧ b < w.heap.size
  far : L.Pairwise fun x y => Far x.F y.F
section
variable {w0 w w' : World} {L : List Ent} {e e' : Ent}
theorem Mem.start (w : World) : Mem w w [] := ⟨Below.refl _ _, (fun _ h => by cases h), (fun _ h => by cases h), (fun _ h => by cases h), .nil⟩
theorem Mem.get (h : Mem w0 w L) (i : Nat) (hi : L[i]? = some e) : e.P w := h.holds e (List.mem_of_getElem? hi)
theorem Mem.from_ (h : Mem w0 w L) (i : Nat) (hi : L[i]? = some e) {b : Nat} (hb : e.F b) : w0.heap.size ≤ b ∧ b < w.heap.size := h.lo e (List.mem_of_getElem? hi) b hb
theorem Mem.call (h : Mem w0 w L) (hb : Below w.heap.size w w') : Mem w0 w' L :=
  ⟨h.below.trans (hb.mono h.below.size), h.ok, (fun e he => h.ok e he w w' (h.holds e he) fun b _ hl => hb.block b hl), (fun e he b hf => ⟨(h.lo e he b hf).1, Nat.lt_of_lt_of_le (h.lo e he b hf).2 hb.size⟩), h.far⟩
theorem Mem.cons (h : Mem w0 w L) (ho : e.Ok) (hp : e.P w) (hF : ∀ b, e.F b → w0.heap.size ≤ b ∧ b < w.heap.size ∧ ∀ x ∈ L, ¬ x.F b) : Mem w0 w (e :: L) :=
  ⟨h.below, (fun x hx => by rcases List.mem_cons.1 hx with rfl | hx; exact ho; exact h.ok x hx), (fun x hx => by rcases List.mem_cons.1 hx with rfl | hx; exact hp; exact h.holds x hx), (fun x hx b hf => by rcases List.mem_cons.1 hx with rfl | hx; exact ⟨(hF b hf).1, (hF b hf).2.1⟩; exact h.lo x hx b hf), List.pairwise_cons.2 ⟨fun x hx b h1 h2 => (hF b h1).2.2 x hx h2, h.far⟩⟩
/-- a call that made something new -/
theorem Mem.new (h : Mem w0 w L) (hb : Below w.heap.size w w') (ho : e.Ok) (hp : e.P w') (hF : ∀ b, e.F b → w.heap.size ≤ b ∧ b < w'.heap.size) : Mem w0 w' (e :: L) :=
  (h.call hb).cons ho hp fun b hf => ⟨Nat.le_trans h.below.size (hF b hf).1, (hF b hf).2, fun x hx hx2 => by have := (h.lo x hx b hx2).2; have := (hF b hf).1; omega⟩
/-- a step that turned one thing, and made some memory -/
theorem Mem.upd (h : Mem w0 w L) (i : Nat) (hi : L[i]? = some e) {row : Option Nat} (hg : w.grownBy w' row) (hrow : ∀ b, row = some b → e.F b) (ho : e'.Ok) (hp : e'.P w') (hF : ∀ b, e'.F b → e.F b ∨ (w.heap.size ≤ b ∧ b < w'.heap.size)) : Mem w0 w' (L.set i e') := by
  have hlt : i < L.length := (List.getElem?_eq_some_iff.1 hi).1
  have hmem : ∀ x, x ∈ L.set i e' → x = e' ∨ ∃ k, k ≠ i ∧ L[k]? = some x := fun x hx => by
    obtain ⟨k, hk⟩ := List.getElem?_of_mem hx
    rw [List.getElem?_set] at hk
    by_cases e1 : i = k
    · rw [if_pos e1, if_pos (by omega)] at hk
      exact .inl (Option.some.inj hk).symm
    · rw [if_neg e1] at hk
      exact .inr ⟨k, fun e2 => e1 e2.symm, hk⟩
  have hfar : ∀ k x, k ≠ i → L[k]? = some x → Far e.F x.F := fun k x hk hx => by
    have hp2 := List.pairwise_iff_getElem.1 h.far
    have hkl := (List.getElem?_eq_some_iff.1 hx).1
    have e1 := (List.getElem?_eq_some_iff.1 hx).2
    have e2 := (List.getElem?_eq_some_iff.1 hi).2
    rcases Nat.lt_or_ge k i with hlt2 | hge
    · have := hp2 k i hkl hlt hlt2
      rw [e1, e2] at this
      exact this.symm
    · have := hp2 i k hlt hkl (by omega)
      rw [e1, e2] at this
      exact this
  refine ⟨h.below.grown hg h.below.size fun b hb => (h.from_ i hi (hrow b hb)).1, fun x hx => ?_, fun x hx => ?_, fun x hx b hf => ?_, ?_⟩
  · rcases hmem x hx with rfl | ⟨k, _, hk⟩
    · exact ho
    · exact h.ok x (List.mem_of_getElem? hk)
  · rcases hmem x hx with rfl | ⟨k, hne, hk⟩
    · exact hp
    · refine h.ok x (List.mem_of_getElem? hk) w w' (h.holds x (List.mem_of_getElem? hk)) fun b hf hl => hg.block b hl fun e1 => ?_
      exact hfar k x hne hk b (hrow b e1.symm) hf
  · rcases hmem x hx with rfl | ⟨k, _, hk⟩
    · rcases hF b hf with h1 | h1
      · exact ⟨(h.from_ i hi h1).1, Nat.lt_of_lt_of_le (h.from_ i hi h1).2 hg.size⟩
      · exact ⟨Nat.le_trans h.below.size h1.1, h1.2⟩
    · have := h.lo x (List.mem_of_getElem? hk) b hf
      exact ⟨this.1, Nat.lt_of_lt_of_le this.2 hg.size⟩
  · refine List.pairwise_iff_getElem.2 fun a c ha hc hac => ?_
    rw [List.length_set] at ha hc
    rw [List.getElem_set, List.getElem_set]
    have hold : ∀ k (hk : k < L.length), k ≠ i → Far e'.F (L[k]).F := fun k hk hne b h1 h2 => by
      rcases hF b h1 with h3 | h3
      · exact hfar k _ hne (List.getElem?_eq_getElem hk) b h3 h2
      · have := (h.lo _ (List.getElem_mem hk) b h2).2
        omega
    by_cases e1 : i = a
    · subst e1
      rw [if_pos rfl, if_neg (by omega)]
      exact hold c hc (by omega)
    · rw [if_neg e1]
      by_cases e2 : i = c
      · subst e2
        rw [if_pos rfl]
        exact (hold a ha (by omega)).symm
      · rw [if_neg e2]
        exact List.pairwise_iff_getElem.1 h.far a c ha hc hac
theorem Mem.refit (h : Mem w0 w L) (i : Nat) (hi : L[i]? = some e) (ho : e'.Ok) (hp : e'.P w) (hF : ∀ b, e'.F b → e.F b) : Mem w0 w (L.set i e') :=
  h.upd i hi (World.grownBy.refl w none) (fun _ hb => by cases hb) ho hp fun b hf => .inl (hF b hf)
/-- some of the things, in another order -/
theorem Mem.pick (h : Mem w0 w L) (l : List Nat) (hn : l.Nodup) {L' : List Ent} (hs : l.mapM (fun i => L[i]?) = some L') : Mem w0 w L' := by
  have hat : ∀ (l : List Nat) (L' : List Ent), l.mapM (fun i => L[i]?) = some L' → L'.length = l.length ∧ ∀ (k : Nat) (x : Ent), L'[k]? = some x → ∃ i, l[k]? = some i ∧ L[i]? = some x := by
    intro l
    induction l with
    | nil => intro L' hs; simp at hs; subst hs; exact ⟨rfl, fun k x hx => by simp at hx⟩
    | cons i l ih =>
      intro L' hs
      rw [List.mapM_cons] at hs
      cases h1 : L[i]? with
      | none => simp [h1] at hs
      | some x =>
        cases h2 : l.mapM (fun i => L[i]?) with
        | none => simp [h1, h2] at hs
        | some M =>
          simp only [h1, h2, Option.bind_eq_bind, Option.bind_some, Option.pure_def, Option.some.injEq] at hs
          subst hs
          obtain ⟨k1, k2⟩ := ih M h2
          refine ⟨by simp [k1], fun k y hy => ?_⟩
          cases k with
          | zero => simp at hy; subst hy; exact ⟨i, rfl, h1⟩
          | succ k => exact k2 k y (by simpa using hy)
  obtain ⟨hl, hg⟩ := hat l L' hs
  have hm : ∀ x ∈ L', x ∈ L := fun x hx => by
    obtain ⟨k, hk⟩ := List.getElem?_of_mem hx
    obtain ⟨i, _, hi⟩ := hg k x hk
    exact List.mem_of_getElem? hi
  refine ⟨h.below, fun x hx => h.ok x (hm x hx), fun x hx => h.holds x (hm x hx), fun x hx => h.lo x (hm x hx), List.pairwise_iff_getElem.2 fun a c ha hc hac => ?_⟩
  obtain ⟨i, hi1, hi2⟩ := hg a _ (List.getElem?_eq_getElem ha)
  obtain ⟨k, hk1, hk2⟩ := hg c _ (List.getElem?_eq_getElem hc)
  obtain ⟨hil, e1⟩ := List.getElem?_eq_some_iff.1 hi2
  obtain ⟨hkl, e2⟩ := List.getElem?_eq_some_iff.1 hk2
  have hne : i ≠ k := by
    rintro rfl
    have h1 := List.getElem?_eq_some_iff.1 hi1
    have h2 := List.getElem?_eq_some_iff.1 hk1
    have := (List.getElem_inj hn).1 (h1.2.trans h2.2.symm)
    omega
  have hp2 := List.pairwise_iff_getElem.1 h.far
  rw [← e1, ← e2]
  rcases Nat.lt_or_ge i k with h1 | h1
  · exact hp2 i k hil hkl h1
  · exact (hp2 k i hkl hil (by omega)).symm
theorem Mem.drop (h : Mem w0 w L) (n : Nat) : Mem w0 w (L.drop n) :=
  ⟨h.below, fun x hx => h.ok x (List.mem_of_mem_drop hx), fun x hx => h.holds x (List.mem_of_mem_drop hx), fun x hx => h.lo x (List.mem_of_mem_drop hx), h.far.drop⟩
/-- two things are one -/
def Ent.both (a b : Ent) : Ent := ⟨fun k => a.F k ∨ b.F k, fun w => a.P w ∧ b.P w⟩
theorem Ent.both_ok {a b : Ent} (ha : a.Ok) (hb : b.Ok) : (a.both b).Ok := fun w w' h hk => ⟨ha w w' h.1 fun k hf => hk k (.inl hf), hb w w' h.2 fun k hf => hk k (.inr hf)⟩
/-- what is so of each of some, that lie apart -/
def Ent.all {α : Type} (l : List α) (f : α → Ent) : Ent := ⟨fun b => ∃ x ∈ l, (f x).F b, fun w => (∀ x ∈ l, (f x).P w) ∧ l.Pairwise fun x y => Far (f x).F (f y).F⟩
theorem Ent.all_ok {α : Type} {l : List α} {f : α → Ent} (h : ∀ x ∈ l, (f x).Ok) : (Ent.all l f).Ok := fun w w' hp hk => ⟨fun x hx => h x hx w w' (hp.1 x hx) fun b hf => hk b ⟨x, hx, hf⟩, hp.2⟩
theorem Mem.join {a b : Ent} (h : Mem w0 w (a :: b :: L)) : Mem w0 w (a.both b :: L) := by
  have h2 := h.drop 2
  have hf := List.pairwise_cons.1 h.far
  have hf2 := List.pairwise_cons.1 hf.2
  refine h2.cons (Ent.both_ok (h.ok a (by simp)) (h.ok b (by simp))) ⟨h.holds a (by simp), h.holds b (by simp)⟩ fun k hk => ?_
  rcases hk with hk | hk
  · exact ⟨(h.lo a (by simp) k hk).1, (h.lo a (by simp) k hk).2, fun x hx hx2 => hf.1 x (List.mem_cons_of_mem _ hx) k hk hx2⟩
  · exact ⟨(h.lo b (by simp) k hk).1, (h.lo b (by simp) k hk).2, fun x hx hx2 => hf2.1 x hx k hk hx2⟩
/-- one more of some -/
theorem Mem.push {α : Type} {l : List α} {x : α} {f : α → Ent} (h : Mem w0 w (f x :: Ent.all l f :: L)) (hx : (f x).Ok) : Mem w0 w (Ent.all (l ++ [x]) f :: L) := by
  have h2 := h.join
  have hf0 : Far (f x).F (Ent.all l f).F := (List.pairwise_cons.1 h.far).1 _ (by simp)
  have hp0 := h.holds (Ent.all l f) (by simp)
  refine (h2.drop 1).cons ?_ ?_ ?_
  · intro w w' hp hk
    refine ⟨fun y hy => ?_, hp.2⟩
    rcases List.mem_append.1 hy with hy | hy
    · exact ((h.ok (Ent.all l f) (by simp)) w w' ⟨fun y hy => hp.1 y (List.mem_append_left _ hy), hp0.2⟩ (fun b ⟨z, hz, hf⟩ => hk b ⟨z, List.mem_append_left _ hz, hf⟩)).1 y hy
    · rw [List.mem_singleton.1 hy]
      exact hx w w' (hp.1 x (by simp)) fun b hf => hk b ⟨x, by simp, hf⟩
  · refine ⟨fun y hy => ?_, List.pairwise_append.2 ⟨hp0.2, by simp, fun y hy z hz b h1 h3 => ?_⟩⟩
    · rcases List.mem_append.1 hy with hy | hy
      · exact hp0.1 y hy
      · rw [List.mem_singleton.1 hy]
        exact h.holds (f x) (by simp)
    · rw [List.mem_singleton.1 hz] at h3
      exact hf0 b h3 ⟨y, hy, h1⟩
  · rintro b ⟨y, hy, hf⟩
    have hb : ((f x).both (Ent.all l f)).F b := by
      rcases List.mem_append.1 hy with hy | hy
      · exact .inr ⟨y, hy, hf⟩
      · rw [List.mem_singleton.1 hy] at hf
        exact .inl hf
    exact ⟨(h2.lo _ (by simp) b hb).1, (h2.lo _ (by simp) b hb).2, fun z hz hz2 => (List.pairwise_cons.1 h2.far).1 z hz b hb hz2⟩
/-- a block known whole -/
def blkE (g : Nat) (t : TypeId) (cs : Array Value) : Ent := ⟨fun b => b = g, fun w => Blk w g t cs⟩
theorem blkE_ok (g : Nat) (t : TypeId) (cs : Array Value) : (blkE g t cs).Ok := fun _ _ h hk => (hk g rfl (Blk.lt h)).trans h
/-- a row of one's own -/
def ownE (B : Nat) (t : TypeId) (s : Nat) (u : Value) (n : Nat) (xs : List Value) : Ent := ⟨fun b => u.ownBlock = some b, fun w => w.ownsRow B t s u n xs⟩
theorem ownE_ok (B : Nat) (t : TypeId) (s : Nat) (u : Value) (n : Nat) (xs : List Value) : (ownE B t s u n xs).Ok := fun _ _ h hk => owned_keepN h fun g hg hl => hk g hg hl
theorem Mem.blk {g : Nat} {t : TypeId} {cs : Array Value} (h : Mem w0 w L) (i : Nat) (hi : L[i]? = some (blkE g t cs)) : Blk w g t cs := h.get i hi
theorem Mem.own {B n s : Nat} {t : TypeId} {u : Value} {xs : List Value} (h : Mem w0 w L) (i : Nat) (hi : L[i]? = some (ownE B t s u n xs)) : w.ownsRow B t s u n xs := h.get i hi
/-- one block more -/
theorem Mem.new1 {t : TypeId} {cs : Array Value} (h : Mem w0 w L) (hn : New1 w w' t cs) : Mem w0 w' (blkE w.heap.size t cs :: L) :=
  h.new hn.below (blkE_ok _ _ _) hn.blk fun b hf => by have := hn.size; have e : b = w.heap.size := hf; omega
/-- a store into a block -/
theorem Mem.st {g : Nat} {t t' : TypeId} {cs cs' : Array Value} (h : Mem w0 w L) (i : Nat) (hi : L[i]? = some (blkE g t cs)) (hk : Blk w' g t' cs') (hg : w.grownBy w' (some g)) : Mem w0 w' (L.set i (blkE g t' cs')) :=
  h.upd i hi hg (fun b hb => (Option.some.inj hb).symm) (blkE_ok _ _ _) hk fun _ hf => .inl hf
/-- an append onto a row of one's own -/
theorem Mem.app {B n n' s : Nat} {t : TypeId} {u u' : Value} {xs xs' : List Value} (h : Mem w0 w L) (i : Nat) (hi : L[i]? = some (ownE B t s u n xs)) (ho : w'.ownsRow B t s u' n' xs') (hg : w.grownBy w' u.ownBlock) (hp : u'.ownBlock = u.ownBlock ∨ u'.ownBlock = some w.heap.size) : Mem w0 w' (L.set i (ownE B t s u' n' xs')) :=
  h.upd i hi hg (fun _ hb => hb) (ownE_ok _ _ _ _ _ _) ho fun b hf => by
    have hf : u'.ownBlock = some b := hf
    rcases hp with e1 | e1
    · exact .inl (show u.ownBlock = some b by rw [← e1]; exact hf)
    · rw [e1] at hf
      injection hf with hf
      subst hf
      exact .inr ⟨Nat.le_refl _, (owned_ltN ho e1).2⟩
/-- a row of nothing -/
theorem Mem.nilRow (h : Mem w0 w L) (B : Nat) (t : TypeId) (s : Nat) : Mem w0 w (ownE B t s (.slice none 0 0) 0 [] :: L) :=
  h.cons (ownE_ok _ _ _ _ _ _) (World.ownsRow_nil _ _ _ _) fun b hf => by cases (show (none : Option Nat) = some b from hf)
/-- a thing that needs no memory -/
theorem Mem.pure (h : Mem w0 w L) (ho : e.Ok) (hp : e.P w) (hF : ∀ b, ¬ e.F b) : Mem w0 w (e :: L) := h.cons ho hp fun b hf => absurd hf (hF b)
theorem Mem.allNil {α : Type} (h : Mem w0 w L) (f : α → Ent) : Mem w0 w (Ent.all [] f :: L) :=
  h.pure (fun _ _ _ _ => ⟨(fun x hx => by cases hx), List.Pairwise.nil⟩) ⟨(fun x hx => by cases hx), List.Pairwise.nil⟩ (fun b ⟨x, hx, _⟩ => by cases hx)
/-- old memory is as it was -/
theorem Mem.old (h : Mem w0 w L) {b : Nat} (hb : b < w0.heap.size) : w.heap[b]? = w0.heap[b]? := h.below.block b hb
end
end Go.Proofs.Ytidiepbmbbflhaa
end
section
namespace Go.Proofs.Ytidiepbmbbflhaa
open Go Go.RowKit
section
variable {P : Program} {w : World}
/-- what the results are: a slot's value, or what a cell (a struct, an array) holds -/
def ResOk (P : Program) (tmps : Array Value) (w : World) : List ResultVar → List Value → Prop
  | [], [] => True
  | .tmp t :: l, v :: vs => tmps.getD t undef = v ∧ ResOk P tmps w l vs
  | .cell a ty :: l, v :: vs => (∃ p, tmps.getD a undef = .pointer (some p) ∧ (loadVar ty p).run P w = .ok v w) ∧ ResOk P tmps w l vs
  | _, _ => False
def resRun (tmps : Array Value) : ResultVar → Sem Value
  | .tmp t => Pure.pure (tmps.getD t undef)
  | .cell a t => do loadVar t (← asAddr (tmps.getD a undef))
theorem resOk_mapM (tmps : Array Value) : ∀ (l : List ResultVar) (vs : List Value), ResOk P tmps w l vs → (l.mapM (resRun tmps)).run P w = .ok vs w
  | [], [], _ => by simp [List.mapM_nil, Sem.run_pure]
  | .tmp t :: l, v :: vs, h => by
    obtain ⟨h1, h2⟩ := h
    rw [List.mapM_cons, Sem.run_bind]
    unfold resRun
    dsimp only
    rw [Sem.run_pure, Result.andThen_ok, Sem.run_bind]
    have e := resOk_mapM tmps l vs h2
    unfold resRun at e
    rw [e, Result.andThen_ok, Sem.run_pure, h1]
  | .cell a ty :: l, v :: vs, h => by
    obtain ⟨⟨p, h1, h3⟩, h2⟩ := h
    rw [List.mapM_cons, Sem.run_bind]
    have e := resOk_mapM tmps l vs h2
    have e1 : (resRun tmps (.cell a ty)).run P w = .ok v w := by
      unfold resRun
      dsimp only
      rw [h1, Sem.run_bind]
      simp only [asAddr, Sem.run_pure, Result.andThen_ok, h3]
    rw [e1, Result.andThen_ok, Sem.run_bind, e, Result.andThen_ok, Sem.run_pure]
  | .tmp _ :: _, [], h => h.elim
  | .cell _ _ :: _, [], h => h.elim
  | [], _ :: _, h => h.elim
theorem results_of {fn : Func} {tmps : Array Value} {l : List ResultVar} (h : fn.results = l.toArray) {vs : List Value} (hl : ResOk P tmps w l vs) : (results fn tmps).run P w = .ok (if h : vs.toArray.size = 1 then vs.toArray[0] else .tuple vs.toArray) w := by
  have e := resOk_mapM (P := P) (w := w) tmps l vs hl
  have e1 : (fn.results.mapM (resRun tmps)).run P w = .ok vs.toArray w := by
    rw [h, List.mapM_toArray, Sem.run_map, e, Result.andThen_ok]
  have e2 : results fn tmps = (fn.results.mapM (resRun tmps)) >>= fun vs => Pure.pure (if h : vs.size = 1 then vs[0] else .tuple vs) := by
    unfold results
    congr 1
  rw [e2, Sem.run_bind, e1, Result.andThen_ok, Sem.run_pure]
theorem results_two {fn : Func} {tmps : Array Value} {r1 r2 : ResultVar} (h : fn.results = #[r1, r2]) {v1 v2 : Value} (hl : ResOk P tmps w [r1, r2] [v1, v2]) : (results fn tmps).run P w = .ok (.tuple #[v1, v2]) w := results_of (l := [r1, r2]) h hl
theorem results_three {fn : Func} {tmps : Array Value} {r1 r2 r3 : ResultVar} (h : fn.results = #[r1, r2, r3]) {v1 v2 v3 : Value} (hl : ResOk P tmps w [r1, r2, r3] [v1, v2, v3]) : (results fn tmps).run P w = .ok (.tuple #[v1, v2, v3]) w := results_of (l := [r1, r2, r3]) h hl
theorem results_one {fn : Func} {tmps : Array Value} {r1 : ResultVar} (h : fn.results = #[r1]) {v1 : Value} (hl : ResOk P tmps w [r1] [v1]) : (results fn tmps).run P w = .ok v1 w := results_of (l := [r1]) h hl
/-- a cell that is read -/
theorem ld_cell {ty : TypeId} {p : Addr} {u : Value} {d : TypeDesc} (hu : P.underlying ty = some d) (hd : d.isRow = false) (hc : w.cell? p = some u) : (loadVar ty p).run P w = .ok u w := by
  have hagg : (isAgg ty).run P w = .ok false w := by
    unfold isAgg
    rw [Sem.run_bind, run_underlying hu w]
    cases d <;> simp_all
  simp [loadVar, hagg, hc]
/-- a struct or an array that is read -/
theorem ld_agg {ty : TypeId} {b off : Nat} {cs : List Value} {d : TypeDesc} (hc : w.rangeAt b off cs) (hu : P.underlying ty = some d) (hd : d.isRow = true) (hi : (P.info? ty).map (·.size) = some cs.length) : (loadVar ty ⟨b, off, none⟩).run P w = .ok (.agg cs.toArray) w := run_loadVar_mid w b off ty cs d hc hu hd hi
theorem range_cell {b o : Nat} {v : Value} (h : w.rangeAt b o [v]) : w.cell? ⟨b, o, none⟩ = some v := h 0 v rfl
theorem Blk.range {g : Nat} {t : TypeId} {cs : List Value} (h : Blk w g t cs.toArray) : w.rangeAt g 0 cs := by simpa using rangeAt_blk h
theorem range_mid {b o k : Nat} {cs pre mid post : List Value} (h : w.rangeAt b o cs) (e : cs = pre ++ (mid ++ post)) (hk : pre.length = k) : w.rangeAt b (o + k) mid := by
  subst e hk
  exact rangeAt_left (rangeAt_right h)
theorem range_same {w w' : World} {b o : Nat} {cs : List Value} (h : w.rangeAt b o cs) (he : w'.heap[b]? = w.heap[b]?) : w'.rangeAt b o cs := by
  intro j v hv
  have := h j v hv
  unfold World.cell? at this ⊢
  dsimp only at this ⊢
  rw [he]
  exact this
/-- old memory is read as it was -/
theorem Mem.range {w0 w : World} {L : List Ent} (h : Mem w0 w L) {b o : Nat} {cs : List Value} (hr : w0.rangeAt b o cs) (hb : b < w0.heap.size) : w.rangeAt b o cs := range_same hr (h.old hb)
theorem sz_eq {t : TypeId} {a b : Array Value} (h1 : (P.info? t).map (·.size) = some a.size) (h2 : (P.info? t).map (·.size) = some b.size) : a.size = b.size := Option.some.inj (h1.symm.trans h2)
/-! whether two strings are one -/
theorem str_eq {a b : ByteArray} {c : Bool} (hc : decide (a = b) = c) : (a.toList == b.toList) = c := by
  rw [← hc, ByteArray.toList_eq, ByteArray.toList_eq, Bool.eq_iff_iff, beq_iff_eq, decide_eq_true_iff]
  constructor
  · intro h
    cases a; cases b
    congr 1
    exact Array.toList_inj.1 h
  · intro h
    rw [h]
theorem exec_eqS {ρ : Operand → Value} {o : Oper} (t r : TypeId) (x y : Operand) (ho : o.op = .binOp .eql t x y r) (a b : ByteArray) (hx : ρ x = .string a) (hy : ρ y = .string b) (c : Bool) (hc : decide (a = b) = c) (W : World) : (execOp ρ o).run P W = .ok (.value (.bool c)) W := by
  have e := str_eq hc
  unfold execOp
  simp [go_sem, ho, hx, hy]
  exact e
theorem exec_neS {ρ : Operand → Value} {o : Oper} (t r : TypeId) (x y : Operand) (ho : o.op = .binOp .neq t x y r) (a b : ByteArray) (hx : ρ x = .string a) (hy : ρ y = .string b) (c : Bool) (hc : decide (a = b) = c) (W : World) : (execOp ρ o).run P W = .ok (.value (.bool (!c))) W := by
  have e := str_eq hc
  unfold execOp
  simp [go_sem, ho, hx, hy]
  first | exact e | (rw [e]) | (rw [← e]; rfl)
/-- two arrays, or structs, compared -/
theorem exec_eqA {ρ : Operand → Value} {o : Oper} (t r : TypeId) (x y : Operand) (ho : o.op = .binOp .eql t x y r) (xs ys : Array Value) (hx : ρ x = .agg xs) (hy : ρ y = .agg ys) (hm : P.eqGuardType P.depth t = false) (c : Bool) (W : World) (hv : (Op.equal t (.agg xs) (.agg ys)).run P W = .ok c W) : (execOp ρ o).run P W = .ok (.value (.bool c)) W := by
  unfold execOp
  simp only [ho, hx, hy, Sem.run_bind, run_eqGuard_agg W .eql t x y xs ys hm, binOp, hv, Result.andThen_ok, Sem.run_pure]
theorem exec_neA {ρ : Operand → Value} {o : Oper} (t r : TypeId) (x y : Operand) (ho : o.op = .binOp .neq t x y r) (xs ys : Array Value) (hx : ρ x = .agg xs) (hy : ρ y = .agg ys) (hm : P.eqGuardType P.depth t = false) (c : Bool) (W : World) (hv : (Op.equal t (.agg xs) (.agg ys)).run P W = .ok c W) : (execOp ρ o).run P W = .ok (.value (.bool (!c))) W := by
  unfold execOp
  simp only [ho, hx, hy, Sem.run_bind, run_eqGuard_agg W .neq t x y xs ys hm, binOp, hv, Result.andThen_ok, Sem.run_pure]
/-! a store of what is there already leaves the world as it is -/
theorem modify_same {h : Array Obj} {g : Nat} {f : Obj → Obj} {o : Obj} (hg : h[g]? = some o) (hf : f o = o) : h.modify g f = h := by
  apply Array.ext_getElem?
  intro i
  rw [Array.getElem?_modify]
  split
  · rename_i e
    subst e
    rw [hg]
    simp [hf]
  · rfl
theorem setRow_same {g : Nat} {t : TypeId} {cs : Array Value} (h : Blk w g t cs) : w.setRow g cs = w := by
  unfold World.setRow
  rw [modify_same (f := _) h rfl]
theorem setCell_same {g i : Nat} {t : TypeId} {cs : Array Value} {v : Value} (h : Blk w g t cs) (hv : cs[i]? = some v) : w.setCell ⟨g, i, none⟩ v = w := by
  have e : cs.setIfInBounds i v = cs := by
    apply Array.ext_getElem?
    intro k
    rw [Array.getElem?_setIfInBounds]
    split
    · rename_i e
      subst e
      have hi := (Array.getElem?_eq_some_iff.1 hv).1
      rw [if_pos hi, hv]
    · rfl
  have hm : w.heap.modify g (fun | .cells c elem frozen => .cells (if (none : Option Nat).isSome then c else c.setIfInBounds i v) elem frozen | o => o) = w.heap := modify_same h (by simp [e])
  show ({ w with heap := w.heap.modify g _ } : World) = w
  have h2 : ({ w with heap := w.heap.modify g (fun | .cells c elem frozen => .cells (if (none : Option Nat).isSome then c else c.setIfInBounds i v) elem frozen | o => o) } : World) = w := by rw [hm]
  exact h2
theorem exec_store_same {ρ : Operand → Value} {o : Oper} (ty : TypeId) (x y : Operand) (ho : o.op = .store ty x y) {g : Nat} {t : TypeId} {cs : List Value} (hb : Blk w g t cs.toArray) (hi : (P.info? ty).map (·.size) = some cs.toArray.size) (h1 : cs.toArray.all (·.oneCell') = true)
    (hx : ρ x = .pointer (some ⟨g, 0, none⟩)) (hy : ρ y = .agg cs.toArray) : (execOp ρ o).run P w = .ok .skip w := by
  have hrun := run_storeVar_row (P := P) w g t ty cs.toArray cs.toArray hb hi rfl h1
  unfold execOp
  simp only [ho, hx, hy, Instr.storeAt, Instr.sureAddr, Sem.run_bind, Sem.run_pure, Result.andThen_ok, hrun, setRow_same hb]
theorem exec_store_same1 {ρ : Operand → Value} {o : Oper} (ty : TypeId) (x y : Operand) (ho : o.op = .store ty x y) {g i : Nat} {t : TypeId} {cs : Array Value} {v : Value} (hb : Blk w g t cs) (hv : cs[i]? = some v) (hs : (P.info? ty).map (·.size) = some 1) (h1 : v.oneCell' = true)
    (hx : ρ x = .pointer (some ⟨g, i, none⟩)) (hy : ρ y = v) : (execOp ρ o).run P w = .ok .skip w := by
  have hi := (Array.getElem?_eq_some_iff.1 hv).1
  have hr : (storeVar ty ⟨g, i, none⟩ v).run P w = .ok () (w.setCell ⟨g, i, none⟩ v) := by
    have := run_storeCells_cells (P := P) g i [v] 0 w (fun j hj => by
      have hj0 : j = 0 := by simpa using hj
      subst hj0
      rw [Nat.add_zero, hb.cell, Array.getElem?_eq_getElem hi]
      rfl) (fun j _ => hb.frozen _) (fun u hu => by rw [List.mem_singleton.1 hu]; exact h1)
    have hc : v.cells = #[v] := by cases v <;> first | rfl | cases h1
    cases hq : P.info? ty with
    | none => simp [hq] at hs
    | some j =>
      have hs : j.size = 1 := by simpa [hq] using hs
      simp only [Nat.add_zero] at this
      simp [storeVar, sizeOf, typeInfo, hq, hc, hs, this]
      rfl
  unfold execOp
  simp only [ho, hx, hy, Instr.storeAt, Instr.sureAddr, Sem.run_bind, Sem.run_pure, Result.andThen_ok, hr, setCell_same hb hv]
theorem Fre.made_same {ops : Array Oper} {L : Fre.MadeL} {w0 : World} {rest : List Oper} {o : Oper} {a : Act} {Q : Act → Prop} {X : World → World → Prop} (hB : Fre.looksB (L.map (·.1)) ops o = true) (hw : Region.wanted o (yielded ops a.tmps) = true) (hd : o.dst.bind (Fre.madeBy L) = none)
    (hrun : ∀ w, Fre.Ext X w0 w → (execOp a.eval o).run P w = .ok .skip w) (h : Fre.wpMade X P ops (Fre.madeBy L) w0 Q rest (a.put o.dst undef)) : Fre.wpMade X P ops (Fre.madeBy L) w0 Q (o :: rest) a := by
  refine ⟨undef, fun b w hx hb _ => ⟨fun _ => ?_, fun h2 => ?_⟩, h⟩
  · rw [hd, Fre.looksB_exec hB hb, hrun w hx]
    exact ⟨rfl, rfl⟩
  · rw [Fre.looksB_wanted hB hb, hw] at h2; cases h2
/-- one value in a box -/
theorem wpList_box1 {ops : Array Oper} {rest : List Oper} {o : Oper} {a : Act} {Q : Exit → Act → World → Prop} (hg : o.guard = none) (ty : TypeId) (x : Operand) (ho : o.op = .box ty x) (v : Value) (h1 : v.oneCell' = true) (hx : a.eval x = v)
    (h : ∀ w', New1 w w' ty #[v] → wpList P ops Q rest (a.put o.dst (.pointer (some ⟨w.heap.size, 0, none⟩))) w') : wpList P ops Q (o :: rest) a w := by
  have hc : v.cells = #[v] := by cases v <;> first | rfl | cases h1
  refine wpList_value hg (.pointer (some ⟨w.heap.size, 0, none⟩)) (w.alloc (.cells #[v] ty)) ?_ (h _ (new1_alloc w ty #[v]))
  rw [← hc]
  unfold execOp
  simp only [ho, hx]
  rfl
/-- the memory but for a block that something turned -/
def Ent.no : Ent := ⟨fun _ => False, fun _ => True⟩
theorem Mem.lose {w0 w w' : World} {L : List Ent} {g : Nat} {t : TypeId} {cs : Array Value} (h : Mem w0 w L) (i : Nat) (hi : L[i]? = some (blkE g t cs)) (hg : w.grownBy w' (some g)) : Mem w0 w' (L.set i Ent.no) :=
  h.upd i hi hg (fun _ hb => (Option.some.inj hb).symm) (fun _ _ _ _ => trivial) trivial fun _ hf => False.elim hf
/-- things that a drawn region makes -/
def MadeE (w : World) (E : Value → Ent) (u : Value) (W : World) : Prop := (E u).P W ∧ ∀ b, (E u).F b → w.heap.size ≤ b ∧ b < W.heap.size
theorem madeE_ok (w : World) {E : Value → Ent} (h : ∀ u, (E u).Ok) : Fre.MadeOk Bel (MadeE w E) := ⟨fun u W W' hV hx => ⟨h u W W' hV.1 fun b _ hl => Below.block hx b hl, fun b hf => ⟨(hV.2 b hf).1, Nat.lt_of_lt_of_le (hV.2 b hf).2 (Below.size hx)⟩⟩⟩
/-- the same, of things that are told of by more than the value -/
def MadeX {α : Type} (w : World) (E : Value → α → Ent) (u : Value) (W : World) : Prop := ∃ x, (E u x).P W ∧ ∀ b, (E u x).F b → w.heap.size ≤ b ∧ b < W.heap.size
theorem madeX_ok {α : Type} (w : World) {E : Value → α → Ent} (h : ∀ u x, (E u x).Ok) : Fre.MadeOk Bel (MadeX w E) := ⟨fun u W W' ⟨x, hV⟩ hx => ⟨x, h u x W W' hV.1 fun b _ hl => Below.block hx b hl, fun b hf => ⟨(hV.2 b hf).1, Nat.lt_of_lt_of_le (hV.2 b hf).2 (Below.size hx)⟩⟩⟩
/-- one thing of a row of one's own -/
theorem own_at {α : Type} {f : α → List Value} {w : World} {B s g n cap k : Nat} {t : TypeId} {l : List α} {x : α} (h0 : 0 < s) (h : w.ownsRow B t s (.slice (some ⟨g, 0, none⟩) n cap) l.length (l.flatMap f)) (hl : ∀ x ∈ l, (f x).length = s) (hx : l[k]? = some x) : w.rangeAt g (k * s) (f x) := by
  rcases owned_formN h with ⟨h1, _⟩ | ⟨g', cap', cur, h1, _, _, _, hb, _, ht, _⟩
  · cases h1
  · injection h1 with e1 e2 e3
    injection e1 with e1
    injection e1 with e1
    subst e1
    intro j v hv
    have h2 := flatC_at h0 l hl k x hx j v hv
    rw [← ht] at h2
    rw [hb.cell, ← Array.getElem?_toList]
    rw [List.getElem?_take] at h2
    split at h2
    · exact h2
    · cases h2
/-- a row of one's own that is not empty -/
theorem own_is {w : World} {B s k : Nat} {t : TypeId} {u : Value} {xs : List Value} (h : w.ownsRow B t s u k xs) (hk : 0 < k) : ∃ g cap, u = .slice (some ⟨g, 0, none⟩) k cap ∧ g < w.heap.size := by
  obtain ⟨g, cap, e⟩ := owned_placeN h hk
  exact ⟨g, cap, e, (owned_ltN h (by rw [e]; rfl)).2⟩
theorem own_len {w : World} {B s k : Nat} {t : TypeId} {u : Value} {xs : List Value} (h : w.ownsRow B t s u k xs) : ∃ A cap, u = .slice A k cap := by
  rcases owned_formN h with ⟨h1, h2, _⟩ | ⟨g, cap, cur, h1, _⟩
  · exact ⟨none, 0, by rw [h1, h2]⟩
  · exact ⟨_, _, h1⟩
theorem Mem.seq {w0 w w' : World} {L L' : List Ent} (h : Mem w0 w L) (k : Mem w w' L') : Mem w0 w' (L' ++ L) := by
  have h2 := h.call k.below
  refine ⟨h2.below, fun e he => ?_, fun e he => ?_, fun e he b hf => ?_, List.pairwise_append.2 ⟨k.far, h2.far, fun x hx y hy b h1 h3 => ?_⟩⟩
  · rcases List.mem_append.1 he with he | he
    · exact k.ok e he
    · exact h2.ok e he
  · rcases List.mem_append.1 he with he | he
    · exact k.holds e he
    · exact h2.holds e he
  · rcases List.mem_append.1 he with he | he
    · exact ⟨Nat.le_trans h.below.size (k.lo e he b hf).1, (k.lo e he b hf).2⟩
    · exact h2.lo e he b hf
  · have := (k.lo x hx b h1).1
    have := (h.lo y hy b h3).2
    omega
end
end Go.Proofs.Ytidiepbmbbflhaa
end
section
namespace Go.Proofs.Ytidiepbmbbflhaa
open Go Go.RowKit Go.Maps
set_option maxRecDepth 100000
/-- the derivation of a class; an empty one where there is none -/
def findD (l : List Itm) (c : Hsh) : Drv := ((l.find? fun x => decide (x.1 = c)).map (·.2)).getD (⟨#[]⟩, [], [])
theorem findD_len {l : List Itm} {c : Hsh} {d : Drv} {n : Nat} (h : d = findD l c) (hl : ∀ x ∈ l, x.2.2.1.length ≤ n) : d.2.1.length ≤ n := by
  rw [h]
  unfold findD
  cases e : l.find? fun x => decide (x.1 = c) with
  | none => exact Nat.zero_le _
  | some x => exact hl x (List.mem_of_find?_eq_some e)
theorem clsP_le (l : List Nam) : (clsP l).length ≤ l.length := by have := clsP_len l l.length; rwa [List.take_length] at this
theorem dC_one {w : World} {B : Nat} {d : Drv} {u1 u2 : Value} (h : OwnDrv w B d u1 u2) : (dC d u1 u2).toArray.all (·.oneCell') = true := by
  obtain ⟨A1, n1, c1, A2, n2, c2, rfl, rfl⟩ := h.form
  refine all_oneCell_toArray fun v hv => ?_
  simp only [dC, List.mem_cons, List.not_mem_nil, or_false] at hv
  rcases hv with rfl | rfl | rfl <;> rfl
theorem placeH_mem {H : Type} [DecidableEq H] {l : List H} {c : H} (h : c ∈ l) : ∃ p : Nat, placeH l c = (p : Int) ∧ p = l.idxOf c ∧ p < l.length := by
  refine ⟨l.idxOf c, ?_, rfl, List.idxOf_lt_length_iff.2 h⟩
  unfold placeH
  rw [if_pos h]
/-- is a class an input of one of some? -/
def usedP (l : List Itm) (all : List Hsh) (c : Hsh) : Bool := all.any fun h => decide (c ∈ clsP (findD l h).2.1)
theorem usedP_yes {l : List Itm} {all : List Hsh} {c : Hsh} {j : Nat} {z : Hsh} (hz : all[j]? = some z) (h : c ∈ clsP (findD l z).2.1) : usedP l all c = true :=
  List.any_eq_true.2 ⟨z, List.mem_of_getElem? hz, decide_eq_true h⟩
theorem usedP_no {l : List Itm} {all : List Hsh} {c : Hsh} (h : ∀ z ∈ all, c ∉ clsP (findD l z).2.1) : usedP l all c = false := by
  unfold usedP
  rw [List.any_eq_false]
  intro z hz
  simpa using h z hz
end Go.Proofs.Ytidiepbmbbflhaa
end
section
namespace Go.Proofs.Ytidiepbmbbflhaa
open Go Go.RowKit
theorem run_build2 {P : Program} {t n1 n2 : Nat} {fields : Array Field} {z v1 v2 : Value} (ht : P.underlying t = some (.struct fields)) (hz : ∀ w, (zeroValue t).run P w = .ok z w) (hzs : z.cells.size = n1 + n2)
    (hpl : ∀ w, (fields.mapM fun f => do pure (f.offset, ← sizeOf f.type) : Sem (Array (Nat × Nat))).run P w = .ok #[(0, n1), (n1, n2)] w) (h1 : v1.cells.size = n1) (h2 : v2.cells.size = n2) (w : World) :
    (Instr.build t #[(0, v1), (1, v2)]).run P w = .ok (.agg (v1.cells ++ v2.cells)) w := by
  have hfill : Instr.fill (fun i => (#[(0, n1), (n1, n2)] : Array (Nat × Nat))[i]?) z.cells [(0, v1), (1, v2)] = some (v1.cells ++ v2.cells) := by
    rw [fill_part _ _ 0 v1 _ 0 (by simp [h1]) (by omega)]
    rw [fill_part _ _ 1 v2 [] n1 (by simp [h2]) (by simp; omega)]
    unfold Instr.fill
    congr 1
    apply Array.ext'
    have e1 : v1.cells.toList.length = n1 := by rw [Array.length_toList, h1]
    have e2 : z.cells.toList.length = n1 + n2 := by rw [Array.length_toList, hzs]
    simp only [List.take_zero, List.nil_append, Array.toList_append, Nat.zero_add, h1, h2]
    rw [List.take_left' e1, List.drop_of_length_le (by rw [List.length_append, List.length_drop]; omega), List.append_nil]
  unfold Instr.build
  simp only [Sem.run_bind, hz, Result.andThen_ok, run_underlying ht]
  rw [hpl]
  simp only [Result.andThen_ok]
  rw [hfill]
  rfl
theorem exec_build2 {P : Program} {ρ : Operand → Value} {o : Oper} (t : TypeId) (x y : Operand) (ho : o.op = .build t #[(0, x), (1, y)]) {n1 n2 : Nat} {fields : Array Field} {z v1 v2 : Value} (hx : ρ x = v1) (hy : ρ y = v2) (ht : P.underlying t = some (.struct fields)) (hz : ∀ w, (zeroValue t).run P w = .ok z w) (hzs : z.cells.size = n1 + n2)
    (hpl : ∀ w, (fields.mapM fun f => do pure (f.offset, ← sizeOf f.type) : Sem (Array (Nat × Nat))).run P w = .ok #[(0, n1), (n1, n2)] w) (h1 : v1.cells.size = n1) (h2 : v2.cells.size = n2) (w : World) :
    (execOp ρ o).run P w = .ok (.value (.agg (v1.cells ++ v2.cells))) w := by
  have h := run_build2 (P := P) ht hz hzs hpl h1 h2 w
  unfold execOp
  simp only [ho, List.map_toArray, List.map_cons, List.map_nil, hx, hy, Sem.run_bind, h, Result.andThen_ok, Sem.run_pure]
end Go.Proofs.Ytidiepbmbbflhaa
end
section
namespace Go.Proofs.Ytidiepbmbbflhaa
open Go Go.RowKit Go.Maps
set_option maxRecDepth 100000
theorem hszL {h : Hsh} (hh : okH h) : (Try.prog.info? 27).map (·.size) = some (bv h).length := by have := hszD hh; simpa using this
theorem bv_1 (h : Hsh) : (bv h).toArray.all (·.oneCell') = true := all_oneCell_toArray (bv1 _)
theorem zcH_sz : (Try.prog.info? 27).map (·.size) = some zcH.size := by kernel_rfl
theorem zcD_sz : (Try.prog.info? 34).map (·.size) = some zcD.size := by kernel_rfl
theorem zcT_sz : (Try.prog.info? 43).map (·.size) = some zcT.size := by kernel_rfl
theorem dC_sz (d : Drv) (v1 v2 : Value) : (Try.prog.info? 34).map (·.size) = some (dC d v1 v2).toArray.size := by kernel_rfl
theorem dC_szl (d : Drv) (v1 v2 : Value) : (Try.prog.info? 34).map (·.size) = some (dC d v1 v2).length := by kernel_rfl
theorem dC_1 (d : Drv) {v1 v2 : Value} (h1 : v1.oneCell' = true) (h2 : v2.oneCell' = true) : (dC d v1 v2).toArray.all (·.oneCell') = true := all_oneCell_toArray fun v hv => by
  simp only [dC, List.mem_cons, List.not_mem_nil, or_false] at hv
  rcases hv with rfl | rfl | rfl
  · rfl
  · exact h1
  · exact h2
theorem tC_szl {x : Itm} {v1 v2 : Value} (h : okH x.1) : (Try.prog.info? 43).map (·.size) = some (tC x v1 v2).length := by rw [tC_len h]; kernel_rfl
theorem tC_sz {x : Itm} {v1 v2 : Value} (h : okH x.1) : (Try.prog.info? 43).map (·.size) = some (tC x v1 v2).toArray.size := by rw [List.size_toArray]; exact tC_szl h
theorem tC_1 (x : Itm) {v1 v2 : Value} (h1 : v1.oneCell' = true) (h2 : v2.oneCell' = true) : (tC x v1 v2).toArray.all (·.oneCell') = true := all_oneCell_toArray (tC_one x h1 h2)
theorem dC_ins {w : World} {b o : Nat} {d : Drv} {v1 v2 : Value} (h : w.rangeAt b o (dC d v1 v2)) : w.rangeAt b (o + 1) [v1] := range_mid (pre := [.string d.1]) (post := [v2]) h rfl rfl
theorem dC_rcp {w : World} {b o : Nat} {d : Drv} {v1 v2 : Value} (h : w.rangeAt b o (dC d v1 v2)) : w.rangeAt b (o + 2) [v2] := range_mid (pre := [.string d.1, v1]) (post := []) h rfl rfl
theorem dC_name {w : World} {b o : Nat} {d : Drv} {v1 v2 : Value} (h : w.rangeAt b o (dC d v1 v2)) : w.rangeAt b o [.string d.1] := rangeAt_left (c2 := [v1, v2]) h
theorem DrvAt.ones {w : World} {B : Nat} {d : Drv} {v1 v2 : Value} (h : DrvAt w B d v1 v2) : v1.oneCell' = true ∧ v2.oneCell' = true := by
  obtain ⟨A, cap, rfl, _⟩ := slice_open h.ins
  obtain ⟨A2, cap2, rfl, _⟩ := slice_open h.rcp
  exact ⟨rfl, rfl⟩
theorem OwnDrv.ones {w : World} {B : Nat} {d : Drv} {v1 v2 : Value} (h : OwnDrv w B d v1 v2) : v1.oneCell' = true ∧ v2.oneCell' = true := by
  obtain ⟨A1, n1, c1, A2, n2, c2, rfl, rfl⟩ := h.form
  exact ⟨rfl, rfl⟩
/-- a derivation in rows of its own, as a thing in memory -/
def drvE (B : Nat) (d : Drv) (u1 u2 : Value) : Ent := ⟨fun b => u1.ownBlock = some b ∨ u2.ownBlock = some b, fun w => OwnDrv w B d u1 u2⟩
theorem drvE_ok (B : Nat) (d : Drv) (u1 u2 : Value) : (drvE B d u1 u2).Ok := fun _ _ h hk => ⟨h.name, h.okn, h.okb, owned_keepN h.own1 fun g hg hl => hk g (.inl hg) hl, owned_keepN h.own2 fun g hg hl => hk g (.inr hg) hl⟩
theorem drvE_lt {w : World} {B : Nat} {d : Drv} {u1 u2 : Value} (h : OwnDrv w B d u1 u2) {b : Nat} (hf : (drvE B d u1 u2).F b) : B ≤ b ∧ b < w.heap.size := by
  rcases hf with hf | hf
  · exact owned_ltN h.own1 hf
  · exact owned_ltN h.own2 hf
theorem drv_made {w w' : World} {d : Drv} {u1 u2 : Value} (h : OwnDrv w' w.heap.size d u1 u2) (hb : Below w.heap.size w w') : Mem w w' [drvE w.heap.size d u1 u2] :=
  (Mem.start w).new hb (drvE_ok _ _ _ _) h fun _ hf => drvE_lt h hf
/-- a row of one's own, each thing of cells that tell it by a word, is read -/
theorem own_sliceB {α β : Type} {f : β → List Value} {pr : β → α} {t e : TypeId} {L : Lay α} (h0 : 0 < L.n) {w : World} {R : Nat} {v : Value} {l : List β} (hown : w.ownsRow R e L.n v l.length (l.flatMap f)) (B : Nat) (hB : w.heap.size ≤ B) (hat : ∀ x ∈ l, L.At w B (f x) (pr x)) : (Lay.slice t L).At w B [v] (l.map pr) := by
  have hlen : ∀ x ∈ l, (f x).length = L.n := fun x hx => L.len (hat x hx)
  rcases owned_formN hown with ⟨rfl, hl, _⟩ | ⟨g, cap, cur, rfl, hbg, hnc, hcm, hg, hcs, htake, _⟩
  · obtain rfl := List.eq_nil_of_length_eq_zero hl
    exact ⟨none, 0, rfl, Nat.le_refl _, Nat.zero_le _, (fun _ => rfl), fun h => absurd h (by simp)⟩
  · refine ⟨_, cap, by rw [List.length_map], by rw [List.length_map]; exact hnc, hcm, (fun h => by cases h), fun _ => ⟨g, 0, rfl, by have := hg.lt; omega, fun j x hj => ?_⟩⟩
    rw [List.getElem?_map] at hj
    cases hy : l[j]? with
    | none => rw [hy] at hj; cases hj
    | some y =>
      rw [hy] at hj
      have hxy : pr y = x := Option.some.inj hj
      subst hxy
      refine ⟨f y, fun i u hu => ?_, hat y (List.mem_of_getElem? hy)⟩
      have h2 := flatC_at h0 l hlen j y hy i u hu
      rw [hg.cell, ← Array.getElem?_toList, Nat.zero_add]
      rw [← htake] at h2
      have hlt : j * L.n + i < l.length * L.n := by
        have := (List.getElem?_eq_some_iff.1 h2).1
        rw [List.length_take] at this
        omega
      rwa [List.getElem?_take_of_lt hlt] at h2
/-- an item, and where its rows lie -/
abbrev ItmV := Itm × Value × Value
def tV (p : ItmV) : List Value := tC p.1 p.2.1 p.2.2
def drvV (B : Nat) (p : ItmV) : Ent := drvE B p.1.2 p.2.1 p.2.2
theorem drvV_ok (B : Nat) (p : ItmV) : (drvV B p).Ok := drvE_ok _ _ _ _
/-- items in rows of one's own -/
def itmsL (B : Nat) (u : Value) (ls : List ItmV) : List Ent := [ownE B 43 23 u ls.length (ls.flatMap tV), Ent.all ls (drvV B)]
theorem itms_at {w0 w : World} {B : Nat} {u : Value} {ls : List ItmV} (h : Mem w0 w (itmsL B u ls)) (hok : ∀ p ∈ ls, okH p.1.1) {N : Nat} (hN : w.heap.size ≤ N) : itmsLay.At w N [u] (ls.map (·.1)) :=
  own_sliceB (L := itmLay) (f := tV) (pr := (·.1)) (by decide) (h.own 0 rfl) N hN fun p hp => itmLay_at.2 ⟨p.2.1, p.2.2, rfl, hok p hp, (show OwnDrv w B p.1.2 p.2.1 p.2.2 from (h.get (e := Ent.all ls (drvV B)) 1 rfl).1 p hp).at_ hN⟩
theorem OwnDrv.base {w : World} {B B' : Nat} {d : Drv} {u1 u2 : Value} (h : OwnDrv w B d u1 u2) (hB : ∀ b, (drvE B d u1 u2).F b → B' ≤ b) : OwnDrv w B' d u1 u2 :=
  ⟨h.name, h.okn, h.okb, owned_baseN h.own1 fun g hg => hB g (.inl hg), owned_baseN h.own2 fun g hg => hB g (.inr hg)⟩
theorem itms_lower {w0 w : World} {B B' : Nat} {u : Value} {ls : List ItmV} (h : Mem w0 w (itmsL B u ls)) (hB : B' ≤ w0.heap.size) : Mem w0 w (itmsL B' u ls) := by
  have h1 := h.refit (e' := ownE B' 43 23 u ls.length (ls.flatMap tV)) 0 rfl (ownE_ok _ _ _ _ _ _) (owned_baseN (h.own 0 rfl) fun g hg => Nat.le_trans hB (h.from_ (e := ownE B 43 23 u ls.length (ls.flatMap tV)) 0 rfl hg).1) (fun _ hf => hf)
  have hp := h.get (e := Ent.all ls (drvV B)) 1 rfl
  exact h1.refit (e := Ent.all ls (drvV B)) (e' := Ent.all ls (drvV B')) 1 rfl (Ent.all_ok fun x _ => drvV_ok _ x) ⟨fun x hx => OwnDrv.base (hp.1 x hx) fun b hf => Nat.le_trans hB (h.from_ (e := Ent.all ls (drvV B)) 1 rfl ⟨x, hx, hf⟩).1, hp.2⟩ fun b hf => hf
theorem info_itm2 : (Try.prog.info? 43).map (fun i => (i.zero, i.size, i.bytes)) = some (some (.agg zcT), 23, 88) := by kernel_rfl
/-! what a drawn region makes: a derivation, an item, a row of one item -/
def DrvU (B : Nat) (d : Drv) (u : Value) (w : World) : Prop := ∃ p : Value × Value, u = .agg (dC d p.1 p.2).toArray ∧ OwnDrv w B d p.1 p.2
def ItmU (B : Nat) (x : Itm) (u : Value) (w : World) : Prop := ∃ p : Value × Value, u = .agg (tC x p.1 p.2).toArray ∧ OwnDrv w B x.2 p.1 p.2
def RowU (B : Nat) (x : Itm) (u : Value) (w : World) : Prop := ∃ (r : Nat) (p : Value × Value), u = .slice (some ⟨r, 0, none⟩) 1 1 ∧ B ≤ r ∧ Blk w r 43 (tC x p.1 p.2).toArray ∧ OwnDrv w B x.2 p.1 p.2
theorem OwnDrv.belo {w w' : World} {B : Nat} {d : Drv} {u1 u2 : Value} (h : OwnDrv w B d u1 u2) (hb : Below w.heap.size w w') : OwnDrv w' B d u1 u2 := drvE_ok B d u1 u2 w w' h fun b _ hl => hb.block b hl
theorem drvU_ok (B : Nat) (d : Drv) : Fre.MadeOk Bel (DrvU B d) := ⟨fun _ _ _ ⟨p, h1, h2⟩ hx => ⟨p, h1, h2.belo hx⟩⟩
theorem itmU_ok (B : Nat) (x : Itm) : Fre.MadeOk Bel (ItmU B x) := ⟨fun _ _ _ ⟨p, h1, h2⟩ hx => ⟨p, h1, h2.belo hx⟩⟩
theorem rowU_ok (B : Nat) (x : Itm) : Fre.MadeOk Bel (RowU B x) := ⟨fun _ _ _ ⟨r, p, h1, h0, h2, h3⟩ hx => ⟨r, p, h1, h0, h2.below hx h2.lt, h3.belo hx⟩⟩
theorem itmU_new {ρ : Operand → Value} {o : Oper} (x y : Operand) (ho : o.op = .build 43 #[(0, x), (1, y)]) (B : Nat) {c : Hsh} {d : Drv} (hc : okH c) {u : Value} {W : World} (h1 : ρ x = .agg (bv c).toArray) (h2 : ρ y = u) (hu : DrvU B d u W) : ∃ u' w', (execOp ρ o).run Try.prog W = .ok (.value u') w' ∧ Fre.Ext Bel W w' ∧ ItmU B (c, d) u' w' := by
  obtain ⟨p, rfl, hp⟩ := hu
  refine ⟨.agg (tC (c, d) p.1 p.2).toArray, W, ?_, Below.refl _ _, p, rfl, hp⟩
  refine Eq.trans (exec_build2 43 x y ho (n1 := 20) (n2 := 3) (z := .agg zcT) h1 h2 Try.underlying43 (fun w => by kernel_rfl) (by kernel_rfl) (fun w => by kernel_rfl) (by rw [Value.cells, List.size_toArray, bvL]; exact hc) (by rfl) W) ?_
  simp [Value.cells, tC]
theorem rowU_new {ρ : Operand → Value} {o : Oper} (x : Operand) (ho : o.op = .buildSlice 25 1 #[(0, x)]) (B : Nat) {y : Itm} (hy : okH y.1) {u : Value} {W : World} (hx : ρ x = u) (hu : ItmU B y u W) (hB : B ≤ W.heap.size) : ∃ u' w', (execOp ρ o).run Try.prog W = .ok (.value u') w' ∧ Fre.Ext Bel W w' ∧ RowU B y u' w' := by
  obtain ⟨p, rfl, hp⟩ := hu
  have hb : Below W.heap.size W (W.alloc (.cells (tC y p.1 p.2).toArray 43)) := (Below.refl _ W).alloc (Nat.le_refl _) _
  exact ⟨_, _, exec_buildSliceP (v := .agg (tC y p.1 p.2).toArray) 25 x ho hx Try.underlying25 (e := 43) (n := 23) sz_itm (by omega) (by omega) (z := .agg zcT) (fun w => by kernel_rfl) (by rw [Value.cells, List.size_toArray]; exact tC_len hy) W, hb, _, p, rfl, hB, Blk.new _ _ _, hp.belo hb⟩
end Go.Proofs.Ytidiepbmbbflhaa
end
section
namespace Go.Proofs.Ytidiepbmbbflhaa
open Go Go.RowKit
set_option maxRecDepth 100000
/-- an error that was thrown -/
def thrown (e : Int) : Value := .iface 28 (.int .i64 e)
theorem must_ok (e : Int) (w : World) : Calls Try.prog 36 #[.bool true, .int .i64 e] w fun x w' => x = .returned (.tuple #[]) ∧ w' = w := by
  go_enter Try.func36, Try.ntmps36
  go_wp2_with fail
  go_end0
  exact ⟨rfl, rfl⟩
theorem must_no (e : Int) (w : World) : Calls Try.prog 36 #[.bool false, .int .i64 e] w fun x w' => x = .panicked [{ v := thrown e, recovered := false }] ∧ w' = w := by
  go_enter Try.func36, Try.ntmps36
  go_wp2_with fail
  simp [bodyPost, thrown]
theorem assert_thrown {ρ : Operand → Value} {o : Oper} (x : Operand) (ho : o.op = .typeAssert x 20 28 true) (e : Int) (hx : ρ x = thrown e) (w : World) : (execOp ρ o).run Try.prog w = .ok (.value (.tuple #[.int .i64 e, .bool true])) w := by
  unfold execOp
  simp only [ho, hx]
  kernel_rfl
theorem catch_thrown (g : Nat) (x e : Int) (older : List PanicEntry) (w : World) (hb : Blk w g 28 #[.int .i64 x]) :
    CallsD Try.prog 35 #[.pointer (some ⟨g, 0, none⟩)] (.panicking ({ v := thrown e, recovered := false } :: older)) w fun r u' w' =>
      r = .returned (.tuple #[]) ∧ u' = .panicking ({ v := thrown e, recovered := true } :: older) ∧ Blk w' g 28 #[.int .i64 e] ∧ w.grownBy w' (some g) := by
  refine callsD_of_wpS Try.func35 rfl fun c₀ cs hu => ?_
  unfold thrown at hu ⊢
  apply wpS_seq
  apply wpS_region
  simp [wpOpsS, go_sem, recoverD, hu, Try.ntmps35, Exit.thenS]
  apply wpS_seq
  apply wpS_region
  simp [wpOpsS, go_sem, Exit.thenS]
  refine wpS_cond (t := true) (by simp [Act.eval, Array.replicate]) ?_
  simp only [if_true]
  refine wpS_of_wp ?_
  change Code.wp Try.prog _ _ { tmps := #[.pointer (some ⟨g, 0, none⟩), thrown e, undef, thrown e, thrown e, .bool true, undef, undef, undef, undef, undef, undef, undef, undef], defers := [] } w
  unfold thrown
  go_wp2_with (first | ((with_reducible refine at_slot 8 ?_); (refine wpList_value (o := ⟨some 8, _, _, _, _, _⟩) rfl (.tuple #[.int .i64 e, .bool true]) w (assert_thrown (.tmp 7) rfl e rfl w) ?_)) | ((with_reducible refine at_store 0 9 ?_); (refine wpList_store1 (o := ⟨none, _, _, _, _, _⟩) rfl 28 (.tmp 0) (.tmp 9) rfl g 0 28 #[.int .i64 x] hb (Nat.zero_lt_one) (by kernel_rfl) (.int .i64 e) rfl rfl rfl ?_); intro w8 hk hg hz; have H8 := hide (And.intro hk hg); clear hk hg hz; simp only [Act.put, List.setIfInBounds_toArray, List.set_cons_zero, List.set_cons_succ]))
  simp [bodyPostS, results, Try.results35]
  exact ⟨H8.out.1, H8.out.2⟩
theorem catch_none (p : Addr) (w : World) :
    CallsD Try.prog 35 #[.pointer (some p)] .returning w fun r u' w' => r = .returned (.tuple #[]) ∧ u' = .returning ∧ w' = w := by
  refine callsD_of_wpS Try.func35 rfl fun c₀ cs hu => ?_
  apply wpS_seq
  apply wpS_region
  simp [wpOpsS, go_sem, recoverD, hu, Try.ntmps35, Exit.thenS]
  apply wpS_seq
  apply wpS_region
  simp [wpOpsS, go_sem, Exit.thenS]
  refine wpS_cond (t := false) (by simp [Act.eval, Array.replicate]) ?_
  simp only [Bool.false_eq_true, if_false]
  refine wpS_of_wp (wp_skip ?_)
  cases c₀
  simp_all [bodyPostS, results, Try.results35]
set_option maxHeartbeats 1000000 in
/-- what is tried, and throws an error, ends with that error -/
theorem tried_no (fn : Nat) (cap : Array Value) (e0 : Int) (R : World → Prop) (w : World) (heg : ∀ args w, (callFunc fn args).run Try.prog w = .ok (.enter fn args) w)
    (hc : ∀ w1, New1 w w1 28 #[.int .i64 0] → Calls Try.prog fn cap w1 fun e w' => e = .panicked [{ v := thrown e0, recovered := false }] ∧ Blk w' w.heap.size 28 #[.int .i64 0] ∧ R w') :
    Calls Try.prog 18 #[.func (.func fn) #[] cap] w fun e w' => e = .returned (.int .i64 e0) ∧ ∃ w2, R w2 ∧ w2.grownBy w' (some w.heap.size) := by
  have hmf : ∀ (fn : Fn) (first cap : Array Value) (w : World), (Instr.makeFunc fn first cap).run Try.prog w = .ok (.func fn first cap) w := fun _ _ _ _ => rfl
  go_enter_defers Try.func18, Try.ntmps18
  go_wp2_with ((with_reducible refine at_slot 2 ?_); (refine wpList_newZ (o := ⟨some 2, _, _, _, _, _⟩) rfl 28 #[.int .i64 0] (by kernel_rfl) ?_); intro w1 hn; have H1 := hide hn; clear hn; simp only [Act.put, List.setIfInBounds_toArray, List.set_cons_zero, List.set_cons_succ])
  refine (hc w1 H1.out).mono ?_
  rintro e w2 ⟨rfl, hk, hR⟩
  dsimp only
  refine leaves_cons (f := 35) (args := #[.pointer (some ⟨w.heap.size, 0, none⟩)]) (by simp) (by simp [go_sem]) ?_
  refine (catch_thrown w.heap.size 0 e0 [] w2 hk).mono ?_
  rintro r u' w3 ⟨rfl, rfl, hk3, hg3⟩
  have c3 : w3.cell? ⟨w.heap.size, 0, none⟩ = some (.int .i64 e0) := hk3.cell 0
  simp [Leaves, settle, results, Try.results18, go_sem, c3]
  exact ⟨w2, hR, hg3⟩
set_option maxHeartbeats 1000000 in
/-- what is tried, and ends, is no error -/
theorem tried_ok (fn : Nat) (cap : Array Value) (R : World → Prop) (w : World) (heg : ∀ args w, (callFunc fn args).run Try.prog w = .ok (.enter fn args) w)
    (hc : ∀ w1, New1 w w1 28 #[.int .i64 0] → Calls Try.prog fn cap w1 fun e w' => e = .returned (.tuple #[]) ∧ Blk w' w.heap.size 28 #[.int .i64 0] ∧ R w') :
    Calls Try.prog 18 #[.func (.func fn) #[] cap] w fun e w' => e = .returned (.int .i64 0) ∧ ∃ w2, R w2 ∧ w2.grownBy w' (some w.heap.size) := by
  have hmf : ∀ (fn : Fn) (first cap : Array Value) (w : World), (Instr.makeFunc fn first cap).run Try.prog w = .ok (.func fn first cap) w := fun _ _ _ _ => rfl
  go_enter_defers Try.func18, Try.ntmps18
  go_wp2_with ((with_reducible refine at_slot 2 ?_); (refine wpList_newZ (o := ⟨some 2, _, _, _, _, _⟩) rfl 28 #[.int .i64 0] (by kernel_rfl) ?_); intro w1 hn; have H1 := hide hn; clear hn; simp only [Act.put, List.setIfInBounds_toArray, List.set_cons_zero, List.set_cons_succ])
  refine (hc w1 H1.out).mono ?_
  rintro e w2 ⟨rfl, hk, hR⟩
  dsimp only
  go_wp2_with ((with_reducible refine at_storeC 2 ?_); (refine wpList_store1 (o := ⟨none, _, _, _, _, _⟩) rfl 28 (.tmp 2) (.const (.int .i64 0)) rfl w.heap.size 0 28 #[.int .i64 0] hk (Nat.zero_lt_one) (by kernel_rfl) (.int .i64 0) rfl rfl rfl ?_); intro w8 hk8 hg8 hz8; have H8 := hide (And.intro hk8 hg8); clear hk8 hg8 hz8; simp only [Act.put, List.setIfInBounds_toArray, List.set_cons_zero, List.set_cons_succ])
  refine leaves_cons (f := 35) (args := #[.pointer (some ⟨w.heap.size, 0, none⟩)]) (by simp) (by simp [go_sem]) ?_
  refine (catch_none ⟨w.heap.size, 0, none⟩ w8).mono ?_
  rintro r u' w3 ⟨rfl, rfl, rfl⟩
  have c3 : w3.cell? ⟨w.heap.size, 0, none⟩ = some (.int .i64 0) := Blk.cell (t := 28) (cs := #[.int .i64 0]) H8.out.1 0
  simp [Leaves, settle, results, Try.results18, go_sem, c3]
  exact ⟨w2, hR, H8.out.2⟩
end Go.Proofs.Ytidiepbmbbflhaa
end
section
namespace Go.Proofs.Ytidiepbmbbflhaa.Sha
open Go

abbrev W := BitVec 32

/-- a byte as a word -/
def bw (b : UInt8) : W := BitVec.ofNat 32 b.toNat

/-- a word, right-turned by some numbers, put together -/
def mix (x : W) (ks : List Nat) : W := ks.foldl (fun acc k => acc ^^^ x.rotateRight k) 0

/-- four bytes of a block, the highest first -/
def word (b : List UInt8) (t : Nat) : W := (bw (b.getD (4 * t) 0) <<< 24) ||| (bw (b.getD (4 * t + 1) 0) <<< 16) ||| (bw (b.getD (4 * t + 2) 0) <<< 8) ||| bw (b.getD (4 * t + 3) 0)

/-- the words of a block, up to number n -/
def ws (b : List UInt8) : Nat → List W
  | 0 => []
  | t + 1 => ws b t ++ [if t < 16 then word b t else
      (mix ((ws b t).getD (t - 2) 0) [17, 19] ^^^ ((ws b t).getD (t - 2) 0) >>> 10) + (ws b t).getD (t - 7) 0 + (mix ((ws b t).getD (t - 15) 0) [7, 18] ^^^ ((ws b t).getD (t - 15) 0) >>> 3) + (ws b t).getD (t - 16) 0]
theorem length_ws (b : List UInt8) (t : Nat) : (ws b t).length = t := by induction t with | zero => rfl | succ t ih => simp [ws, ih]

/-- the constants of the rounds -/
def ks : List W := [
  0x428a2f98, 0x71374491, 0xb5c0fbcf, 0xe9b5dba5, 0x3956c25b, 0x59f111f1, 0x923f82a4, 0xab1c5ed5,
  0xd807aa98, 0x12835b01, 0x243185be, 0x550c7dc3, 0x72be5d74, 0x80deb1fe, 0x9bdc06a7, 0xc19bf174,
  0xe49b69c1, 0xefbe4786, 0x0fc19dc6, 0x240ca1cc, 0x2de92c6f, 0x4a7484aa, 0x5cb0a9dc, 0x76f988da,
  0x983e5152, 0xa831c66d, 0xb00327c8, 0xbf597fc7, 0xc6e00bf3, 0xd5a79147, 0x06ca6351, 0x14292967,
  0x27b70a85, 0x2e1b2138, 0x4d2c6dfc, 0x53380d13, 0x650a7354, 0x766a0abb, 0x81c2c92e, 0x92722c85,
  0xa2bfe8a1, 0xa81a664b, 0xc24b8b70, 0xc76c51a3, 0xd192e819, 0xd6990624, 0xf40e3585, 0x106aa070,
  0x19a4c116, 0x1e376c08, 0x2748774c, 0x34b0bcb5, 0x391c0cb3, 0x4ed8aa4a, 0x5b9cca4f, 0x682e6ff3,
  0x748f82ee, 0x78a5636f, 0x84c87814, 0x8cc70208, 0x90befffa, 0xa4506ceb, 0xbef9a3f7, 0xc67178f2]

/-- eight words -/
structure St where
  a : W
  b : W
  c : W
  d : W
  e : W
  f : W
  g : W
  h : W
deriving DecidableEq

def St.list (s : St) : List W := [s.a, s.b, s.c, s.d, s.e, s.f, s.g, s.h]
def first : St := ⟨0x6a09e667, 0xbb67ae85, 0x3c6ef372, 0xa54ff53a, 0x510e527f, 0x9b05688c, 0x1f83d9ab, 0x5be0cd19⟩

/-- the two sums of a round -/
def rp (s : St) (k w : W) : W := s.h + mix s.e [6, 11, 25] + (s.g ^^^ (s.e &&& (s.f ^^^ s.g))) + k + w
def rq (s : St) : W := mix s.a [2, 13, 22] + ((s.a &&& (s.b ||| s.c)) ||| (s.b &&& s.c))
/-- a round -/
def rnd (s : St) (k w : W) : St := ⟨rp s k w + rq s, s.a, s.b, s.c, s.d + rp s k w, s.e, s.f, s.g⟩
/-- so many rounds -/
def rnds (s : St) (b : List UInt8) : Nat → St
  | 0 => s
  | t + 1 => rnd (rnds s b t) (ks.getD t 0) ((ws b 64).getD t 0)
def St.add (s t : St) : St := ⟨s.a + t.a, s.b + t.b, s.c + t.c, s.d + t.d, s.e + t.e, s.f + t.f, s.g + t.g, s.h + t.h⟩
/-- a block -/
def comp (s : St) (b : List UInt8) : St := s.add (rnds s b 64)

/-- the bytes of eight words -/
def out (s : St) : List UInt8 := (List.range 32).map fun i => UInt8.ofNat (((s.list.getD (i / 4) 0) >>> (24 - i % 4 * 8)).toNat % 256)

end Go.Proofs.Ytidiepbmbbflhaa.Sha
end
section
namespace Go.Proofs.Ytidiepbmbbflhaa
/-- a number's bytes -/
def num (n : Nat) : List UInt8 := if n < 128 then [UInt8.ofNat n] else UInt8.ofNat (n % 128 + 128) :: num (n / 128)
termination_by n
decreasing_by omega
theorem num_lo {n : Nat} (h : n < 128) : num n = [UInt8.ofNat n] := by rw [num, if_pos h]
theorem num_hi {n : Nat} (h : ¬ n < 128) : num n = UInt8.ofNat (n % 128 + 128) :: num (n / 128) := by rw [num, if_neg h]
theorem num_pos (n : Nat) : 0 < (num n).length := by
  by_cases h : n < 128
  · rw [num_lo h]; simp
  · rw [num_hi h]; simp
theorem num_le (k : Nat) : ∀ n, n < 128 ^ (k + 1) → (num n).length ≤ k + 1 := by
  induction k with
  | zero => intro n h; rw [num_lo (by omega)]; simp
  | succ k ih =>
    intro n h
    by_cases h1 : n < 128
    · rw [num_lo h1]; simp
    · rw [num_hi h1, List.length_cons]
      have h2 : n / 128 < 128 ^ (k + 1) := by rw [Nat.div_lt_iff_lt_mul (by omega)]; rw [Nat.pow_succ] at h; exact h
      have := ih _ h2
      omega
theorem num_len (n : Nat) (h : n < 18446744073709551616) : (num n).length ≤ 10 := num_le 9 n (by omega)
end Go.Proofs.Ytidiepbmbbflhaa
end
section
namespace Go.Proofs.Ytidiepbmbbflhaa
open Go.RowKit

/-! words as numbers: a name that the walk does not look behind -/
def U (x : Sha.W) : Int := (x.toNat : Int)
theorem U_lo (x : Sha.W) : 0 ≤ U x := by unfold U; omega
theorem U_hi (x : Sha.W) : U x ≤ 4294967295 := by unfold U; have := x.isLt; omega
theorem U_zero : U 0 = 0 := rfl
theorem U_xor (x y : Sha.W) : bits .xor .u32 (U x) (U y) = U (x ^^^ y) := by
  unfold U; rw [u32_xor_nat _ _ x.isLt y.isLt, BitVec.toNat_xor]
theorem U_or (x y : Sha.W) : bits .or .u32 (U x) (U y) = U (x ||| y) := by
  unfold U; rw [u32_or_nat _ _ x.isLt y.isLt, BitVec.toNat_or]
theorem U_and (x y : Sha.W) : bits .and .u32 (U x) (U y) = U (x &&& y) := by
  unfold U; rw [u32_and_nat _ _ x.isLt y.isLt, BitVec.toNat_and]
theorem U_add' (x y : Sha.W) : (U x + U y) % 4294967296 = U (x + y) := by
  unfold U; rw [BitVec.toNat_add]; omega
theorem U_add (x y : Sha.W) : IntKind.u32.wrap (U x + U y) = U (x + y) := by
  rw [IntKind.wrap_u32', U_add']
theorem U_shl (x : Sha.W) (j : Nat) : U x * 2 ^ j % 4294967296 = U (x <<< j) := by
  unfold U; rw [BitVec.toNat_shiftLeft, Nat.shiftLeft_eq, Int.natCast_emod, Int.natCast_mul, Int.natCast_pow]; rfl
theorem U_shr (x : Sha.W) (j : Nat) : U x / 2 ^ j = U (x >>> j) := by
  unfold U; rw [BitVec.toNat_ushiftRight, Nat.shiftRight_eq_div_pow, Int.natCast_ediv, Int.natCast_pow]; rfl
theorem U_shr10 (x : Sha.W) : U x / 1024 = U (x >>> 10) := U_shr x 10
theorem U_shr3 (x : Sha.W) : U x / 8 = U (x >>> 3) := U_shr x 3
theorem U_bw (b : UInt8) : U (Sha.bw b) = (b.toNat : Int) := by
  unfold U Sha.bw; rw [BitVec.toNat_ofNat]; have := b.toNat_lt; omega

theorem and31 (k : Nat) (h1 : 1 ≤ k) (h2 : k ≤ 31) : bits .and .u64 (IntKind.u64.wrap (-(k:Int))) 31 = ((32 - k : Nat) : Int) := by
  have e : IntKind.u64.wrap (-(k:Int)) = ((18446744073709551616 - k : Nat) : Int) := by
    rw [IntKind.wrap_u64]; omega
  rw [e, show (31 : Int) = ((31 : Nat) : Int) from rfl, u64_and_nat _ _ (by omega) (by omega), nat_mask5]
  omega
theorem rot_eq (x : Sha.W) (k j : Nat) (h1 : 1 ≤ k) (h2 : k ≤ 31) (hj : j = 32 - k) :
    bits BinOp.or IntKind.u32 (U x * 2 ^ j % 4294967296) (U x / 2 ^ (32 - j)) = U (x.rotateRight k) := by
  subst hj
  rw [U_shl, U_shr, U_or, show 32 - (32 - k) = k by omega]
  congr 1
  rw [BitVec.or_comm, BitVec.rotateRight_def, Nat.mod_eq_of_lt (by omega)]

set_option maxHeartbeats 400000 in
theorem rot_any (x : Sha.W) (k : Nat) (h1 : 1 ≤ k) (h2 : k ≤ 31) (w : World) :
    Calls Try.prog 83 #[.int .u32 (U x), .int .i64 (-(k:Int))] w fun e w' => e = .returned (.int .u32 (U (x.rotateRight k))) ∧ w = w' := by
  have ha := and31 k h1 h2
  obtain ⟨j, hj⟩ : ∃ j, j = 32 - k := ⟨_, rfl⟩
  rw [← hj] at ha
  have hj1 : 1 ≤ j := by omega
  have hj2 : j ≤ 31 := by omega
  have H := hide hj
  clear hj
  go_enter Try.func83, Try.ntmps83
  go_wp2
  go_ret
  exact ⟨ret_int (rot_eq x k j h1 h2 H.out), rfl⟩

theorem mix_snoc (x : Sha.W) (l : List Nat) (k : Nat) : Sha.mix x (l ++ [k]) = Sha.mix x l ^^^ x.rotateRight k := by
  simp [Sha.mix, List.foldl_append]
theorem mix_step (x : Sha.W) (l : List Nat) (k : Nat) (hk : k < l.length) : Sha.mix x (l.take (k + 1)) = Sha.mix x (l.take k) ^^^ x.rotateRight (l.getD k 0) := by
  rw [List.take_succ_eq_append_getElem hk, mix_snoc]; simp [List.getD, hk]

set_option maxHeartbeats 400000 in
theorem mixed_any (x : Sha.W) (l : List Nat) (hl : ∀ k, k < l.length → 1 ≤ l.getD k 0 ∧ l.getD k 0 ≤ 31) (h8 : l.length ≤ 8) (b c : Nat) (w : World)
    (hc : ∀ k, k < l.length → w.cell? ⟨b, k, none⟩ = some (.int .i64 ((l.getD k 0 : Nat) : Int))) :
    Calls Try.prog 79 #[.int .u32 (U x), .slice (some ⟨b, 0, none⟩) l.length c] w fun e w' => e = .returned (.int .u32 (U (Sha.mix x l))) ∧ w = w' := by
  have HL := hide hl
  have HC := hide hc
  clear hl hc
  go_enter Try.func79, Try.ntmps79
  go_wp2
  go_loop [4, 9] (fun a i => ∃ k : Nat, k ≤ l.length ∧ i = .int .i64 k ∧ a = .int .u32 (U (Sha.mix x (l.take k)))) (fun _ i => l.length - (intOf i).toNat)
  case atStart => exact ⟨0, Nat.zero_le _, rfl, by rw [List.take_zero]; rfl⟩
  case round =>
    obtain ⟨k, hk, rfl, rfl⟩ := hrel
    by_cases hlt : k < l.length
    · have hx := U_xor (Sha.mix x (l.take k)) (x.rotateRight (l.getD k 0))
      have hb := HL.out k hlt
      have hcell := HC.out k hlt
      obtain ⟨d, hd⟩ : ∃ d, d = l.getD k 0 := ⟨_, rfl⟩
      rw [← hd] at hx hcell hb
      have HD := hide hd
      clear hd
      obtain ⟨hb1, hb2⟩ := hb
      go_wp2_with (go_at_call 83; refine (rot_any _ _ hb1 hb2 _).mono ?_; rintro e w' ⟨rfl, rfl⟩)
      go_round
      case rel => exact ⟨k + 1, by omega, by go_num, by rw [mix_step x l k hlt, ← HD.out]⟩
      case measure => simp [intOf]; omega
    · go_wp2
      go_ret
      exact ⟨ret_int (by rw [List.take_of_length_le (by omega)]), rfl⟩

theorem mixed2_any (x : Sha.W) (a b : Nat) (ha : 1 ≤ a ∧ a ≤ 31) (hb : 1 ≤ b ∧ b ≤ 31) (g c : Nat) (w : World) (h0 : w.cell? ⟨g, 0, none⟩ = some (.int .i64 (a : Int))) (h1 : w.cell? ⟨g, 1, none⟩ = some (.int .i64 (b : Int))) :
    Calls Try.prog 79 #[.int .u32 (U x), .slice (some ⟨g, 0, none⟩) 2 c] w fun e w' => e = .returned (.int .u32 (U (Sha.mix x [a, b]))) ∧ w = w' :=
  mixed_any x [a, b] (fun k hk => by match k, hk with | 0, _ => exact ha | 1, _ => exact hb) (by simp) g c w (fun k hk => by match k, hk with | 0, _ => exact h0 | 1, _ => exact h1)
theorem mixed3_any (x : Sha.W) (a b d : Nat) (ha : 1 ≤ a ∧ a ≤ 31) (hb : 1 ≤ b ∧ b ≤ 31) (hd : 1 ≤ d ∧ d ≤ 31) (g c : Nat) (w : World) (h0 : w.cell? ⟨g, 0, none⟩ = some (.int .i64 (a : Int))) (h1 : w.cell? ⟨g, 1, none⟩ = some (.int .i64 (b : Int)))
    (h2 : w.cell? ⟨g, 2, none⟩ = some (.int .i64 (d : Int))) :
    Calls Try.prog 79 #[.int .u32 (U x), .slice (some ⟨g, 0, none⟩) 3 c] w fun e w' => e = .returned (.int .u32 (U (Sha.mix x [a, b, d]))) ∧ w = w' :=
  mixed_any x [a, b, d] (fun k hk => by match k, hk with | 0, _ => exact ha | 1, _ => exact hb | 2, _ => exact hd) (by simp) g c w (fun k hk => by match k, hk with | 0, _ => exact h0 | 1, _ => exact h1 | 2, _ => exact h2)
end Go.Proofs.Ytidiepbmbbflhaa
end
section
namespace Go.Proofs.Ytidiepbmbbflhaa
open Go.RowKit
def uv (l : List Sha.W) : Array Value := (l.map fun x => Value.int .u32 (U x)).toArray
theorem uv_one (l : List Sha.W) : (uv l).all (·.oneCell') = true := by
  rw [Array.all_eq_true_iff_forall_mem]; intro v hv; simp [uv] at hv; obtain ⟨x, _, rfl⟩ := hv; rfl
theorem uv_get (l : List Sha.W) (i : Nat) (h : i < l.length) : (uv l)[i]? = some (.int .u32 (U (l.getD i 0))) := by
  simp [uv, h, List.getD]
theorem uv_set (l : List Sha.W) (i : Nat) (x : Sha.W) : (uv l).setIfInBounds i (.int .u32 (U x)) = uv (l.set i x) := by
  simp [uv, List.map_set]
theorem uv_size (l : List Sha.W) : (uv l).size = l.length := by simp [uv]
def uz : Array Value := uv (List.replicate 64 0)
theorem size147 : (Try.prog.info? 149).map (·.size) = some 64 := by kernel_rfl

set_option maxHeartbeats 400000 in
theorem first_any (w : World) : Calls Try.prog 58 #[] w fun e w' => e = .returned (.agg (uv Sha.first.list)) ∧ Below w.heap.size w w' := by
  go_enter Try.func58, Try.ntmps58
  go_wp2
  exact bodyPost_ret (results_cell_row rfl _ _ w.heap.size 115 _ (0,0) _ rfl (heap_alloc_new _ _) Try.underlying115 rfl (by kernel_rfl)) rfl ⟨rfl, (Below.refl _ _).alloc (Nat.le_refl _) _⟩

set_option maxHeartbeats 400000 in
theorem rounds_any (w : World) : Calls Try.prog 77 #[] w fun e w' => e = .returned (.agg (uv Sha.ks)) ∧ Below w.heap.size w w' := by
  go_enter Try.func77, Try.ntmps77
  go_step
  go_step
  apply wp_region_lit
  refine wpList_value (o := ⟨some 0, _, _, _, _, _⟩) rfl (.pointer (some ⟨w.heap.size, 0, none⟩)) (w.alloc (.cells uz 149)) ?ha ?_
  case ha => kernel_rfl
  dsimp only [Act.put, List.setIfInBounds_toArray, List.set_cons_zero, List.set_cons_succ]
  go_step
  go_step
  go_step
  go_step
  apply wp_region_lit
  refine wpList_value (o := ⟨some 1, _, _, _, _, _⟩) rfl (.agg (uv Sha.ks)) (w.alloc (.cells uz 149)) ?hb ?_
  case hb => kernel_rfl
  dsimp only [Act.put, List.setIfInBounds_toArray, List.set_cons_zero, List.set_cons_succ]
  refine wpList_store_blk (o := ⟨none, _, _, _, _, _⟩) rfl 149 _ _ rfl w.heap.size uz (uv Sha.ks) 149 (Blk.new _ _ _) (by rw [uv_size]; exact size147) (by rw [uv_size, uz, uv_size, List.length_replicate]; rfl) (uv_one _) rfl rfl ?_
  rw [World.setRow_alloc_new]
  dsimp only [Act.put]
  go_wp2
  exact bodyPost_ret (results_cell_row rfl _ _ w.heap.size 149 _ (0,0) _ rfl (heap_alloc_new _ _) Try.underlying149 rfl size147) rfl ⟨rfl, (Below.refl _ _).alloc (Nat.le_refl _) _⟩
/-- the words of a block so far, and noughts -/
def wz (B : List UInt8) (t : Nat) : List Sha.W := Sha.ws B t ++ List.replicate (64 - t) 0
theorem length_wz (B : List UInt8) (t : Nat) (h : t ≤ 64) : (wz B t).length = 64 := by simp [wz, Sha.length_ws]; omega

theorem wz_get (B : List UInt8) (t i : Nat) (h : i < t) : (wz B t).getD i 0 = (Sha.ws B t).getD i 0 := by
  simp [wz, List.getD, List.getElem?_append, Sha.length_ws, h]
theorem wz_step (B : List UInt8) (t : Nat) (x : Sha.W) (ht : t < 64) (hx : Sha.ws B (t + 1) = Sha.ws B t ++ [x]) : (wz B t).set t x = wz B (t + 1) := by
  unfold wz
  rw [hx, List.set_append_right _ _ (by rw [Sha.length_ws]; exact Nat.le_refl _), Sha.length_ws, Nat.sub_self, show 64 - t = (64 - (t + 1)) + 1 by omega, List.replicate_succ, List.set_cons_zero, List.append_assoc]
  rfl
theorem r17 : 1 ≤ 17 ∧ 17 ≤ 31 := by decide
theorem r19 : 1 ≤ 19 ∧ 19 ≤ 31 := by decide
theorem r7 : 1 ≤ 7 ∧ 7 ≤ 31 := by decide
theorem r18 : 1 ≤ 18 ∧ 18 ≤ 31 := by decide
theorem U_shr10' (x : Sha.W) : U x / (1024 : Int) = U (x >>> 10) := U_shr x 10
theorem U_shr3' (x : Sha.W) : U x / (8 : Int) = U (x >>> 3) := U_shr x 3
theorem byte_word (b : UInt8) : (b.toNat : Int) % 4294967296 = U (Sha.bw b) := by
  rw [U_bw]; have := b.toNat_lt; omega
theorem word_eq (B : List UInt8) (t : Nat) (x0 x1 x2 x3 : UInt8) (h : B.getD (4 * t) 0 = x0 ∧ B.getD (4 * t + 1) 0 = x1 ∧ B.getD (4 * t + 2) 0 = x2 ∧ B.getD (4 * t + 3) 0 = x3) :
    bits BinOp.or IntKind.u32 (bits BinOp.or IntKind.u32 (bits BinOp.or IntKind.u32 ((x0.toNat : Int) % 4294967296 * 16777216 % 4294967296) ((x1.toNat : Int) % 4294967296 * 65536 % 4294967296))
      ((x2.toNat : Int) % 4294967296 * 256 % 4294967296)) ((x3.toNat : Int) % 4294967296) = U (Sha.word B t) := by
  obtain ⟨rfl, rfl, rfl, rfl⟩ := h
  simp only [byte_word]
  rw [show (16777216 : Int) = 2 ^ 24 from rfl, show (65536 : Int) = 2 ^ 16 from rfl, show (256 : Int) = 2 ^ 8 from rfl, U_shl, U_shl, U_shl, U_or, U_or, U_or]
  rfl

set_option maxRecDepth 100000 in
set_option maxHeartbeats 1000000 in
theorem spread_any (B : List UInt8) (_hB : B.length = 64) (g off : Nat) (w : World)
    (hc : ∀ j, j < 64 → w.cell? ⟨g, off + j, none⟩ = some (.int .u8 ((B.getD j 0).toNat : Int))) :
    Calls Try.prog 78 #[.pointer (some ⟨g, off, none⟩)] w fun e w' => e = .returned (.agg (uv (Sha.ws B 64))) ∧ Below w.heap.size w w' := by
  have hg : g < w.heap.size := World.block_lt_of_cell? w _ (hc 0 (by omega))
  have HC := hide hc
  clear hc
  obtain ⟨N, hN⟩ : ∃ N, N = w.heap.size := ⟨_, rfl⟩
  have HN := hide hN
  clear hN
  go_enter Try.func78, Try.ntmps78
  go_step
  go_step
  apply wp_region_lit
  refine wpList_value (o := ⟨some 2, _, _, _, _, _⟩) rfl (.pointer (some ⟨N, 0, none⟩)) (w.alloc (.cells uz 149)) (by rw [HN.out]; kernel_rfl) ?_
  dsimp only [Act.put, List.setIfInBounds_toArray, List.set_cons_zero, List.set_cons_succ]
  obtain ⟨w1, hw1⟩ : ∃ w1, w1 = w.alloc (.cells uz 149) := ⟨_, rfl⟩
  rw [← hw1]
  have hb0 : Blk w1 N 149 (uv (wz B 0)) := by rw [hw1, HN.out]; exact Blk.new _ _ _
  have hb1 : Below N w w1 := by rw [hw1, HN.out]; exact (Below.refl _ _).alloc (Nat.le_refl _) _
  clear hw1
  go_wp2
  go_loopw [7] (fun i wr => ∃ t : Nat, t ≤ 64 ∧ i = .int .i64 t ∧ Blk wr N 149 (uv (wz B t)) ∧ Below N w wr) (fun i _ => 64 - (intOf i).toNat)
  case atStart => exact ⟨0, by omega, rfl, hb0, hb1⟩
  case round =>
    obtain ⟨t, ht, rfl, hbk, hbel⟩ := hrel
    clear hb0 hb1
    by_cases h64 : t < 64
    · by_cases h16 : t < 16
      · have hcell : ∀ j, j < 64 → wr.cell? ⟨g, off + j, none⟩ = some (.int .u8 ((B.getD j 0).toNat : Int)) := fun j hj => (hbel.cell (by rw [HN.out]; exact hg)).trans (HC.out j hj)
        have c0 := hcell (4 * t) (by omega)
        have c1 := hcell (4 * t + 1) (by omega)
        have c2 := hcell (4 * t + 2) (by omega)
        have c3 := hcell (4 * t + 3) (by omega)
        clear hcell
        have cN := hbk.cell t
        rw [uv_get _ _ (by rw [length_wz _ _ ht]; omega)] at cN
        have fN := hbk.frozen t
        generalize hx0 : B.getD (4 * t) 0 = x0 at *
        generalize hx1 : B.getD (4 * t + 1) 0 = x1 at *
        generalize hx2 : B.getD (4 * t + 2) 0 = x2 at *
        generalize hx3 : B.getD (4 * t + 3) 0 = x3 at *
        have HX := hide (And.intro hx0 (And.intro hx1 (And.intro hx2 hx3)))
        clear hx0 hx1 hx2 hx3
        have HB := hide hbk
        clear hbk
        go_wp2_with fail
        refine wp_quiet_tail_drewN 35 (by kernel_rfl) (by kernel_rfl) ?_
        simp only [List.take_succ_cons, List.take_zero, List.drop_succ_cons, List.drop_zero]
        repeat (go_big_quiet_step (fail))
        refine wpQuiet_nil ?_
        intro nq
        go_wp2
        go_roundw
        case rel =>
          refine ⟨t + 1, by omega, by go_num, ?_, ?_⟩
          · rw [word_eq B t x0 x1 x2 x3 HX.out]
            have := (HB.out.drewN nq).set_ t (.int .u32 (U (Sha.word B t)))
            rwa [uv_set, wz_step B t _ h64 (by simp [Sha.ws, h16])] at this
          · exact (below_drewN hbel nq).setCell (Nat.le_refl _) _
        case measure => simp [intOf]; omega
      · have hl := length_wz B t ht
        have hcell : ∀ j, j < t → wr.cell? ⟨N, j, none⟩ = some (.int .u32 (U ((Sha.ws B t).getD j 0))) := fun j hj => by
          rw [hbk.cell, uv_get _ _ (by omega), wz_get _ _ _ hj]
        have c2 := hcell (t - 2) (by omega)
        have c15 := hcell (t - 15) (by omega)
        have c7 := hcell (t - 7) (by omega)
        have c16 := hcell (t - 16) (by omega)
        clear hcell
        obtain ⟨v0, hv0⟩ : ∃ v0, v0 = Value.int .u32 (U ((wz B t).getD t 0)) := ⟨_, rfl⟩
        have cN := hbk.cell t
        rw [uv_get _ _ (by rw [hl]; omega), ← hv0] at cN
        clear hv0
        have fN := hbk.frozen t
        have hsz : N < wr.heap.size := hbk.lt
        generalize hx2 : (Sha.ws B t).getD (t - 2) 0 = x2 at *
        generalize hx15 : (Sha.ws B t).getD (t - 15) 0 = x15 at *
        generalize hx7 : (Sha.ws B t).getD (t - 7) 0 = x7 at *
        generalize hx16 : (Sha.ws B t).getD (t - 16) 0 = x16 at *
        have HX := hide (And.intro hx2 (And.intro hx15 (And.intro hx7 hx16)))
        clear hx2 hx15 hx7 hx16 hl
        have HB := hide hbk
        clear hbk
        go_wp2_with fail
        go_quiet (fail)
        have n1 : (0 : Int) ≤ (t : Int) := by omega
        have n2 : (t : Int) < 64 := by omega
        have n3 : (0 : Int) ≤ (t : Int) - 7 := by omega
        have n4 : (t : Int) - 7 < 64 := by omega
        have n5 : (0 : Int) ≤ (t : Int) - 16 := by omega
        have n6 : (t : Int) - 16 < 64 := by omega
        have m7 : IntKind.i64.wrap ((t : Int) - 7) = (t : Int) - 7 := IntWalk.i64_in _ (by omega)
        have m16 : IntKind.i64.wrap ((t : Int) - 16) = (t : Int) - 16 := IntWalk.i64_in _ (by omega)
        have o7 : ((t : Int) - 7).toNat = t - 7 := by omega
        have o16 : ((t : Int) - 16).toNat = t - 16 := by omega
        have n7 : (7 : Int) ≤ (t : Int) := by omega
        have n8 : (16 : Int) ≤ (t : Int) := by omega
        have hfr : ∀ (W : World) (c : Array Value) (ty : TypeId) (p : Addr), (W.alloc (.cells c ty)).frozen? p = W.frozen? p := frozen?_alloc_cells
        have hcl : ∀ (k : Nat) (c : Array Value) (ty : TypeId), ((wr.drewN k).alloc (.cells c ty)).cell? ⟨N, t, none⟩ = some v0 := fun k c ty => (World.cell?_alloc_lt _ _ _ hsz).trans cN
        have hsz1 : N < wr.heap.size + 1 := by omega
        have hz1 : ∀ k, N < (wr.drewN k).heap.size := fun _ => hsz
        have hz2 : ∀ k, N < (wr.drewN k).heap.size + 1 := fun _ => hsz1
        have hk : ∀ (j k : Nat) (c c' : Array Value) (ty ty' : TypeId) (v u : Value), j ≠ t → wr.cell? ⟨N, j, none⟩ = some u → ((((wr.drewN k).alloc (.cells c ty)).setCell ⟨N, t, none⟩ v).alloc (.cells c' ty')).cell? ⟨N, j, none⟩ = some u := by
          intro j k c c' ty ty' v u hj hu
          rw [World.cell?_alloc_lt _ _ _ (by simp [World.setCell]; omega), World.cell?_setCell_other _ _ _ _ (by intro h; injection h with _ h2; exact hj h2.symm), World.cell?_alloc_lt _ _ _ hsz]
          exact hu
        have hk7 := fun k c c' ty ty' v => hk (t - 7) k c c' ty ty' v _ (by omega) c7
        have hk16 := fun k c c' ty ty' v => hk (t - 16) k c c' ty ty' v _ (by omega) c16
        clear hk
        have a1 := U_xor (Sha.mix x2 [17, 19]) (x2 >>> 10)
        have a2 := U_xor (Sha.mix x15 [7, 18]) (x15 >>> 3)
        have a3 := U_shr10' x2
        have a4 := U_shr3' x15
        go_wp2_with fail
        go_region_held3 (fun w' => w'.cell? ⟨N, t - 7, none⟩ = some (.int .u32 (U x7)) ∧ w'.cell? ⟨N, t - 16, none⟩ = some (.int .u32 (U x16))) (go_keep)
          (first
            | (go_at_call 79; (with_reducible refine (mixed2_any x2 17 19 r17 r19 _ _ _ ?_ ?_).mono ?_); (focus (simp [cell_alloc])); (focus (simp [cell_alloc])); rintro e w' ⟨rfl, rfl⟩)
            | (go_at_call 79; (with_reducible refine (mixed2_any x15 7 18 r7 r18 _ _ _ ?_ ?_).mono ?_); (focus (simp [cell_alloc])); (focus (simp [cell_alloc])); rintro e w' ⟨rfl, rfl⟩))
        go_wp2
        all_goals
          go_roundw
          case rel =>
            obtain ⟨g2, g15, g7, g16⟩ := HX.out
            refine ⟨t + 1, by omega, by go_num, ?_, ?_⟩
            · rw [U_add', U_add', U_add']
              rw [← wz_step B t _ h64 (by rw [Sha.ws, if_neg h16, g2, g15, g7, g16]), ← uv_set]
              exact Blk.alloc (((HB.out.drewN _).alloc _).set_ t _) _
            · refine Below.alloc (Below.setCell (Below.alloc (below_drewN hbel _) ?_ _) (Nat.le_refl _) _) ?_ _
              · simp; omega
              · simp [World.setCell]; omega
          case measure => simp [intOf]; omega
    · obtain rfl : t = 64 := by omega
      have hsz : (Try.prog.info? 149).map (·.size) = some (uv (wz B 64)).size := by rw [uv_size, length_wz B 64 (Nat.le_refl _)]; exact size147
      have HK := hide hbk
      clear hbk
      go_wp2_with (first
        | ((with_reducible refine at_slot 83 ?_); (with_reducible refine wpList_load_blk (o := ⟨some 83, _, _, _, _, _⟩) rfl 149 (.tmp 2) rfl N 149 (uv (wz B 64)) _ _ HK.out Try.underlying149 hsz ?_ ?_); rfl; dsimp only [Act.put, List.setIfInBounds_toArray, List.set_cons_zero, List.set_cons_succ])
        | ((with_reducible refine wpList_store_blk (o := ⟨none, _, _, _, _, _⟩) rfl 149 (.tmp 2) (.tmp 83) rfl N (uv (wz B 64)) (uv (wz B 64)) 149 HK.out hsz rfl (uv_one _) ?_ ?_ ?_); rfl; rfl; dsimp only [Act.put]))
      have e : wz B 64 = Sha.ws B 64 := by simp [wz]
      refine bodyPost_ret (results_cell_blk rfl _ _ N 149 (uv (wz B 64)) _ _ rfl (Blk.setRow_ HK.out _) Try.underlying149 hsz) rfl ⟨by rw [e], ?_⟩
      have h2 := below_setRow' hbel (Nat.le_refl _) (uv (wz B 64))
      have e2 := HN.out
      rw [← e2]
      exact h2
end Go.Proofs.Ytidiepbmbbflhaa
end
section
namespace Go.Proofs.Ytidiepbmbbflhaa
open Go.RowKit

def sp (s : List Sha.W) (B : List UInt8) (m : Nat) : Array Value := (((s.map fun x => Value.int .u32 (U x)) ++ bv B) ++ [Value.int .u64 (m : Int)]).toArray
theorem sp_word (s : List Sha.W) (B : List UInt8) (m i : Nat) (hs : s.length = 8) (hi : i < 8) : (sp s B m)[i]? = some (.int .u32 (U (s.getD i 0))) := by
  simp [sp, bv, List.getElem?_append, hs, hi, List.getD]
theorem sp_byte (s : List Sha.W) (B : List UInt8) (m i : Nat) (hs : s.length = 8) (hB : B.length = 64) (hi : i < 64) : (sp s B m)[8 + i]? = some (.int .u8 ((B.getD i 0).toNat : Int)) := by
  have h : ¬ 8 + i < 8 := by omega
  simp [sp, bv, List.getElem?_append, hs, hB, h, hi, List.getD]
theorem sp_many (s : List Sha.W) (B : List UInt8) (m : Nat) (hs : s.length = 8) (hB : B.length = 64) : (sp s B m)[72]? = some (.int .u64 (m : Int)) := by
  simp [sp, bv, hs, hB]
theorem sp_setWord (s : List Sha.W) (B : List UInt8) (m i : Nat) (x : Sha.W) (hs : s.length = 8) (hi : i < 8) : (sp s B m).setIfInBounds i (.int .u32 (U x)) = sp (s.set i x) B m := by
  simp only [sp, List.setIfInBounds_toArray, List.append_assoc]
  rw [List.set_append_left _ _ (by simp [hs, hi]), List.map_set]

theorem run_alloc64 (ev : Operand → Value) (d : Option Tmp) (ty : TypeId) (pos : String) (aft : Array Edge) (w : World) :
    (execOp ev ⟨d, .alloc 149, ty, pos, aft, none⟩).run Try.prog w = .ok (.value (.pointer (some ⟨w.heap.size, 0, none⟩))) (w.alloc (.cells uz 149)) := by kernel_rfl
theorem wpList_alloc64 {ops : Array Oper} {rest : List Oper} {a : Act} {w : World} {Q : Exit → Act → World → Prop} {d : Option Tmp} {ty : TypeId} {pos : String} {aft : Array Edge}
    (h : wpList Try.prog ops Q rest (a.put d (.pointer (some ⟨w.heap.size, 0, none⟩))) (w.alloc (.cells uz 149))) :
    wpList Try.prog ops Q (⟨d, .alloc 149, ty, pos, aft, none⟩ :: rest) a w :=
  wpList_value rfl _ _ (run_alloc64 _ _ _ _ _ _) h
theorem size80 : (Try.prog.info? 115).map (·.size) = some 8 := by kernel_rfl

/-- eight words as cells -/
def x8 (s : Sha.St) : Array Value := #[.int .u32 (U s.a), .int .u32 (U s.b), .int .u32 (U s.c), .int .u32 (U s.d), .int .u32 (U s.e), .int .u32 (U s.f), .int .u32 (U s.g), .int .u32 (U s.h)]
theorem x8_uv (s : Sha.St) : uv s.list = x8 s := rfl
theorem uz_ks : uz.size = (uv Sha.ks).size := by rw [uv_size, uz, uv_size, List.length_replicate]; rfl
theorem uz_ws (B : List UInt8) : uz.size = (uv (Sha.ws B 64)).size := by rw [uv_size, uz, uv_size, List.length_replicate, Sha.length_ws]
theorem size_ks : (Try.prog.info? 149).map (·.size) = some (uv Sha.ks).size := by rw [uv_size]; exact size147
theorem size_ws (B : List UInt8) : (Try.prog.info? 149).map (·.size) = some (uv (Sha.ws B 64)).size := by rw [uv_size, Sha.length_ws]; exact size147

theorem size78 : (Try.prog.info? 113).map (·.size) = some 1 := by kernel_rfl
theorem r6 : 1 ≤ 6 ∧ 6 ≤ 31 := by decide
theorem r11 : 1 ≤ 11 ∧ 11 ≤ 31 := by decide
theorem r25 : 1 ≤ 25 ∧ 25 ≤ 31 := by decide
theorem r2 : 1 ≤ 2 ∧ 2 ≤ 31 := by decide
theorem r13 : 1 ≤ 13 ∧ 13 ≤ 31 := by decide
theorem r22 : 1 ≤ 22 ∧ 22 ≤ 31 := by decide
theorem only_drewN {a w : World} {row : Option Nat} (h : a.grownBy w row) (n : Nat) : a.grownBy (w.drewN n) row := ⟨h.os, h.tape, h.output, h.size, h.block⟩
theorem grown_chain {w w4 w6 w7 : World} {g : Nat} (h1 : Below w.heap.size w w4) (h2 : Below w4.heap.size w4 w6) (h3 : w6.grownBy w7 (some g)) : w.grownBy w7 (some g) := by
  have h4 := h1.trans (h2.mono h1.size)
  exact ⟨h3.os.trans h4.os, h3.tape.trans h4.tape, h3.output.trans h4.output, Nat.le_trans h4.size h3.size, fun k hk hne => (h3.block k (Nat.lt_of_lt_of_le hk h4.size) hne).trans (h4.block k hk)⟩
theorem sp_cells {w : World} {g T m : Nat} {s : Sha.St} {B : List UInt8} (h : Blk w g T (sp s.list B m)) :
    w.cell? ⟨g, 0, none⟩ = some (.int .u32 (U s.a)) ∧ w.cell? ⟨g, 1, none⟩ = some (.int .u32 (U s.b)) ∧ w.cell? ⟨g, 2, none⟩ = some (.int .u32 (U s.c)) ∧ w.cell? ⟨g, 3, none⟩ = some (.int .u32 (U s.d)) ∧
    w.cell? ⟨g, 4, none⟩ = some (.int .u32 (U s.e)) ∧ w.cell? ⟨g, 5, none⟩ = some (.int .u32 (U s.f)) ∧ w.cell? ⟨g, 6, none⟩ = some (.int .u32 (U s.g)) ∧ w.cell? ⟨g, 7, none⟩ = some (.int .u32 (U s.h)) :=
  ⟨(h.cell 0).trans (sp_word _ _ _ 0 rfl (by omega)), (h.cell 1).trans (sp_word _ _ _ 1 rfl (by omega)), (h.cell 2).trans (sp_word _ _ _ 2 rfl (by omega)), (h.cell 3).trans (sp_word _ _ _ 3 rfl (by omega)),
   (h.cell 4).trans (sp_word _ _ _ 4 rfl (by omega)), (h.cell 5).trans (sp_word _ _ _ 5 rfl (by omega)), (h.cell 6).trans (sp_word _ _ _ 6 rfl (by omega)), (h.cell 7).trans (sp_word _ _ _ 7 rfl (by omega))⟩
theorem keep_blk {w w1 w2 w3 w4 : World} {g T : Nat} {cs : Array Value} {a b : Obj} (h0 : Blk w g T cs) (hb1 : Below w.heap.size w w1) (hb2 : Below w1.heap.size w1 w2)
    (hg3 : ((w2.alloc a).alloc b).grownBy w3 (some w2.heap.size)) (hg4 : w3.grownBy w4 (some (w2.heap.size + 1))) : Blk w4 g T cs ∧ Below w.heap.size w w4 ∧ w2.heap.size + 2 ≤ w4.heap.size := by
  have l0 := h0.lt
  have s1 := hb1.size
  have s2 := hb2.size
  have s3 := hg3.size
  have s4 := hg4.size
  simp only [size_alloc] at s3
  refine ⟨((((((h0.below hb1 l0).below hb2 (by omega)).alloc _).alloc _).grown hg3 ?_).grown hg4 ?_), ?_, by omega⟩
  · intro h; injection h with h; omega
  · intro h; injection h with h; omega
  · refine Below.grown (Below.grown (((hb1.trans (hb2.mono s1)).alloc (by omega) a).alloc (by simp only [size_alloc]; omega) b) hg3 (by simp only [size_alloc]; omega) ?_) hg4 (by omega) ?_
    · intro k hk; injection hk with hk; omega
    · intro k hk; injection hk with hk; omega

/-- eight words, the first i of them added to eight others -/
def addN (s t : List Sha.W) (i : Nat) : List Sha.W := (List.range 8).map fun j => if j < i then s.getD j 0 + t.getD j 0 else s.getD j 0
theorem length_addN (s t : List Sha.W) (i : Nat) : (addN s t i).length = 8 := by simp [addN]
theorem idx8_0 (s : Sha.St) (w : World) : (Instr.index 115 (.agg (x8 s)) (.int .i64 ((0 : Nat) : Int))).run Try.prog w = .ok (.int .u32 (U s.a)) w := by kernel_rfl
theorem idx8_1 (s : Sha.St) (w : World) : (Instr.index 115 (.agg (x8 s)) (.int .i64 ((1 : Nat) : Int))).run Try.prog w = .ok (.int .u32 (U s.b)) w := by kernel_rfl
theorem idx8_2 (s : Sha.St) (w : World) : (Instr.index 115 (.agg (x8 s)) (.int .i64 ((2 : Nat) : Int))).run Try.prog w = .ok (.int .u32 (U s.c)) w := by kernel_rfl
theorem idx8_3 (s : Sha.St) (w : World) : (Instr.index 115 (.agg (x8 s)) (.int .i64 ((3 : Nat) : Int))).run Try.prog w = .ok (.int .u32 (U s.d)) w := by kernel_rfl
theorem idx8_4 (s : Sha.St) (w : World) : (Instr.index 115 (.agg (x8 s)) (.int .i64 ((4 : Nat) : Int))).run Try.prog w = .ok (.int .u32 (U s.e)) w := by kernel_rfl
theorem idx8_5 (s : Sha.St) (w : World) : (Instr.index 115 (.agg (x8 s)) (.int .i64 ((5 : Nat) : Int))).run Try.prog w = .ok (.int .u32 (U s.f)) w := by kernel_rfl
theorem idx8_6 (s : Sha.St) (w : World) : (Instr.index 115 (.agg (x8 s)) (.int .i64 ((6 : Nat) : Int))).run Try.prog w = .ok (.int .u32 (U s.g)) w := by kernel_rfl
theorem idx8_7 (s : Sha.St) (w : World) : (Instr.index 115 (.agg (x8 s)) (.int .i64 ((7 : Nat) : Int))).run Try.prog w = .ok (.int .u32 (U s.h)) w := by kernel_rfl
theorem idx8 (s : Sha.St) (k : Nat) (hk : k < 8) (w : World) : (Instr.index 115 (.agg (x8 s)) (.int .i64 (k : Int))).run Try.prog w = .ok (.int .u32 (U (s.list.getD k 0))) w := by
  match k, hk with
  | 0, _ => exact idx8_0 s w
  | 1, _ => exact idx8_1 s w
  | 2, _ => exact idx8_2 s w
  | 3, _ => exact idx8_3 s w
  | 4, _ => exact idx8_4 s w
  | 5, _ => exact idx8_5 s w
  | 6, _ => exact idx8_6 s w
  | 7, _ => exact idx8_7 s w
theorem addN_step (s t : List Sha.W) (k : Nat) (hk : k < 8) : (addN s t k).set k ((addN s t k).getD k 0 + t.getD k 0) = addN s t (k + 1) := by
  have e : (addN s t k).getD k 0 = s.getD k 0 := by simp [addN, List.getD, hk]
  rw [e]
  apply List.ext_getElem?
  intro j
  simp only [addN, List.getElem?_set, List.length_map, List.length_range, List.getElem?_map]
  by_cases h1 : k = j
  · subst h1
    simp [hk]
  · by_cases h2 : j < 8
    · simp only [h1, if_false, List.getElem?_range h2, Option.map_some]
      by_cases h3 : j < k
      · rw [if_pos h3, if_pos (by omega)]
      · rw [if_neg h3, if_neg (by omega)]
    · simp [h1, h2]

set_option maxRecDepth 100000 in
set_option maxHeartbeats 1000000 in
theorem block_any (s : Sha.St) (B : List UInt8) (hB : B.length = 64) (m g T : Nat) (w : World) (hg : Blk w g T (sp s.list B m)) :
    Calls Try.prog 72 #[.pointer (some ⟨g, 0, none⟩), .pointer (some ⟨g, 8, none⟩)] w fun e w' => e = .returned (.tuple #[]) ∧ Blk w' g T (sp (Sha.comp s B).list B m) ∧ w.grownBy w' (some g) := by
  have hlt := hg.lt
  have hB0 : ∀ j, j < 64 → w.cell? ⟨g, 8 + j, none⟩ = some (.int .u8 ((B.getD j 0).toNat : Int)) := fun j hj => by rw [hg.cell, sp_byte _ _ _ _ rfl hB hj]
  have HG := hide hg
  have HB0 := hide hB0
  clear hg hB0
  go_enter Try.func72, Try.ntmps72
  go_wp2_with (first
    | (go_at_call 77; refine (rounds_any _).mono ?_; rintro e w1 ⟨rfl, hb1⟩; have HC1 : Hid (∀ j, j < 64 → w1.cell? ⟨g, 8 + j, none⟩ = some (.int .u8 ((B.getD j 0).toNat : Int))) := hide (fun j hj => (hb1.cell (p := ⟨g, 8 + j, none⟩) hlt).trans (HB0.out j hj))))
  refine (spread_any B hB g 8 _ HC1.out).mono ?_
  rintro e w2 ⟨rfl, hb2⟩
  dsimp only
  go_step
  refine wpList_alloc64 ?_
  refine wpList_alloc64 ?_
  dsimp only [Act.put, List.setIfInBounds_toArray, List.set_cons_zero, List.set_cons_succ]
  refine wpList_store_blkA (o := ⟨none, .store 149 (.tmp 4) (.tmp 14), _, _, _, _⟩) rfl 149 (.tmp 4) (.tmp 14) rfl w2.heap.size uz (uv Sha.ks) 149 ((Blk.new w2 149 uz).alloc (.cells uz 149)) size_ks uz_ks (uv_one _) rfl rfl ?_
  intro w3 h4 hg3
  refine wpList_store_blkA (o := ⟨none, .store 149 (.tmp 5) (.tmp 16), _, _, _, _⟩) rfl 149 (.tmp 5) (.tmp 16) rfl (w2.heap.size + 1) uz (uv (Sha.ws B 64)) 149 ((Blk.new1 w2 (.cells uz 149) 149 uz).grown hg3 (by simp)) (size_ws B) (uz_ws B) (uv_one _) (by rw [← size_alloc w2 (.cells uz 149)]; rfl) rfl ?_
  intro w4 h5 hg4
  dsimp only [Act.put]
  obtain ⟨hgw4, hbl4, hsz4⟩ := keep_blk HG.out hb1 hb2 hg3 hg4
  obtain ⟨c0, c1, c2, c3, c4, c5, c6, c7⟩ := sp_cells hgw4
  go_wp2_with fail
  obtain ⟨X, hX⟩ : ∃ X, X = w4.heap.size := ⟨_, rfl⟩
  obtain ⟨Nk, hNk⟩ : ∃ Nk, Nk = w2.heap.size := ⟨_, rfl⟩
  have hgX : g < X := by have := hgw4.lt; omega
  have hkX : Nk + 1 < X := by omega
  have hk4 : Blk w4 Nk 149 (uv Sha.ks) := by rw [hNk]; exact h4.grown hg4 (by simp)
  have hw4 : Blk w4 (Nk + 1) 149 (uv (Sha.ws B 64)) := by rw [hNk]; exact h5
  have hx0 : Blk (w4.alloc (.cells (x8 s) 115)) X 115 (x8 s) := by rw [hX]; exact Blk.new _ _ _
  have hbX : Below X w4 (w4.alloc (.cells (x8 s) 115)) := (Below.refl _ _).alloc (by omega) _
  have HK4 := hide hk4
  have HW4 := hide hw4
  have HGW := hide hgw4
  have HX0 := hide hx0
  have HNK := hide hNk
  have HX := hide hX
  rw [← hX, ← hNk]
  clear hk4 hw4 hgw4 hx0 hNk hX c0 c1 c2 c3 c4 c5 c6 c7 h4 h5
  go_loopw [20] (fun i wr => ∃ t : Nat, t ≤ 64 ∧ i = .int .i64 t ∧ Blk wr X 115 (x8 (Sha.rnds s B t)) ∧ Below X w4 wr) (fun i _ => 64 - (intOf i).toNat)
  case atStart => exact ⟨0, by omega, rfl, HX0.out, hbX⟩
  case round =>
    obtain ⟨t, ht, rfl, hbk, hbel⟩ := hrel
    clear hbX
    by_cases h64 : t < 64
    · obtain ⟨st, hst⟩ : ∃ st, st = Sha.rnds s B t := ⟨_, rfl⟩
      rw [← hst] at hbk
      have HST := hide hst
      clear hst
      obtain ⟨kt, hkt⟩ : ∃ kt, kt = Sha.ks.getD t 0 := ⟨_, rfl⟩
      obtain ⟨wt, hwt⟩ : ∃ wt, wt = (Sha.ws B 64).getD t 0 := ⟨_, rfl⟩
      have ck : wr.cell? ⟨Nk, t, none⟩ = some (.int .u32 (U kt)) := by
        rw [((HK4.out.below hbel (by omega)).cell t), uv_get _ _ (by exact h64), hkt]
      have cw : wr.cell? ⟨Nk + 1, t, none⟩ = some (.int .u32 (U wt)) := by
        rw [((HW4.out.below hbel (by omega)).cell t), uv_get _ _ (by rw [Sha.length_ws]; exact h64), hwt]
      have HKT := hide (And.intro hkt hwt)
      clear hkt hwt
      have c0 : wr.cell? ⟨X, 0, none⟩ = some (.int .u32 (U st.a)) := hbk.cell 0
      have c1 : wr.cell? ⟨X, 1, none⟩ = some (.int .u32 (U st.b)) := hbk.cell 1
      have c2 : wr.cell? ⟨X, 2, none⟩ = some (.int .u32 (U st.c)) := hbk.cell 2
      have c4 : wr.cell? ⟨X, 4, none⟩ = some (.int .u32 (U st.e)) := hbk.cell 4
      have c5 : wr.cell? ⟨X, 5, none⟩ = some (.int .u32 (U st.f)) := hbk.cell 5
      have c6 : wr.cell? ⟨X, 6, none⟩ = some (.int .u32 (U st.g)) := hbk.cell 6
      have c7 : wr.cell? ⟨X, 7, none⟩ = some (.int .u32 (U st.h)) := hbk.cell 7
      have HBK := hide hbk
      have hXw : X < wr.heap.size := hbk.lt
      clear hbk
      have e1 := U_xor st.f st.g
      have e2 := U_and st.e (st.f ^^^ st.g)
      have e3 := U_xor st.g (st.e &&& (st.f ^^^ st.g))
      have e4 := U_or st.b st.c
      have e5 := U_and st.a (st.b ||| st.c)
      have e6 := U_and st.b st.c
      have e7 := U_or (st.a &&& (st.b ||| st.c)) (st.b &&& st.c)
      have n0 : (0 : Int) ≤ (t : Int) := by omega
      have n1 : (t : Int) < 64 := by omega
      go_wp2_with fail
      go_region_held3 (fun w' => w'.cell? ⟨X, 7, none⟩ = some (.int .u32 (U st.h)) ∧ w'.cell? ⟨X, 4, none⟩ = some (.int .u32 (U st.e)) ∧ w'.cell? ⟨Nk, t, none⟩ = some (.int .u32 (U kt)) ∧ w'.cell? ⟨Nk + 1, t, none⟩ = some (.int .u32 (U wt))) (go_keep)
        (first
          | (go_at_call 79; (with_reducible refine (mixed3_any st.e 6 11 25 r6 r11 r25 _ _ _ ?_ ?_ ?_).mono ?_); (focus (simp [cell_alloc])); (focus (simp [cell_alloc])); (focus (simp [cell_alloc])); rintro e w' ⟨rfl, rfl⟩))
      go_wp2_with (go_at_call 79; (with_reducible refine (mixed3_any st.a 2 13 22 r2 r13 r22 _ _ _ ?_ ?_ ?_).mono ?_); (focus (simp [cell_alloc])); (focus (simp [cell_alloc])); (focus (simp [cell_alloc])); rintro e w' ⟨rfl, rfl⟩)
      simp only [U_add, U_add']
      refine wp_quiet_tail_drewN 2 (by kernel_rfl) (by kernel_rfl) ?_
      simp only [List.take_succ_cons, List.take_zero, List.drop_succ_cons, List.drop_zero]
      repeat (go_big_quiet_step (fail))
      refine wpQuiet_nil ?_
      intro nq
      have hX1 : X ≤ wr.heap.size := by omega
      have hX2 : X ≤ wr.heap.size + 1 := by omega
      refine wpList_copy_splice rfl (.tmp 71) (.tmp 72) 153 153 rfl 113 Try.underlying153 size78 _ _ 7 7 7 8 rfl rfl X 1
        [.int .u32 (U st.a), .int .u32 (U st.b), .int .u32 (U st.c), .int .u32 (U st.d), .int .u32 (U st.e), .int .u32 (U st.f), .int .u32 (U st.g), .int .u32 (U st.h)] 115
        (((HBK.out.alloc _).alloc _).drew.drewN nq)
        [.int .u32 (U st.a), .int .u32 (U st.b), .int .u32 (U st.c), .int .u32 (U st.d), .int .u32 (U st.e), .int .u32 (U st.f), .int .u32 (U st.g)] rfl
        (fun _ => ⟨rfl, _, rfl, ?_⟩) (by simp) (by simp [Value.oneCell']) X w4 (below_drewN ((hbel.alloc hX1 _).alloc (by rw [size_alloc]; exact hX2) _).drew nq) (Nat.le_refl _) ?_
      · intro j v hj
        have hb9 := ((HBK.out.alloc (.cells #[.int .i64 6, .int .i64 11, .int .i64 25] 3)).alloc (.cells #[.int .i64 2, .int .i64 13, .int .i64 22] 3)).drew.drewN nq
        have hj7 : j < 7 := (List.getElem?_eq_some_iff.1 hj).1
        have e : (⟨X, 0, none⟩ : Addr).add j = ⟨X, j, none⟩ := by unfold Addr.add; split <;> simp_all
        rw [e, hb9.cell j, ← hj]
        match j, hj7 with
        | 0, _ => rfl
        | 1, _ => rfl
        | 2, _ => rfl
        | 3, _ => rfl
        | 4, _ => rfl
        | 5, _ => rfl
        | 6, _ => rfl
      · intro w5 hs5 hb5
        have hs5 : Blk w5 X 115 #[.int .u32 (U st.a), .int .u32 (U st.a), .int .u32 (U st.b), .int .u32 (U st.c), .int .u32 (U st.d), .int .u32 (U st.e), .int .u32 (U st.f), .int .u32 (U st.g)] := hs5.out
        have d0 : w5.cell? ⟨X, 0, none⟩ = some (.int .u32 (U st.a)) := hs5.cell 0
        have d4 : w5.cell? ⟨X, 4, none⟩ = some (.int .u32 (U st.d)) := hs5.cell 4
        have f0 := hs5.frozen 0
        have f4 := hs5.frozen 4
        have HS5 := hide hs5
        clear hs5 c0 c1 c2 c4 c5 c6 c7 ck cw e1 e2 e3 e4 e5 e6 e7
        dsimp only [Act.put]
        go_wp2_with fail
        go_roundw
        case rel =>
          refine ⟨t + 1, by omega, by go_num, ?_, (hb5.setCell (Nat.le_refl _) _).setCell (Nat.le_refl _) _⟩
          have e : Sha.rnds s B (t + 1) = Sha.rnd st kt wt := by rw [Sha.rnds, ← HST.out, ← HKT.out.1, ← HKT.out.2]
          rw [e, U_add', U_add']
          exact (HS5.out.set_ 0 _).set_ 4 _
        case measure => simp [intOf]; omega
    · obtain rfl : t = 64 := by omega
      obtain ⟨st, hst⟩ : ∃ st, st = Sha.rnds s B 64 := ⟨_, rfl⟩
      rw [← hst] at hbk
      have HST := hide hst
      clear hst
      have c0 : wr.cell? ⟨X, 0, none⟩ = some (.int .u32 (U st.a)) := hbk.cell 0
      have c1 : wr.cell? ⟨X, 1, none⟩ = some (.int .u32 (U st.b)) := hbk.cell 1
      have c2 : wr.cell? ⟨X, 2, none⟩ = some (.int .u32 (U st.c)) := hbk.cell 2
      have c3 : wr.cell? ⟨X, 3, none⟩ = some (.int .u32 (U st.d)) := hbk.cell 3
      have c4 : wr.cell? ⟨X, 4, none⟩ = some (.int .u32 (U st.e)) := hbk.cell 4
      have c5 : wr.cell? ⟨X, 5, none⟩ = some (.int .u32 (U st.f)) := hbk.cell 5
      have c6 : wr.cell? ⟨X, 6, none⟩ = some (.int .u32 (U st.g)) := hbk.cell 6
      have c7 : wr.cell? ⟨X, 7, none⟩ = some (.int .u32 (U st.h)) := hbk.cell 7
      have hgr : Blk wr g T (sp s.list B m) := HGW.out.below hbel hgX
      have HGR := hide hgr
      clear hgr hbk
      go_wp2_with fail
      clear c0 c1 c2 c3 c4 c5 c6 c7
      go_loopw [85] (fun i wq => ∃ k : Nat, k ≤ 8 ∧ i = .int .i64 k ∧ Blk wq g T (sp (addN s.list st.list k) B m) ∧ wr.grownBy wq (some g)) (fun i _ => 8 - (intOf i).toNat)
      case atStart => exact ⟨0, by omega, rfl, HGR.out, World.grownBy.refl _ _⟩
      case round =>
        obtain ⟨k, hk, rfl, hgk, hgrw⟩ := hrel
        by_cases h8 : k < 8
        · have hix := idx8 st k h8
          obtain ⟨y, hy⟩ : ∃ y, y = st.list.getD k 0 := ⟨_, rfl⟩
          rw [← hy] at hix
          have HY := hide hy
          clear hy
          have ck := (hgk.cell k).trans (sp_word _ _ _ k (length_addN _ _ _) h8)
          obtain ⟨z, hz⟩ : ∃ z, z = (addN s.list st.list k).getD k 0 := ⟨_, rfl⟩
          rw [← hz] at ck
          have HZ := hide hz
          have fk := hgk.frozen k
          have HGK := hide hgk
          clear hz hgk
          have n0 : (0 : Int) ≤ (k : Int) := by omega
          have n1 : (k : Int) < 8 := by omega
          unfold x8 at hix
          go_wp2_with fail
          refine wp_quiet_tail_drewN 9 (by kernel_rfl) (by kernel_rfl) ?_
          simp only [List.take_succ_cons, List.take_zero, List.drop_succ_cons, List.drop_zero]
          repeat (go_big_quiet_step (fail))
          refine wpQuiet_nil ?_
          intro nq
          go_wp2
          go_roundw
          case rel =>
            refine ⟨k + 1, by omega, by go_num, ?_, ?_⟩
            · first | rw [U_add'] | rw [U_add]
              have h3 := (HGK.out.drewN nq).set_ k (.int .u32 (U (z + y)))
              rw [sp_setWord _ _ _ _ _ (length_addN _ _ _) h8, HZ.out, HY.out, addN_step _ _ _ h8] at h3
              rw [HZ.out, HY.out]
              exact h3
            · exact only_setCell (only_drewN hgrw nq) (.inl rfl) _
          case measure => simp [intOf]; omega
        · obtain rfl : k = 8 := by omega
          go_wp2_with fail
          go_end0
          refine ⟨rfl, ?_, ?_⟩
          · have e : (Sha.comp s B).list = addN s.list st.list 8 := by rw [Sha.comp, ← HST.out]; rfl
            rw [e]
            exact hgk
          · exact grown_chain hbl4 (by rw [HX.out] at hbel; exact hbel) hgrw

end Go.Proofs.Ytidiepbmbbflhaa
end
section
namespace Go.Proofs.Ytidiepbmbbflhaa.Sha
open Go

/-- the state behind q blocks of a row -/
def stN (c : List UInt8) : Nat → St
  | 0 => first
  | q + 1 => comp (stN c q) ((c.drop (64 * q)).take 64)
theorem stN_append (c d : List UInt8) (q : Nat) (h : 64 * q ≤ c.length) : stN (c ++ d) q = stN c q := by
  induction q with
  | zero => rfl
  | succ q ih =>
    rw [stN, stN, ih (by omega), List.drop_append_of_le_length (by omega), List.take_append_of_le_length (by simp; omega)]

/-- a sponge that has taken the bytes c -/
structure Sponge (c : List UInt8) (s : St) (B : List UInt8) : Prop where
  st : s = stN c (c.length / 64)
  len : B.length = 64
  rest : B.take (c.length % 64) = c.drop (64 * (c.length / 64))

theorem splice_take {B d : List UInt8} {k : Nat} (h : k + d.length ≤ B.length) : (splice B k d).take (k + d.length) = B.take k ++ d := by
  unfold splice
  rw [← List.append_assoc, List.take_append_of_le_length (by simp; omega), List.take_of_length_le (by simp; omega)]

/-- bytes that do not fill the block -/
theorem Sponge.part {c d : List UInt8} {s : St} {B : List UInt8} (h : Sponge c s B) (hd : c.length % 64 + d.length < 64) : Sponge (c ++ d) s (splice B (c.length % 64) d) := by
  have e1 : (c ++ d).length / 64 = c.length / 64 := by rw [List.length_append]; omega
  have e2 : (c ++ d).length % 64 = c.length % 64 + d.length := by rw [List.length_append]; omega
  have hl := h.len
  refine ⟨?_, ?_, ?_⟩
  · rw [e1, stN_append _ _ _ (by omega)]
    exact h.st
  · rw [length_splice _ _ _ (by omega)]
    exact hl
  · rw [e1, e2, splice_take (by omega), h.rest, List.drop_append_of_le_length (by omega)]

/-- bytes that just fill the block -/
theorem Sponge.fill {c d : List UInt8} {s : St} {B : List UInt8} (h : Sponge c s B) (hd : c.length % 64 + d.length = 64) :
    Sponge (c ++ d) (comp s (splice B (c.length % 64) d)) (splice B (c.length % 64) d) := by
  have e1 : (c ++ d).length / 64 = c.length / 64 + 1 := by rw [List.length_append]; omega
  have e2 : (c ++ d).length % 64 = 0 := by rw [List.length_append]; omega
  have hl := h.len
  have e3 : splice B (c.length % 64) d = c.drop (64 * (c.length / 64)) ++ d := by
    have h2 := splice_take (B := B) (d := d) (k := c.length % 64) (by omega)
    rw [List.take_of_length_le (by rw [length_splice _ _ _ (by omega)]; omega), h.rest] at h2
    exact h2
  refine ⟨?_, ?_, ?_⟩
  · rw [e1, stN, stN_append _ _ _ (by omega), ← h.st, e3, List.drop_append_of_le_length (by omega), List.take_of_length_le (by rw [List.length_append, List.length_drop]; omega)]
  · rw [length_splice _ _ _ (by omega)]
    exact hl
  · rw [e1, e2, List.take_zero, List.drop_eq_nil_of_le (by rw [List.length_append]; omega)]

theorem Sponge.nil : Sponge [] first (List.replicate 64 0) := ⟨rfl, by simp, by simp⟩

/-- a number's eight bytes, the highest first -/
def be (n : Nat) : List UInt8 := [UInt8.ofNat (n / 2 ^ 56), UInt8.ofNat (n / 2 ^ 48), UInt8.ofNat (n / 2 ^ 40), UInt8.ofNat (n / 2 ^ 32), UInt8.ofNat (n / 2 ^ 24), UInt8.ofNat (n / 2 ^ 16), UInt8.ofNat (n / 2 ^ 8), UInt8.ofNat n]
/-- how many noughts stand behind so many bytes -/
def noughts (n : Nat) : Nat := (119 - n % 64) % 64
/-- a row, and what stands behind it -/
def pad (c : List UInt8) : List UInt8 := c ++ [128] ++ List.replicate (noughts c.length) 0 ++ be (8 * c.length)
theorem length_pad (c : List UInt8) : (pad c).length = c.length + 1 + noughts c.length + 8 := by simp [pad, be]; omega
theorem pad_mod (c : List UInt8) : (pad c).length % 64 = 0 := by rw [length_pad]; unfold noughts; omega
/-- bytes' digest -/
def sum (c : List UInt8) : List UInt8 := out (stN (pad c) ((pad c).length / 64))

end Go.Proofs.Ytidiepbmbbflhaa.Sha
end
section
namespace Go.Proofs.Ytidiepbmbbflhaa
open Go.RowKit
/-- a sponge's block in memory, that has taken the bytes c -/
def Spg (w : World) (g T : Nat) (c : List UInt8) : Prop := ∃ s B, Sha.Sponge c s B ∧ Blk w g T (sp s.list B c.length)

/-- the row of a slice of bytes: where there is one at all, it lies at ⟨b, off⟩ -/
theorem only_trans {a b c : World} {row : Option Nat} (h : a.grownBy b row) (k : b.grownBy c row) : a.grownBy c row :=
  ⟨k.os.trans h.os, k.tape.trans h.tape, k.output.trans h.output, Nat.le_trans h.size k.size, fun i hi hne => (k.block i (Nat.lt_of_lt_of_le hi h.size) hne).trans (h.block i hi hne)⟩
theorem sp_setMany (s : List Sha.W) (B : List UInt8) (m m' : Nat) (hs : s.length = 8) (hB : B.length = 64) : (sp s B m).setIfInBounds 72 (.int .u64 (m' : Int)) = sp s B m' := by
  have h1 : ((s.map fun x => Value.int .u32 (U x)) ++ bv B).length = 72 := by simp [bv, hs, hB]
  simp only [sp, List.setIfInBounds_toArray]
  rw [List.set_append_right _ _ (by omega), h1]
  rfl
theorem sp_copy (s : List Sha.W) (B d : List UInt8) (m k : Nat) (hs : s.length = 8) (hB : B.length = 64) (hk : k + d.length ≤ 64) :
    ((sp s B m).toList.take (8 + k) ++ (bv d ++ (sp s B m).toList.drop (8 + k + (bv d).length))).toArray = sp s (splice B k d) m := by
  have h1 : (bv d).length = d.length := by simp [bv]
  have h2 : (s.map fun x => Value.int .u32 (U x)).length = 8 := by simp [hs]
  have h3 : (bv B).length = 64 := by simp [bv, hB]
  rw [h1]
  unfold sp splice
  congr 1
  generalize (s.map fun x => Value.int .u32 (U x)) = S at *
  have e : bv (B.take k ++ (d ++ B.drop (k + d.length))) = (bv B).take k ++ (bv d ++ (bv B).drop (k + d.length)) := by
    simp [bv, List.map_append, List.map_take, List.map_drop]
  rw [e]
  generalize bv B = Bv at *
  rw [List.append_assoc, List.take_append, List.drop_append, h2, List.take_of_length_le (by omega), List.drop_eq_nil_of_le (by omega),
    show 8 + k - 8 = k by omega, show 8 + k + d.length - 8 = k + d.length by omega, List.take_append_of_le_length (by omega), List.drop_append_of_le_length (by omega)]
  simp

set_option maxRecDepth 100000 in
set_option maxHeartbeats 1000000 in
theorem take_any (l : List UInt8) (c : List UInt8) (hcl : c.length + l.length ≤ 1099511627776) (g T : Nat) (A : Option Addr) (b off cap : Nat) (hcap : l.length ≤ cap) (hA : 0 < l.length → A = some ⟨b, off, none⟩) (hbg : b ≠ g) (w : World)
    (hcell : ∀ j, j < l.length → w.cell? ⟨b, off + j, none⟩ = some (.int .u8 ((l.getD j 0).toNat : Int))) (hg : Spg w g T c) :
    Calls Try.prog 59 #[.pointer (some ⟨g, 0, none⟩), .slice A l.length cap] w fun e w' => e = .returned (.tuple #[]) ∧ Spg w' g T (c ++ l) ∧ w.grownBy w' (some g) := by
  have HC := hide hcell
  have HA := hide hA
  have HG := hide hg
  clear hcell hA hg
  go_enter Try.func59, Try.ntmps59
  go_wp2_with fail
  go_loopw [1] (fun v wr => ∃ (k : Nat) (A' : Option Addr) (cap' : Nat), k ≤ l.length ∧ v = .slice A' (l.length - k) cap' ∧ l.length - k ≤ cap' ∧ (k < l.length → A' = some ⟨b, off + k, none⟩) ∧ Spg wr g T (c ++ l.take k) ∧ w.grownBy wr (some g))
    (fun v _ => match v with | .slice _ n _ => n | _ => 0)
  case atStart => exact ⟨0, A, cap, by omega, rfl, hcap, HA.out, by simpa using HG.out, World.grownBy.refl _ _⟩
  case round =>
    obtain ⟨k, A', cap', hk, rfl, hcap', hA', ⟨s, B, hsp, hbk⟩, hgr⟩ := hrel
    by_cases hlt : k < l.length
    · obtain rfl := hA' hlt
      obtain ⟨c', hc'⟩ : ∃ c', c' = c ++ l.take k := ⟨_, rfl⟩
      rw [← hc'] at hsp hbk
      have hlen : c'.length = c.length + k := by rw [hc', List.length_append, List.length_take]; omega
      have HC' := hide hc'
      clear hc'
      have cm := (hbk.cell 72).trans (sp_many _ _ _ rfl hsp.len)
      have fm := hbk.frozen 72
      obtain ⟨m, hm⟩ : ∃ m, m = c'.length := ⟨_, rfl⟩
      rw [← hm] at cm
      have hm1 : m ≤ 1099511627776 := by omega
      have n1 : (1 : Int) ≤ ((l.length - k : Nat) : Int) := by omega
      have n2 : (0 : Int) < ((l.length - k : Nat) : Int) := by omega
      have HM := hide hm
      have HL := hide hlen
      have HBK := hide hbk
      clear hm hlen hbk
      obtain ⟨q, hq⟩ : ∃ q, q = m % 64 := ⟨_, rfl⟩
      have hqm : (m : Int) % 64 = (q : Int) := by omega
      have hq64 : q < 64 := by omega
      have hq65 : ¬ 64 = q := by omega
      obtain ⟨n, hn⟩ : ∃ n, n = Nat.min (l.length - k) (64 - q) := ⟨_, rfl⟩
      have hsl := run_sliceAt_l 117 5 64 Try.underlying117 size5 g 8 q hq64
      have HQ := hide hq
      clear hq
      obtain ⟨d, hd⟩ : ∃ d, d = (l.drop k).take n := ⟨_, rfl⟩
      have hn2 : n ≤ l.length - k := hn ▸ Nat.min_le_left _ _
      have hn4 : n ≤ 64 - q := hn ▸ Nat.min_le_right _ _
      have hn1 : 1 ≤ n := hn ▸ Nat.le_min.2 ⟨by omega, by omega⟩
      have hn3 : q + n ≤ 64 := by omega
      have hn5 : n = l.length - k ∨ n = 64 - q := by
        rcases Nat.le_total (l.length - k) (64 - q) with h | h
        · exact .inl (hn.trans (Nat.min_eq_left h))
        · exact .inr (hn.trans (Nat.min_eq_right h))
      have hdl : d.length = n := by rw [hd, List.length_take, List.length_drop]; omega
      have hbl : (bv d).length = Nat.min (l.length - k) (64 - q) := by simp only [bv, List.length_map]; rw [hdl, hn]
      have hsrc : ∀ j v, (bv d)[j]? = some v → wr.cell? ((⟨b, off + k, none⟩ : Addr).add j) = some v := by
        intro j v hj
        have hjn : j < n := by have := (List.getElem?_eq_some_iff.1 hj).1; simpa [bv, hdl] using this
        rw [Addr.add_mid, World.cell?_of_block (hgr.block b (World.block_lt_of_cell? w _ (HC.out k hlt)) (by intro e; injection e with e; exact hbg e)), Nat.add_assoc, HC.out (k + j) (by omega), ← hj, hd]
        simp [bv, List.getElem?_drop, List.getD, hjn, show k + j < l.length by omega]
      have hfit : 8 + q + (bv d).length ≤ (sp s.list B c'.length).size := by
        rw [hbl, ← hn]; simp [sp, bv, hsp.len, Sha.St.list]; omega
      have hone : ∀ v ∈ bv d, v.oneCell' = true := by intro v hv; simp [bv] at hv; obtain ⟨x, _, rfl⟩ := hv; rfl
      have HD := hide (And.intro hn (And.intro hd hdl))
      have HBL := hide hbl
      have HS := hide hsrc
      have HO := hide hone
      have hbn : (bv d).length = n := by simp only [bv, List.length_map]; exact hdl
      clear hn hd hbl hsrc hone
      have HDL := hide hdl
      clear hdl
      go_wp2_with ((with_reducible refine at_slot 21 ?_); (with_reducible refine wpList_copyA (o := ⟨some 21, _, _, _, _, _⟩) rfl (.tmp 19) (.tmp 20) 32 32 rfl 5 Try.underlying32 size5 g (8 + q) (64 - q) (64 - q) ⟨b, off + k, none⟩ (l.length - k) cap' (sp s.list B c'.length) T HBK.out (bv d) HBL.out HS.out hfit HO.out ?_ ?_ ?_); rfl; rfl; intro w2 h2 hg2; dsimp only [Act.put, List.setIfInBounds_toArray, List.set_cons_zero, List.set_cons_succ])
      have h3 : Blk w2 g T (sp s.list (splice B q d) c'.length) := by rw [← sp_copy _ _ _ _ _ rfl hsp.len (by rw [HDL.out]; exact hn3)]; exact h2
      clear h2
      have cm2 := (h3.cell 72).trans (sp_many _ _ _ rfl (by rw [length_splice _ _ _ (by rw [HDL.out, hsp.len]; exact hn3)]; exact hsp.len))
      rw [← HM.out] at cm2
      have fm2 := h3.frozen 72
      have H3 := hide h3
      clear h3
      have i1 : (0 : Int) ≤ (n : Int) := by omega
      have i2 : (n : Int) ≤ ((l.length - k : Nat) : Int) := by omega
      have i3 : (n : Int) ≤ (cap' : Int) := by omega
      obtain ⟨A2, hA2⟩ : ∃ A2 : Option Addr, A2 = if cap' = n then some ⟨b, off + k, none⟩ else (some ⟨b, off + k, none⟩ : Option Addr).map (·.add n) := ⟨_, rfl⟩
      have hs1 := run_slice_from 32 5 Try.underlying32 size5 (some ⟨b, off + k, none⟩) (l.length - k) cap' n hn2
      have hs2 := run_sliceAt_from 32 5 Try.underlying32 size5 (some ⟨b, off + k, none⟩) (l.length - k) cap' n hn2
      rw [← hA2] at hs1 hs2
      have HA2 := hide hA2
      clear hA2
      have hfin : k + n < l.length → A2 = some ⟨b, off + (k + n), none⟩ := fun h => by
        rw [HA2.out, if_neg (by omega)]
        simp [Addr.add_mid, Nat.add_assoc]
      have HF := hide hfin
      clear hfin
      have hcd : c' ++ d = c ++ l.take (k + n) := by rw [HC'.out, HD.out.2.1, List.append_assoc, ← List.take_add]
      have hcl' : (c ++ l.take (k + n)).length = m + n := by rw [← hcd, List.length_append, HDL.out, HM.out]
      have hset : Blk ((w2.setCell ⟨g, 72, none⟩ (.int .u64 ((m : Int) + (n : Int))))) g T (sp s.list (splice B q d) (m + n)) := by
        have h := H3.out.set_ 72 (.int .u64 ((m : Int) + (n : Int)))
        rw [← HM.out] at h
        have e := sp_setMany s.list (splice B q d) m (m + n) rfl (by rw [length_splice _ _ _ (by rw [HDL.out, hsp.len]; exact hn3)]; exact hsp.len)
        rw [Int.natCast_add] at e
        rw [e] at h
        exact h
      have hBl : (splice B q d).length = 64 := by rw [length_splice _ _ _ (by rw [HDL.out, hsp.len]; exact hn3)]; exact hsp.len
      have HCD := hide (And.intro hcd hcl')
      have HSET := hide hset
      have HBL := hide hBl
      have hqm' : c'.length % 64 = q := by rw [← HM.out]; exact HQ.out.symm
      have HQM := hide hqm'
      clear hcd hcl' hset hBl hqm'
      by_cases hfull : q + n = 64
      · have hfi : (q : Int) + (n : Int) = 64 := by omega
        refine wp_quiet_tail_drewN 14 (by kernel_rfl) (by kernel_rfl) ?_
        simp only [List.take_succ_cons, List.take_zero, List.drop_succ_cons, List.drop_zero]
        repeat (go_big_quiet_step (fail))
        refine wpQuiet_nil ?_
        intro nq
        go_wp2_with fail
        refine wp_quiet_tail_drewN 6 (by kernel_rfl) (by kernel_rfl) ?_
        simp only [List.take_succ_cons, List.take_zero, List.drop_succ_cons, List.drop_zero]
        repeat (go_big_quiet_step (fail))
        refine wpQuiet_nil ?_
        intro np
        go_wp2_with fail
        refine (block_any s (splice B q d) HBL.out (m + n) g T _ (by exact HSET.out)).mono ?_
        rintro e w4 ⟨rfl, hb4, hg4⟩
        have HB4 := hide hb4
        clear hb4
        dsimp only
        go_wp2_with fail
        refine ⟨⟨k + n, A2, cap' - n, by omega, by rw [Nat.sub_sub], by omega, HF.out, ⟨Sha.comp s (splice B q d), splice B q d, ?_, ?_⟩, only_trans hgr (only_trans hg2 (only_trans (only_setCell (only_drewN (World.grownBy.refl w2 _) nq) (.inl rfl) _) (only_trans (only_drewN (World.grownBy.refl _ _) np) hg4)))⟩, ?_⟩
        · have h := hsp.fill (d := d) (by rw [HQM.out, HDL.out]; exact hfull)
          rw [HQM.out, HCD.out.1] at h
          exact h
        · rw [HCD.out.2]
          exact HB4.out
        · simp; omega
      · have hfi : ¬ (q : Int) + (n : Int) = 64 := by omega
        refine wp_quiet_tail_drewN 14 (by kernel_rfl) (by kernel_rfl) ?_
        simp only [List.take_succ_cons, List.take_zero, List.drop_succ_cons, List.drop_zero]
        repeat (go_big_quiet_step (fail))
        refine wpQuiet_nil ?_
        intro nq
        go_wp2_with fail
        refine ⟨⟨k + n, A2, cap' - n, by omega, by rw [Nat.sub_sub], by omega, HF.out, ⟨s, splice B q d, ?_, ?_⟩, only_trans hgr (only_trans hg2 (only_setCell (only_drewN (World.grownBy.refl w2 _) nq) (.inl rfl) _))⟩, ?_⟩
        · have h := hsp.part (d := d) (by rw [HQM.out, HDL.out]; omega)
          rw [HQM.out, HCD.out.1] at h
          exact h
        · rw [HCD.out.2]
          exact HSET.out
        · simp; omega
    · obtain rfl : k = l.length := by omega
      have n1 : ¬ (0 : Int) < ((l.length - l.length : Nat) : Int) := by omega
      go_wp2_with fail
      go_end0
      exact ⟨rfl, ⟨s, B, by rw [List.take_of_length_le (Nat.le_refl _)] at hsp; exact hsp, by rw [List.take_of_length_le (Nat.le_refl _)] at hbk; exact hbk⟩, hgr⟩
end Go.Proofs.Ytidiepbmbbflhaa
end
