/- The walk of a block: the program's sixty-four rounds over the words of a block. A sponge, as plain lists: what it holds when some bytes have been taken, and what it holds behind some more. No program is in sight here. The walk of a sponge that takes bytes. The walk of a sponge's end: what stands behind the bytes, and the digest. The walk of bytes' digest: the program's hash.Sum tells what the plain function tells. The walk of a digest's fold. The walks of code.Maker: numbers, bytes, texts are put one behind the other. The walks of code.Maker: a number is put; what was put is told. The walks of code.Maker: what was put is told. spencekit: lists that are lent, with marks behind them. The walks of hash.length and hash.Of. The walk of hash.Of. class.written. Readers: what is read, and how light the rows in it are. -/
import Derived.Test.YtidiepbmbbflhaaBytes
import Derived.Test.YtidiepbmbbflhaaMK2
import Derived.Laws.CopyOwn
import Derived.Test.YtidiepbmbbflhaaAt
import Derived.Test.YtidiepbmbbflhaaBase2
import Derived.Test.YtidiepbmbbflhaaBase3
import Derived.Test.YtidiepbmbbflhaaApp
import Derived.Test.YtidiepbmbbflhaaFreshTail
import Derived.OwnWalk
import Derived.Laws.AppendOwnNone
import Derived.Test.YtidiepbmbbflhaaTried
import Derived.Test.YtidiepbmbbflhaaLay
section
namespace Go.Proofs.Ytidiepbmbbflhaa
open Go.RowKit

def sp (s : List Sha.W) (B : List UInt8) (m : Nat) : Array Value := (((s.map fun x => Value.int .u32 (U x)) ++ bv B) ++ [Value.int .u64 (m : Int)]).toArray
theorem sp_word (s : List Sha.W) (B : List UInt8) (m i : Nat) (hs : s.length = 8) (hi : i < 8) : (sp s B m)[i]? = some (.int .u32 (U (s.getD i 0))) := by
  simp [sp, bv, List.getElem?_append, hs, hi, List.getD]
theorem sp_byte (s : List Sha.W) (B : List UInt8) (m i : Nat) (hs : s.length = 8) (hB : B.length = 64) (hi : i < 64) : (sp s B m)[8 + i]? = some (.int .u8 ((B.getD i 0).toNat : Int)) := by
  have h : ¬ 8 + i < 8 := by omega
  simp [sp, bv, List.getElem?_append, hs, hB, h, hi, List.getD]
theorem sp_many (s : List Sha.W) (B : List UInt8) (m : Nat) (hs : s.length = 8) (hB : B.length = 64) : (sp s B m)[72]? = some (.int .u64 (m : Int)) := by
  simp [sp, bv, hs, hB]
theorem sp_setWord (s : List Sha.W) (B : List UInt8) (m i : Nat) (x : Sha.W) (hs : s.length = 8) (hi : i < 8) : (sp s B m).setIfInBounds i (.int .u32 (U x)) = sp (s.set i x) B m := by
  simp only [sp, List.setIfInBounds_toArray, List.append_assoc]
  rw [List.set_append_left _ _ (by simp [hs, hi]), List.map_set]

theorem run_alloc64 (ev : Operand → Value) (d : Option Tmp) (ty : TypeId) (pos : String) (aft : Array Edge) (w : World) :
    (execOp ev ⟨d, .alloc 149, ty, pos, aft, none⟩).run Try.prog w = .ok (.value (.pointer (some ⟨w.heap.size, 0, none⟩))) (w.alloc (.cells uz 149)) := by kernel_rfl
theorem wpList_alloc64 {ops : Array Oper} {rest : List Oper} {a : Act} {w : World} {Q : Exit → Act → World → Prop} {d : Option Tmp} {ty : TypeId} {pos : String} {aft : Array Edge}
    (h : wpList Try.prog ops Q rest (a.put d (.pointer (some ⟨w.heap.size, 0, none⟩))) (w.alloc (.cells uz 149))) :
    wpList Try.prog ops Q (⟨d, .alloc 149, ty, pos, aft, none⟩ :: rest) a w :=
  wpList_value rfl _ _ (run_alloc64 _ _ _ _ _ _) h
theorem size80 : (Try.prog.info? 115).map (·.size) = some 8 := by kernel_rfl

/-- eight words as cells -/
def x8 (s : Sha.St) : Array Value := #[.int .u32 (U s.a), .int .u32 (U s.b), .int .u32 (U s.c), .int .u32 (U s.d), .int .u32 (U s.e), .int .u32 (U s.f), .int .u32 (U s.g), .int .u32 (U s.h)]
theorem x8_uv (s : Sha.St) : uv s.list = x8 s := rfl
theorem uz_ks : uz.size = (uv Sha.ks).size := by rw [uv_size, uz, uv_size, List.length_replicate]; rfl
theorem uz_ws (B : List UInt8) : uz.size = (uv (Sha.ws B 64)).size := by rw [uv_size, uz, uv_size, List.length_replicate, Sha.length_ws]
theorem size_ks : (Try.prog.info? 149).map (·.size) = some (uv Sha.ks).size := by rw [uv_size]; exact size147
theorem size_ws (B : List UInt8) : (Try.prog.info? 149).map (·.size) = some (uv (Sha.ws B 64)).size := by rw [uv_size, Sha.length_ws]; exact size147

theorem size78 : (Try.prog.info? 113).map (·.size) = some 1 := by kernel_rfl
theorem r6 : 1 ≤ 6 ∧ 6 ≤ 31 := by decide
theorem r11 : 1 ≤ 11 ∧ 11 ≤ 31 := by decide
theorem r25 : 1 ≤ 25 ∧ 25 ≤ 31 := by decide
theorem r2 : 1 ≤ 2 ∧ 2 ≤ 31 := by decide
theorem r13 : 1 ≤ 13 ∧ 13 ≤ 31 := by decide
theorem r22 : 1 ≤ 22 ∧ 22 ≤ 31 := by decide
theorem only_drewN {a w : World} {row : Option Nat} (h : a.grownBy w row) (n : Nat) : a.grownBy (w.drewN n) row := ⟨h.os, h.tape, h.output, h.size, h.block⟩
theorem grown_chain {w w4 w6 w7 : World} {g : Nat} (h1 : Below w.heap.size w w4) (h2 : Below w4.heap.size w4 w6) (h3 : w6.grownBy w7 (some g)) : w.grownBy w7 (some g) := by
  have h4 := h1.trans (h2.mono h1.size)
  exact ⟨h3.os.trans h4.os, h3.tape.trans h4.tape, h3.output.trans h4.output, Nat.le_trans h4.size h3.size, fun k hk hne => (h3.block k (Nat.lt_of_lt_of_le hk h4.size) hne).trans (h4.block k hk)⟩
theorem sp_cells {w : World} {g T m : Nat} {s : Sha.St} {B : List UInt8} (h : Blk w g T (sp s.list B m)) :
    w.cell? ⟨g, 0, none⟩ = some (.int .u32 (U s.a)) ∧ w.cell? ⟨g, 1, none⟩ = some (.int .u32 (U s.b)) ∧ w.cell? ⟨g, 2, none⟩ = some (.int .u32 (U s.c)) ∧ w.cell? ⟨g, 3, none⟩ = some (.int .u32 (U s.d)) ∧
    w.cell? ⟨g, 4, none⟩ = some (.int .u32 (U s.e)) ∧ w.cell? ⟨g, 5, none⟩ = some (.int .u32 (U s.f)) ∧ w.cell? ⟨g, 6, none⟩ = some (.int .u32 (U s.g)) ∧ w.cell? ⟨g, 7, none⟩ = some (.int .u32 (U s.h)) :=
  ⟨(h.cell 0).trans (sp_word _ _ _ 0 rfl (by omega)), (h.cell 1).trans (sp_word _ _ _ 1 rfl (by omega)), (h.cell 2).trans (sp_word _ _ _ 2 rfl (by omega)), (h.cell 3).trans (sp_word _ _ _ 3 rfl (by omega)),
   (h.cell 4).trans (sp_word _ _ _ 4 rfl (by omega)), (h.cell 5).trans (sp_word _ _ _ 5 rfl (by omega)), (h.cell 6).trans (sp_word _ _ _ 6 rfl (by omega)), (h.cell 7).trans (sp_word _ _ _ 7 rfl (by omega))⟩
theorem keep_blk {w w1 w2 w3 w4 : World} {g T : Nat} {cs : Array Value} {a b : Obj} (h0 : Blk w g T cs) (hb1 : Below w.heap.size w w1) (hb2 : Below w1.heap.size w1 w2)
    (hg3 : ((w2.alloc a).alloc b).grownBy w3 (some w2.heap.size)) (hg4 : w3.grownBy w4 (some (w2.heap.size + 1))) : Blk w4 g T cs ∧ Below w.heap.size w w4 ∧ w2.heap.size + 2 ≤ w4.heap.size := by
  have l0 := h0.lt
  have s1 := hb1.size
  have s2 := hb2.size
  have s3 := hg3.size
  have s4 := hg4.size
  simp only [size_alloc] at s3
  refine ⟨((((((h0.below hb1 l0).below hb2 (by omega)).alloc _).alloc _).grown hg3 ?_).grown hg4 ?_), ?_, by omega⟩
  · intro h; injection h with h; omega
  · intro h; injection h with h; omega
  · refine Below.grown (Below.grown (((hb1.trans (hb2.mono s1)).alloc (by omega) a).alloc (by simp only [size_alloc]; omega) b) hg3 (by simp only [size_alloc]; omega) ?_) hg4 (by omega) ?_
    · intro k hk; injection hk with hk; omega
    · intro k hk; injection hk with hk; omega

/-- eight words, the first i of them added to eight others -/
def addN (s t : List Sha.W) (i : Nat) : List Sha.W := (List.range 8).map fun j => if j < i then s.getD j 0 + t.getD j 0 else s.getD j 0
theorem length_addN (s t : List Sha.W) (i : Nat) : (addN s t i).length = 8 := by simp [addN]
theorem idx8_0 (s : Sha.St) (w : World) : (Instr.index 115 (.agg (x8 s)) (.int .i64 ((0 : Nat) : Int))).run Try.prog w = .ok (.int .u32 (U s.a)) w := by kernel_rfl
theorem idx8_1 (s : Sha.St) (w : World) : (Instr.index 115 (.agg (x8 s)) (.int .i64 ((1 : Nat) : Int))).run Try.prog w = .ok (.int .u32 (U s.b)) w := by kernel_rfl
theorem idx8_2 (s : Sha.St) (w : World) : (Instr.index 115 (.agg (x8 s)) (.int .i64 ((2 : Nat) : Int))).run Try.prog w = .ok (.int .u32 (U s.c)) w := by kernel_rfl
theorem idx8_3 (s : Sha.St) (w : World) : (Instr.index 115 (.agg (x8 s)) (.int .i64 ((3 : Nat) : Int))).run Try.prog w = .ok (.int .u32 (U s.d)) w := by kernel_rfl
theorem idx8_4 (s : Sha.St) (w : World) : (Instr.index 115 (.agg (x8 s)) (.int .i64 ((4 : Nat) : Int))).run Try.prog w = .ok (.int .u32 (U s.e)) w := by kernel_rfl
theorem idx8_5 (s : Sha.St) (w : World) : (Instr.index 115 (.agg (x8 s)) (.int .i64 ((5 : Nat) : Int))).run Try.prog w = .ok (.int .u32 (U s.f)) w := by kernel_rfl
theorem idx8_6 (s : Sha.St) (w : World) : (Instr.index 115 (.agg (x8 s)) (.int .i64 ((6 : Nat) : Int))).run Try.prog w = .ok (.int .u32 (U s.g)) w := by kernel_rfl
theorem idx8_7 (s : Sha.St) (w : World) : (Instr.index 115 (.agg (x8 s)) (.int .i64 ((7 : Nat) : Int))).run Try.prog w = .ok (.int .u32 (U s.h)) w := by kernel_rfl
theorem idx8 (s : Sha.St) (k : Nat) (hk : k < 8) (w : World) : (Instr.index 115 (.agg (x8 s)) (.int .i64 (k : Int))).run Try.prog w = .ok (.int .u32 (U (s.list.getD k 0))) w := by
  match k, hk with
  | 0, _ => exact idx8_0 s w
  | 1, _ => exact idx8_1 s w
  | 2, _ => exact idx8_2 s w
  | 3, _ => exact idx8_3 s w
  | 4, _ => exact idx8_4 s w
  | 5, _ => exact idx8_5 s w
  | 6, _ => exact idx8_6 s w
  | 7, _ => exact idx8_7 s w
theorem addN_step (s t : List Sha.W) (k : Nat) (hk : k < 8) : (addN s t k).set k ((addN s t k).getD k 0 + t.getD k 0) = addN s t (k + 1) := by
  have e : (addN s t k).getD k 0 = s.getD k 0 := by simp [addN, List.getD, hk]
  rw [e]
  apply List.ext_getElem?
  intro j
  simp only [addN, List.getElem?_set, List.length_map, List.length_range, List.getElem?_map]
  by_cases h1 : k = j
  · subst h1
    simp [hk]
  · by_cases h2 : j < 8
    · simp only [h1, if_false, List.getElem?_range h2, Option.map_some]
      by_cases h3 : j < k
      · rw [if_pos h3, if_pos (by omega)]
      · rw [if_neg h3, if_neg (by omega)]
    · simp [h1, h2]

set_option maxRecDepth 100000 in
set_option maxHeartbeats 1000000 in
theorem block_any (s : Sha.St) (B : List UInt8) (hB : B.length = 64) (m g T : Nat) (w : World) (hg : Blk w g T (sp s.list B m)) :
    Calls Try.prog 72 #[.pointer (some ⟨g, 0, none⟩), .pointer (some ⟨g, 8, none⟩)] w fun e w' => e = .returned (.tuple #[]) ∧ Blk w' g T (sp (Sha.comp s B).list B m) ∧ w.grownBy w' (some g) := by
  have hlt := hg.lt
  have hB0 : ∀ j, j < 64 → w.cell? ⟨g, 8 + j, none⟩ = some (.int .u8 ((B.getD j 0).toNat : Int)) := fun j hj => by rw [hg.cell, sp_byte _ _ _ _ rfl hB hj]
  have HG := hide hg
  have HB0 := hide hB0
  clear hg hB0
  go_enter Try.func72, Try.ntmps72
  go_wp2_with (first
    | (go_at_call 77; refine (rounds_any _).mono ?_; rintro e w1 ⟨rfl, hb1⟩; have HC1 : Hid (∀ j, j < 64 → w1.cell? ⟨g, 8 + j, none⟩ = some (.int .u8 ((B.getD j 0).toNat : Int))) := hide (fun j hj => (hb1.cell (p := ⟨g, 8 + j, none⟩) hlt).trans (HB0.out j hj))))
  refine (spread_any B hB g 8 _ HC1.out).mono ?_
  rintro e w2 ⟨rfl, hb2⟩
  dsimp only
  go_step
  refine wpList_alloc64 ?_
  refine wpList_alloc64 ?_
  dsimp only [Act.put, List.setIfInBounds_toArray, List.set_cons_zero, List.set_cons_succ]
  refine wpList_store_blkA (o := ⟨none, .store 149 (.tmp 4) (.tmp 14), _, _, _, _⟩) rfl 149 (.tmp 4) (.tmp 14) rfl w2.heap.size uz (uv Sha.ks) 149 ((Blk.new w2 149 uz).alloc (.cells uz 149)) size_ks uz_ks (uv_one _) rfl rfl ?_
  intro w3 h4 hg3
  refine wpList_store_blkA (o := ⟨none, .store 149 (.tmp 5) (.tmp 16), _, _, _, _⟩) rfl 149 (.tmp 5) (.tmp 16) rfl (w2.heap.size + 1) uz (uv (Sha.ws B 64)) 149 ((Blk.new1 w2 (.cells uz 149) 149 uz).grown hg3 (by simp)) (size_ws B) (uz_ws B) (uv_one _) (by rw [← size_alloc w2 (.cells uz 149)]; rfl) rfl ?_
  intro w4 h5 hg4
  dsimp only [Act.put]
  obtain ⟨hgw4, hbl4, hsz4⟩ := keep_blk HG.out hb1 hb2 hg3 hg4
  obtain ⟨c0, c1, c2, c3, c4, c5, c6, c7⟩ := sp_cells hgw4
  go_wp2_with fail
  obtain ⟨X, hX⟩ : ∃ X, X = w4.heap.size := ⟨_, rfl⟩
  obtain ⟨Nk, hNk⟩ : ∃ Nk, Nk = w2.heap.size := ⟨_, rfl⟩
  have hgX : g < X := by have := hgw4.lt; omega
  have hkX : Nk + 1 < X := by omega
  have hk4 : Blk w4 Nk 149 (uv Sha.ks) := by rw [hNk]; exact h4.grown hg4 (by simp)
  have hw4 : Blk w4 (Nk + 1) 149 (uv (Sha.ws B 64)) := by rw [hNk]; exact h5
  have hx0 : Blk (w4.alloc (.cells (x8 s) 115)) X 115 (x8 s) := by rw [hX]; exact Blk.new _ _ _
  have hbX : Below X w4 (w4.alloc (.cells (x8 s) 115)) := (Below.refl _ _).alloc (by omega) _
  have HK4 := hide hk4
  have HW4 := hide hw4
  have HGW := hide hgw4
  have HX0 := hide hx0
  have HNK := hide hNk
  have HX := hide hX
  rw [← hX, ← hNk]
  clear hk4 hw4 hgw4 hx0 hNk hX c0 c1 c2 c3 c4 c5 c6 c7 h4 h5
  go_loopw [20] (fun i wr => ∃ t : Nat, t ≤ 64 ∧ i = .int .i64 t ∧ Blk wr X 115 (x8 (Sha.rnds s B t)) ∧ Below X w4 wr) (fun i _ => 64 - (intOf i).toNat)
  case atStart => exact ⟨0, by omega, rfl, HX0.out, hbX⟩
  case round =>
    obtain ⟨t, ht, rfl, hbk, hbel⟩ := hrel
    clear hbX
    by_cases h64 : t < 64
    · obtain ⟨st, hst⟩ : ∃ st, st = Sha.rnds s B t := ⟨_, rfl⟩
      rw [← hst] at hbk
      have HST := hide hst
      clear hst
      obtain ⟨kt, hkt⟩ : ∃ kt, kt = Sha.ks.getD t 0 := ⟨_, rfl⟩
      obtain ⟨wt, hwt⟩ : ∃ wt, wt = (Sha.ws B 64).getD t 0 := ⟨_, rfl⟩
      have ck : wr.cell? ⟨Nk, t, none⟩ = some (.int .u32 (U kt)) := by
        rw [((HK4.out.below hbel (by omega)).cell t), uv_get _ _ (by exact h64), hkt]
      have cw : wr.cell? ⟨Nk + 1, t, none⟩ = some (.int .u32 (U wt)) := by
        rw [((HW4.out.below hbel (by omega)).cell t), uv_get _ _ (by rw [Sha.length_ws]; exact h64), hwt]
      have HKT := hide (And.intro hkt hwt)
      clear hkt hwt
      have c0 : wr.cell? ⟨X, 0, none⟩ = some (.int .u32 (U st.a)) := hbk.cell 0
      have c1 : wr.cell? ⟨X, 1, none⟩ = some (.int .u32 (U st.b)) := hbk.cell 1
      have c2 : wr.cell? ⟨X, 2, none⟩ = some (.int .u32 (U st.c)) := hbk.cell 2
      have c4 : wr.cell? ⟨X, 4, none⟩ = some (.int .u32 (U st.e)) := hbk.cell 4
      have c5 : wr.cell? ⟨X, 5, none⟩ = some (.int .u32 (U st.f)) := hbk.cell 5
      have c6 : wr.cell? ⟨X, 6, none⟩ = some (.int .u32 (U st.g)) := hbk.cell 6
      have c7 : wr.cell? ⟨X, 7, none⟩ = some (.int .u32 (U st.h)) := hbk.cell 7
      have HBK := hide hbk
      have hXw : X < wr.heap.size := hbk.lt
      clear hbk
      have e1 := U_xor st.f st.g
      have e2 := U_and st.e (st.f ^^^ st.g)
      have e3 := U_xor st.g (st.e &&& (st.f ^^^ st.g))
      have e4 := U_or st.b st.c
      have e5 := U_and st.a (st.b ||| st.c)
      have e6 := U_and st.b st.c
      have e7 := U_or (st.a &&& (st.b ||| st.c)) (st.b &&& st.c)
      have n0 : (0 : Int) ≤ (t : Int) := by omega
      have n1 : (t : Int) < 64 := by omega
      go_wp2_with fail
      go_region_held3 (fun w' => w'.cell? ⟨X, 7, none⟩ = some (.int .u32 (U st.h)) ∧ w'.cell? ⟨X, 4, none⟩ = some (.int .u32 (U st.e)) ∧ w'.cell? ⟨Nk, t, none⟩ = some (.int .u32 (U kt)) ∧ w'.cell? ⟨Nk + 1, t, none⟩ = some (.int .u32 (U wt))) (go_keep)
        (first
          | (go_at_call 79; (with_reducible refine (mixed3_any st.e 6 11 25 r6 r11 r25 _ _ _ ?_ ?_ ?_).mono ?_); (focus (simp [cell_alloc])); (focus (simp [cell_alloc])); (focus (simp [cell_alloc])); rintro e w' ⟨rfl, rfl⟩))
      go_wp2_with (go_at_call 79; (with_reducible refine (mixed3_any st.a 2 13 22 r2 r13 r22 _ _ _ ?_ ?_ ?_).mono ?_); (focus (simp [cell_alloc])); (focus (simp [cell_alloc])); (focus (simp [cell_alloc])); rintro e w' ⟨rfl, rfl⟩)
      simp only [U_add, U_add']
      refine wp_quiet_tail_drewN 2 (by kernel_rfl) (by kernel_rfl) ?_
      simp only [List.take_succ_cons, List.take_zero, List.drop_succ_cons, List.drop_zero]
      repeat (go_big_quiet_step (fail))
      refine wpQuiet_nil ?_
      intro nq
      have hX1 : X ≤ wr.heap.size := by omega
      have hX2 : X ≤ wr.heap.size + 1 := by omega
      refine wpList_copy_splice rfl (.tmp 71) (.tmp 72) 153 153 rfl 113 Try.underlying153 size78 _ _ 7 7 7 8 rfl rfl X 1
        [.int .u32 (U st.a), .int .u32 (U st.b), .int .u32 (U st.c), .int .u32 (U st.d), .int .u32 (U st.e), .int .u32 (U st.f), .int .u32 (U st.g), .int .u32 (U st.h)] 115
        (((HBK.out.alloc _).alloc _).drew.drewN nq)
        [.int .u32 (U st.a), .int .u32 (U st.b), .int .u32 (U st.c), .int .u32 (U st.d), .int .u32 (U st.e), .int .u32 (U st.f), .int .u32 (U st.g)] rfl
        (fun _ => ⟨rfl, _, rfl, ?_⟩) (by simp) (by simp [Value.oneCell']) X w4 (below_drewN ((hbel.alloc hX1 _).alloc (by rw [size_alloc]; exact hX2) _).drew nq) (Nat.le_refl _) ?_
      · intro j v hj
        have hb9 := ((HBK.out.alloc (.cells #[.int .i64 6, .int .i64 11, .int .i64 25] 3)).alloc (.cells #[.int .i64 2, .int .i64 13, .int .i64 22] 3)).drew.drewN nq
        have hj7 : j < 7 := (List.getElem?_eq_some_iff.1 hj).1
        have e : (⟨X, 0, none⟩ : Addr).add j = ⟨X, j, none⟩ := by unfold Addr.add; split <;> simp_all
        rw [e, hb9.cell j, ← hj]
        match j, hj7 with
        | 0, _ => rfl
        | 1, _ => rfl
        | 2, _ => rfl
        | 3, _ => rfl
        | 4, _ => rfl
        | 5, _ => rfl
        | 6, _ => rfl
      · intro w5 hs5 hb5
        have hs5 : Blk w5 X 115 #[.int .u32 (U st.a), .int .u32 (U st.a), .int .u32 (U st.b), .int .u32 (U st.c), .int .u32 (U st.d), .int .u32 (U st.e), .int .u32 (U st.f), .int .u32 (U st.g)] := hs5.out
        have d0 : w5.cell? ⟨X, 0, none⟩ = some (.int .u32 (U st.a)) := hs5.cell 0
        have d4 : w5.cell? ⟨X, 4, none⟩ = some (.int .u32 (U st.d)) := hs5.cell 4
        have f0 := hs5.frozen 0
        have f4 := hs5.frozen 4
        have HS5 := hide hs5
        clear hs5 c0 c1 c2 c4 c5 c6 c7 ck cw e1 e2 e3 e4 e5 e6 e7
        dsimp only [Act.put]
        go_wp2_with fail
        go_roundw
        case rel =>
          refine ⟨t + 1, by omega, by go_num, ?_, (hb5.setCell (Nat.le_refl _) _).setCell (Nat.le_refl _) _⟩
          have e : Sha.rnds s B (t + 1) = Sha.rnd st kt wt := by rw [Sha.rnds, ← HST.out, ← HKT.out.1, ← HKT.out.2]
          rw [e, U_add', U_add']
          exact (HS5.out.set_ 0 _).set_ 4 _
        case measure => simp [intOf]; omega
    · obtain rfl : t = 64 := by omega
      obtain ⟨st, hst⟩ : ∃ st, st = Sha.rnds s B 64 := ⟨_, rfl⟩
      rw [← hst] at hbk
      have HST := hide hst
      clear hst
      have c0 : wr.cell? ⟨X, 0, none⟩ = some (.int .u32 (U st.a)) := hbk.cell 0
      have c1 : wr.cell? ⟨X, 1, none⟩ = some (.int .u32 (U st.b)) := hbk.cell 1
      have c2 : wr.cell? ⟨X, 2, none⟩ = some (.int .u32 (U st.c)) := hbk.cell 2
      have c3 : wr.cell? ⟨X, 3, none⟩ = some (.int .u32 (U st.d)) := hbk.cell 3
      have c4 : wr.cell? ⟨X, 4, none⟩ = some (.int .u32 (U st.e)) := hbk.cell 4
      have c5 : wr.cell? ⟨X, 5, none⟩ = some (.int .u32 (U st.f)) := hbk.cell 5
      have c6 : wr.cell? ⟨X, 6, none⟩ = some (.int .u32 (U st.g)) := hbk.cell 6
      have c7 : wr.cell? ⟨X, 7, none⟩ = some (.int .u32 (U st.h)) := hbk.cell 7
      have hgr : Blk wr g T (sp s.list B m) := HGW.out.below hbel hgX
      have HGR := hide hgr
      clear hgr hbk
      go_wp2_with fail
      clear c0 c1 c2 c3 c4 c5 c6 c7
      go_loopw [85] (fun i wq => ∃ k : Nat, k ≤ 8 ∧ i = .int .i64 k ∧ Blk wq g T (sp (addN s.list st.list k) B m) ∧ wr.grownBy wq (some g)) (fun i _ => 8 - (intOf i).toNat)
      case atStart => exact ⟨0, by omega, rfl, HGR.out, World.grownBy.refl _ _⟩
      case round =>
        obtain ⟨k, hk, rfl, hgk, hgrw⟩ := hrel
        by_cases h8 : k < 8
        · have hix := idx8 st k h8
          obtain ⟨y, hy⟩ : ∃ y, y = st.list.getD k 0 := ⟨_, rfl⟩
          rw [← hy] at hix
          have HY := hide hy
          clear hy
          have ck := (hgk.cell k).trans (sp_word _ _ _ k (length_addN _ _ _) h8)
          obtain ⟨z, hz⟩ : ∃ z, z = (addN s.list st.list k).getD k 0 := ⟨_, rfl⟩
          rw [← hz] at ck
          have HZ := hide hz
          have fk := hgk.frozen k
          have HGK := hide hgk
          clear hz hgk
          have n0 : (0 : Int) ≤ (k : Int) := by omega
          have n1 : (k : Int) < 8 := by omega
          unfold x8 at hix
          go_wp2_with fail
          refine wp_quiet_tail_drewN 9 (by kernel_rfl) (by kernel_rfl) ?_
          simp only [List.take_succ_cons, List.take_zero, List.drop_succ_cons, List.drop_zero]
          repeat (go_big_quiet_step (fail))
          refine wpQuiet_nil ?_
          intro nq
          go_wp2
          go_roundw
          case rel =>
            refine ⟨k + 1, by omega, by go_num, ?_, ?_⟩
            · first | rw [U_add'] | rw [U_add]
              have h3 := (HGK.out.drewN nq).set_ k (.int .u32 (U (z + y)))
              rw [sp_setWord _ _ _ _ _ (length_addN _ _ _) h8, HZ.out, HY.out, addN_step _ _ _ h8] at h3
              rw [HZ.out, HY.out]
              exact h3
            · exact only_setCell (only_drewN hgrw nq) (.inl rfl) _
          case measure => simp [intOf]; omega
        · obtain rfl : k = 8 := by omega
          go_wp2_with fail
          go_end0
          refine ⟨rfl, ?_, ?_⟩
          · have e : (Sha.comp s B).list = addN s.list st.list 8 := by rw [Sha.comp, ← HST.out]; rfl
            rw [e]
            exact hgk
          · exact grown_chain hbl4 (by rw [HX.out] at hbel; exact hbel) hgrw

end Go.Proofs.Ytidiepbmbbflhaa
end
section
namespace Go.Proofs.Ytidiepbmbbflhaa.Sha
open Go

/-- the state behind q blocks of a row -/
def stN (c : List UInt8) : Nat → St
  | 0 => first
  | q + 1 => comp (stN c q) ((c.drop (64 * q)).take 64)
theorem stN_append (c d : List UInt8) (q : Nat) (h : 64 * q ≤ c.length) : stN (c ++ d) q = stN c q := by
  induction q with
  | zero => rfl
  | succ q ih =>
    rw [stN, stN, ih (by omega), List.drop_append_of_le_length (by omega), List.take_append_of_le_length (by simp; omega)]

/-- a sponge that has taken the bytes c -/
structure Sponge (c : List UInt8) (s : St) (B : List UInt8) : Prop where
  st : s = stN c (c.length / 64)
  len : B.length = 64
  rest : B.take (c.length % 64) = c.drop (64 * (c.length / 64))

theorem splice_take {B d : List UInt8} {k : Nat} (h : k + d.length ≤ B.length) : (splice B k d).take (k + d.length) = B.take k ++ d := by
  unfold splice
  rw [← List.append_assoc, List.take_append_of_le_length (by simp; omega), List.take_of_length_le (by simp; omega)]

/-- bytes that do not fill the block -/
theorem Sponge.part {c d : List UInt8} {s : St} {B : List UInt8} (h : Sponge c s B) (hd : c.length % 64 + d.length < 64) : Sponge (c ++ d) s (splice B (c.length % 64) d) := by
  have e1 : (c ++ d).length / 64 = c.length / 64 := by rw [List.length_append]; omega
  have e2 : (c ++ d).length % 64 = c.length % 64 + d.length := by rw [List.length_append]; omega
  have hl := h.len
  refine ⟨?_, ?_, ?_⟩
  · rw [e1, stN_append _ _ _ (by omega)]
    exact h.st
  · rw [length_splice _ _ _ (by omega)]
    exact hl
  · rw [e1, e2, splice_take (by omega), h.rest, List.drop_append_of_le_length (by omega)]

/-- bytes that just fill the block -/
theorem Sponge.fill {c d : List UInt8} {s : St} {B : List UInt8} (h : Sponge c s B) (hd : c.length % 64 + d.length = 64) :
    Sponge (c ++ d) (comp s (splice B (c.length % 64) d)) (splice B (c.length % 64) d) := by
  have e1 : (c ++ d).length / 64 = c.length / 64 + 1 := by rw [List.length_append]; omega
  have e2 : (c ++ d).length % 64 = 0 := by rw [List.length_append]; omega
  have hl := h.len
  have e3 : splice B (c.length % 64) d = c.drop (64 * (c.length / 64)) ++ d := by
    have h2 := splice_take (B := B) (d := d) (k := c.length % 64) (by omega)
    rw [List.take_of_length_le (by rw [length_splice _ _ _ (by omega)]; omega), h.rest] at h2
    exact h2
  refine ⟨?_, ?_, ?_⟩
  · rw [e1, stN, stN_append _ _ _ (by omega), ← h.st, e3, List.drop_append_of_le_length (by omega), List.take_of_length_le (by rw [List.length_append, List.length_drop]; omega)]
  · rw [length_splice _ _ _ (by omega)]
    exact hl
  · rw [e1, e2, List.take_zero, List.drop_eq_nil_of_le (by rw [List.length_append]; omega)]

theorem Sponge.nil : Sponge [] first (List.replicate 64 0) := ⟨rfl, by simp, by simp⟩

/-- a number's eight bytes, the highest first -/
def be (n : Nat) : List UInt8 := [UInt8.ofNat (n / 2 ^ 56), UInt8.ofNat (n / 2 ^ 48), UInt8.ofNat (n / 2 ^ 40), UInt8.ofNat (n / 2 ^ 32), UInt8.ofNat (n / 2 ^ 24), UInt8.ofNat (n / 2 ^ 16), UInt8.ofNat (n / 2 ^ 8), UInt8.ofNat n]
/-- how many noughts stand behind so many bytes -/
def noughts (n : Nat) : Nat := (119 - n % 64) % 64
/-- a row, and what stands behind it -/
def pad (c : List UInt8) : List UInt8 := c ++ [128] ++ List.replicate (noughts c.length) 0 ++ be (8 * c.length)
theorem length_pad (c : List UInt8) : (pad c).length = c.length + 1 + noughts c.length + 8 := by simp [pad, be]; omega
theorem pad_mod (c : List UInt8) : (pad c).length % 64 = 0 := by rw [length_pad]; unfold noughts; omega
/-- bytes' digest -/
def sum (c : List UInt8) : List UInt8 := out (stN (pad c) ((pad c).length / 64))

end Go.Proofs.Ytidiepbmbbflhaa.Sha
end
section
namespace Go.Proofs.Ytidiepbmbbflhaa
open Go.RowKit
/-- a sponge's block in memory, that has taken the bytes c -/
def Spg (w : World) (g T : Nat) (c : List UInt8) : Prop := ∃ s B, Sha.Sponge c s B ∧ Blk w g T (sp s.list B c.length)

/-- the row of a slice of bytes: where there is one at all, it lies at ⟨b, off⟩ -/
theorem only_trans {a b c : World} {row : Option Nat} (h : a.grownBy b row) (k : b.grownBy c row) : a.grownBy c row :=
  ⟨k.os.trans h.os, k.tape.trans h.tape, k.output.trans h.output, Nat.le_trans h.size k.size, fun i hi hne => (k.block i (Nat.lt_of_lt_of_le hi h.size) hne).trans (h.block i hi hne)⟩
theorem sp_setMany (s : List Sha.W) (B : List UInt8) (m m' : Nat) (hs : s.length = 8) (hB : B.length = 64) : (sp s B m).setIfInBounds 72 (.int .u64 (m' : Int)) = sp s B m' := by
  have h1 : ((s.map fun x => Value.int .u32 (U x)) ++ bv B).length = 72 := by simp [bv, hs, hB]
  simp only [sp, List.setIfInBounds_toArray]
  rw [List.set_append_right _ _ (by omega), h1]
  rfl
theorem sp_copy (s : List Sha.W) (B d : List UInt8) (m k : Nat) (hs : s.length = 8) (hB : B.length = 64) (hk : k + d.length ≤ 64) :
    ((sp s B m).toList.take (8 + k) ++ (bv d ++ (sp s B m).toList.drop (8 + k + (bv d).length))).toArray = sp s (splice B k d) m := by
  have h1 : (bv d).length = d.length := by simp [bv]
  have h2 : (s.map fun x => Value.int .u32 (U x)).length = 8 := by simp [hs]
  have h3 : (bv B).length = 64 := by simp [bv, hB]
  rw [h1]
  unfold sp splice
  congr 1
  generalize (s.map fun x => Value.int .u32 (U x)) = S at *
  have e : bv (B.take k ++ (d ++ B.drop (k + d.length))) = (bv B).take k ++ (bv d ++ (bv B).drop (k + d.length)) := by
    simp [bv, List.map_append, List.map_take, List.map_drop]
  rw [e]
  generalize bv B = Bv at *
  rw [List.append_assoc, List.take_append, List.drop_append, h2, List.take_of_length_le (by omega), List.drop_eq_nil_of_le (by omega),
    show 8 + k - 8 = k by omega, show 8 + k + d.length - 8 = k + d.length by omega, List.take_append_of_le_length (by omega), List.drop_append_of_le_length (by omega)]
  simp

set_option maxRecDepth 100000 in
set_option maxHeartbeats 1000000 in
theorem take_any (l : List UInt8) (c : List UInt8) (hcl : c.length + l.length ≤ 1099511627776) (g T : Nat) (A : Option Addr) (b off cap : Nat) (hcap : l.length ≤ cap) (hA : 0 < l.length → A = some ⟨b, off, none⟩) (hbg : b ≠ g) (w : World)
    (hcell : ∀ j, j < l.length → w.cell? ⟨b, off + j, none⟩ = some (.int .u8 ((l.getD j 0).toNat : Int))) (hg : Spg w g T c) :
    Calls Try.prog 59 #[.pointer (some ⟨g, 0, none⟩), .slice A l.length cap] w fun e w' => e = .returned (.tuple #[]) ∧ Spg w' g T (c ++ l) ∧ w.grownBy w' (some g) := by
  have HC := hide hcell
  have HA := hide hA
  have HG := hide hg
  clear hcell hA hg
  go_enter Try.func59, Try.ntmps59
  go_wp2_with fail
  go_loopw [1] (fun v wr => ∃ (k : Nat) (A' : Option Addr) (cap' : Nat), k ≤ l.length ∧ v = .slice A' (l.length - k) cap' ∧ l.length - k ≤ cap' ∧ (k < l.length → A' = some ⟨b, off + k, none⟩) ∧ Spg wr g T (c ++ l.take k) ∧ w.grownBy wr (some g))
    (fun v _ => match v with | .slice _ n _ => n | _ => 0)
  case atStart => exact ⟨0, A, cap, by omega, rfl, hcap, HA.out, by simpa using HG.out, World.grownBy.refl _ _⟩
  case round =>
    obtain ⟨k, A', cap', hk, rfl, hcap', hA', ⟨s, B, hsp, hbk⟩, hgr⟩ := hrel
    by_cases hlt : k < l.length
    · obtain rfl := hA' hlt
      obtain ⟨c', hc'⟩ : ∃ c', c' = c ++ l.take k := ⟨_, rfl⟩
      rw [← hc'] at hsp hbk
      have hlen : c'.length = c.length + k := by rw [hc', List.length_append, List.length_take]; omega
      have HC' := hide hc'
      clear hc'
      have cm := (hbk.cell 72).trans (sp_many _ _ _ rfl hsp.len)
      have fm := hbk.frozen 72
      obtain ⟨m, hm⟩ : ∃ m, m = c'.length := ⟨_, rfl⟩
      rw [← hm] at cm
      have hm1 : m ≤ 1099511627776 := by omega
      have n1 : (1 : Int) ≤ ((l.length - k : Nat) : Int) := by omega
      have n2 : (0 : Int) < ((l.length - k : Nat) : Int) := by omega
      have HM := hide hm
      have HL := hide hlen
      have HBK := hide hbk
      clear hm hlen hbk
      obtain ⟨q, hq⟩ : ∃ q, q = m % 64 := ⟨_, rfl⟩
      have hqm : (m : Int) % 64 = (q : Int) := by omega
      have hq64 : q < 64 := by omega
      have hq65 : ¬ 64 = q := by omega
      obtain ⟨n, hn⟩ : ∃ n, n = Nat.min (l.length - k) (64 - q) := ⟨_, rfl⟩
      have hsl := run_sliceAt_l 117 5 64 Try.underlying117 size5 g 8 q hq64
      have HQ := hide hq
      clear hq
      obtain ⟨d, hd⟩ : ∃ d, d = (l.drop k).take n := ⟨_, rfl⟩
      have hn2 : n ≤ l.length - k := hn ▸ Nat.min_le_left _ _
      have hn4 : n ≤ 64 - q := hn ▸ Nat.min_le_right _ _
      have hn1 : 1 ≤ n := hn ▸ Nat.le_min.2 ⟨by omega, by omega⟩
      have hn3 : q + n ≤ 64 := by omega
      have hn5 : n = l.length - k ∨ n = 64 - q := by
        rcases Nat.le_total (l.length - k) (64 - q) with h | h
        · exact .inl (hn.trans (Nat.min_eq_left h))
        · exact .inr (hn.trans (Nat.min_eq_right h))
      have hdl : d.length = n := by rw [hd, List.length_take, List.length_drop]; omega
      have hbl : (bv d).length = Nat.min (l.length - k) (64 - q) := by simp only [bv, List.length_map]; rw [hdl, hn]
      have hsrc : ∀ j v, (bv d)[j]? = some v → wr.cell? ((⟨b, off + k, none⟩ : Addr).add j) = some v := by
        intro j v hj
        have hjn : j < n := by have := (List.getElem?_eq_some_iff.1 hj).1; simpa [bv, hdl] using this
        rw [Addr.add_mid, World.cell?_of_block (hgr.block b (World.block_lt_of_cell? w _ (HC.out k hlt)) (by intro e; injection e with e; exact hbg e)), Nat.add_assoc, HC.out (k + j) (by omega), ← hj, hd]
        simp [bv, List.getElem?_drop, List.getD, hjn, show k + j < l.length by omega]
      have hfit : 8 + q + (bv d).length ≤ (sp s.list B c'.length).size := by
        rw [hbl, ← hn]; simp [sp, bv, hsp.len, Sha.St.list]; omega
      have hone : ∀ v ∈ bv d, v.oneCell' = true := by intro v hv; simp [bv] at hv; obtain ⟨x, _, rfl⟩ := hv; rfl
      have HD := hide (And.intro hn (And.intro hd hdl))
      have HBL := hide hbl
      have HS := hide hsrc
      have HO := hide hone
      have hbn : (bv d).length = n := by simp only [bv, List.length_map]; exact hdl
      clear hn hd hbl hsrc hone
      have HDL := hide hdl
      clear hdl
      go_wp2_with ((with_reducible refine at_slot 21 ?_); (with_reducible refine wpList_copyA (o := ⟨some 21, _, _, _, _, _⟩) rfl (.tmp 19) (.tmp 20) 32 32 rfl 5 Try.underlying32 size5 g (8 + q) (64 - q) (64 - q) ⟨b, off + k, none⟩ (l.length - k) cap' (sp s.list B c'.length) T HBK.out (bv d) HBL.out HS.out hfit HO.out ?_ ?_ ?_); rfl; rfl; intro w2 h2 hg2; dsimp only [Act.put, List.setIfInBounds_toArray, List.set_cons_zero, List.set_cons_succ])
      have h3 : Blk w2 g T (sp s.list (splice B q d) c'.length) := by rw [← sp_copy _ _ _ _ _ rfl hsp.len (by rw [HDL.out]; exact hn3)]; exact h2
      clear h2
      have cm2 := (h3.cell 72).trans (sp_many _ _ _ rfl (by rw [length_splice _ _ _ (by rw [HDL.out, hsp.len]; exact hn3)]; exact hsp.len))
      rw [← HM.out] at cm2
      have fm2 := h3.frozen 72
      have H3 := hide h3
      clear h3
      have i1 : (0 : Int) ≤ (n : Int) := by omega
      have i2 : (n : Int) ≤ ((l.length - k : Nat) : Int) := by omega
      have i3 : (n : Int) ≤ (cap' : Int) := by omega
      obtain ⟨A2, hA2⟩ : ∃ A2 : Option Addr, A2 = if cap' = n then some ⟨b, off + k, none⟩ else (some ⟨b, off + k, none⟩ : Option Addr).map (·.add n) := ⟨_, rfl⟩
      have hs1 := run_slice_from 32 5 Try.underlying32 size5 (some ⟨b, off + k, none⟩) (l.length - k) cap' n hn2
      have hs2 := run_sliceAt_from 32 5 Try.underlying32 size5 (some ⟨b, off + k, none⟩) (l.length - k) cap' n hn2
      rw [← hA2] at hs1 hs2
      have HA2 := hide hA2
      clear hA2
      have hfin : k + n < l.length → A2 = some ⟨b, off + (k + n), none⟩ := fun h => by
        rw [HA2.out, if_neg (by omega)]
        simp [Addr.add_mid, Nat.add_assoc]
      have HF := hide hfin
      clear hfin
      have hcd : c' ++ d = c ++ l.take (k + n) := by rw [HC'.out, HD.out.2.1, List.append_assoc, ← List.take_add]
      have hcl' : (c ++ l.take (k + n)).length = m + n := by rw [← hcd, List.length_append, HDL.out, HM.out]
      have hset : Blk ((w2.setCell ⟨g, 72, none⟩ (.int .u64 ((m : Int) + (n : Int))))) g T (sp s.list (splice B q d) (m + n)) := by
        have h := H3.out.set_ 72 (.int .u64 ((m : Int) + (n : Int)))
        rw [← HM.out] at h
        have e := sp_setMany s.list (splice B q d) m (m + n) rfl (by rw [length_splice _ _ _ (by rw [HDL.out, hsp.len]; exact hn3)]; exact hsp.len)
        rw [Int.natCast_add] at e
        rw [e] at h
        exact h
      have hBl : (splice B q d).length = 64 := by rw [length_splice _ _ _ (by rw [HDL.out, hsp.len]; exact hn3)]; exact hsp.len
      have HCD := hide (And.intro hcd hcl')
      have HSET := hide hset
      have HBL := hide hBl
      have hqm' : c'.length % 64 = q := by rw [← HM.out]; exact HQ.out.symm
      have HQM := hide hqm'
      clear hcd hcl' hset hBl hqm'
      by_cases hfull : q + n = 64
      · have hfi : (q : Int) + (n : Int) = 64 := by omega
        refine wp_quiet_tail_drewN 14 (by kernel_rfl) (by kernel_rfl) ?_
        simp only [List.take_succ_cons, List.take_zero, List.drop_succ_cons, List.drop_zero]
        repeat (go_big_quiet_step (fail))
        refine wpQuiet_nil ?_
        intro nq
        go_wp2_with fail
        refine wp_quiet_tail_drewN 6 (by kernel_rfl) (by kernel_rfl) ?_
        simp only [List.take_succ_cons, List.take_zero, List.drop_succ_cons, List.drop_zero]
        repeat (go_big_quiet_step (fail))
        refine wpQuiet_nil ?_
        intro np
        go_wp2_with fail
        refine (block_any s (splice B q d) HBL.out (m + n) g T _ (by exact HSET.out)).mono ?_
        rintro e w4 ⟨rfl, hb4, hg4⟩
        have HB4 := hide hb4
        clear hb4
        dsimp only
        go_wp2_with fail
        refine ⟨⟨k + n, A2, cap' - n, by omega, by rw [Nat.sub_sub], by omega, HF.out, ⟨Sha.comp s (splice B q d), splice B q d, ?_, ?_⟩, only_trans hgr (only_trans hg2 (only_trans (only_setCell (only_drewN (World.grownBy.refl w2 _) nq) (.inl rfl) _) (only_trans (only_drewN (World.grownBy.refl _ _) np) hg4)))⟩, ?_⟩
        · have h := hsp.fill (d := d) (by rw [HQM.out, HDL.out]; exact hfull)
          rw [HQM.out, HCD.out.1] at h
          exact h
        · rw [HCD.out.2]
          exact HB4.out
        · simp; omega
      · have hfi : ¬ (q : Int) + (n : Int) = 64 := by omega
        refine wp_quiet_tail_drewN 14 (by kernel_rfl) (by kernel_rfl) ?_
        simp only [List.take_succ_cons, List.take_zero, List.drop_succ_cons, List.drop_zero]
        repeat (go_big_quiet_step (fail))
        refine wpQuiet_nil ?_
        intro nq
        go_wp2_with fail
        refine ⟨⟨k + n, A2, cap' - n, by omega, by rw [Nat.sub_sub], by omega, HF.out, ⟨s, splice B q d, ?_, ?_⟩, only_trans hgr (only_trans hg2 (only_setCell (only_drewN (World.grownBy.refl w2 _) nq) (.inl rfl) _))⟩, ?_⟩
        · have h := hsp.part (d := d) (by rw [HQM.out, HDL.out]; omega)
          rw [HQM.out, HCD.out.1] at h
          exact h
        · rw [HCD.out.2]
          exact HSET.out
        · simp; omega
    · obtain rfl : k = l.length := by omega
      have n1 : ¬ (0 : Int) < ((l.length - l.length : Nat) : Int) := by omega
      go_wp2_with fail
      go_end0
      exact ⟨rfl, ⟨s, B, by rw [List.take_of_length_le (Nat.le_refl _)] at hsp; exact hsp, by rw [List.take_of_length_le (Nat.le_refl _)] at hbk; exact hbk⟩, hgr⟩
end Go.Proofs.Ytidiepbmbbflhaa
end
section
namespace Go.Proofs.Ytidiepbmbbflhaa
open Go.RowKit
theorem size27 : (Try.prog.info? 92).map (·.size) = some 32 := by kernel_rfl
def z32 : Array Value := (bv (List.replicate 32 0)).toArray

theorem Spg.many {w : World} {g T : Nat} {c : List UInt8} (h : Spg w g T c) : w.cell? ⟨g, 72, none⟩ = some (.int .u64 ((c.length : Nat) : Int)) := by
  obtain ⟨s, B, hsp, hb⟩ := h
  exact (hb.cell 72).trans (sp_many _ _ _ rfl hsp.len)
theorem Spg.lt {w : World} {g T : Nat} {c : List UInt8} (h : Spg w g T c) : g < w.heap.size := by
  obtain ⟨s, B, hsp, hb⟩ := h
  exact hb.lt
theorem Spg.alloc {w : World} {g T : Nat} {c : List UInt8} (h : Spg w g T c) (o : Obj) : Spg (w.alloc o) g T c := by
  obtain ⟨s, B, hsp, hb⟩ := h
  exact ⟨s, B, hsp, hb.alloc o⟩
/-- one byte of the call's own, taken -/
theorem take_one (x : UInt8) (c : List UInt8) (hcl : c.length + 1 ≤ 1099511627776) (g T : Nat) (w : World) (hg : Spg w g T c) (z : Int) (hz : z = (x.toNat : Int)) :
    Calls Try.prog 59 #[.pointer (some ⟨g, 0, none⟩), .slice (some ⟨w.heap.size, 0, none⟩) 1 1] (w.alloc (.cells #[.int .u8 z] 5)) fun e w' => e = .returned (.tuple #[]) ∧ Spg w' g T (c ++ [x]) ∧ w.grownBy w' (some g) := by
  subst hz
  refine (take_any [x] c hcl g T _ w.heap.size 0 1 (by simp) (fun _ => rfl) (by have := hg.lt; omega) _ (fun j hj => ?_) (hg.alloc _)).mono ?_
  · have : j = 0 := by simp at hj; omega
    subst this
    exact (Blk.new w 5 _).cell 0
  · rintro e w' ⟨rfl, h1, h2⟩
    exact ⟨rfl, h1, only_trans (World.grownBy_alloc w _ _) h2⟩

theorem be_byte (m i : Nat) : (m : Int) * 8 / 2 ^ (56 - 8 * i) % 256 = ((UInt8.ofNat (8 * m / 2 ^ (56 - 8 * i))).toNat : Int) := by
  have e : (UInt8.ofNat (8 * m / 2 ^ (56 - 8 * i))).toNat = 8 * m / 2 ^ (56 - 8 * i) % 256 := by simp
  rw [e, Int.natCast_emod, Int.natCast_ediv, Int.natCast_mul, Int.natCast_pow, Int.mul_comm]
  rfl
theorem be_step (n i : Nat) (h : i < 8) : (Sha.be n).take (i + 1) = (Sha.be n).take i ++ [UInt8.ofNat (n / 2 ^ (56 - 8 * i))] := by
  match i, h with
  | 0, _ => rfl
  | 1, _ => rfl
  | 2, _ => rfl
  | 3, _ => rfl
  | 4, _ => rfl
  | 5, _ => rfl
  | 6, _ => rfl
  | 7, _ => simp [Sha.be]
/-- the digest's bytes so far, and noughts -/
def ov (st : Sha.St) (i : Nat) : Array Value := (bv ((Sha.out st).take i ++ List.replicate (32 - i) 0)).toArray
theorem length_out (st : Sha.St) : (Sha.out st).length = 32 := by simp [Sha.out]
theorem ov_get (st : Sha.St) (i : Nat) (h : i < 32) : (ov st i)[i]? = some (.int .u8 0) := by
  have h2 : ((Sha.out st).take i).length = i := by rw [List.length_take, length_out]; omega
  simp only [ov, bv, List.getElem?_toArray, List.getElem?_map]
  rw [List.getElem?_append_right (by omega), h2, Nat.sub_self, show 32 - i = (31 - i) + 1 by omega, List.replicate_succ]
  rfl
theorem ov_set (st : Sha.St) (i : Nat) (h : i < 32) : (ov st i).setIfInBounds i (.int .u8 (((Sha.out st).getD i 0).toNat : Int)) = ov st (i + 1) := by
  have h2 : ((Sha.out st).take i).length = i := by rw [List.length_take, length_out]; omega
  have h3 : i < (Sha.out st).length := by rw [length_out]; exact h
  have e : (bv ((Sha.out st).take i ++ List.replicate (32 - i) 0)).set i (.int .u8 (((Sha.out st).getD i 0).toNat : Int)) = bv (((Sha.out st).take i ++ List.replicate (32 - i) 0).set i ((Sha.out st).getD i 0)) := by
    simp only [bv, List.map_set]
  simp only [ov, List.setIfInBounds_toArray]
  rw [e, List.set_append_right _ _ (by omega), h2, Nat.sub_self, show 32 - i = (32 - (i + 1)) + 1 by omega, List.replicate_succ, List.set_cons_zero, List.take_succ_eq_append_getElem h3, List.append_assoc]
  simp [List.getD, h3]
theorem and3 (i : Nat) (h : i < 32) : bits .and .i64 (i : Int) 3 = ((i % 4 : Nat) : Int) := by
  have h1 : ∀ j : Nat, j < 32 → bits .and .i64 (j : Int) 3 = ((j % 4 : Nat) : Int) := by decide +kernel
  exact h1 i h
theorem out_byte (st : Sha.St) (i : Nat) (x : Sha.W) (p r : Nat) (h : i < 32) (hx : x = st.list.getD p 0 ∧ p = i / 4 ∧ r = i % 4) : U x / 2 ^ (24 - r * 8) % 256 = (((Sha.out st).getD i 0).toNat : Int) := by
  obtain ⟨rfl, rfl, rfl⟩ := hx
  rw [U_shr]
  have e : (Sha.out st).getD i 0 = UInt8.ofNat (((st.list.getD (i / 4) 0) >>> (24 - i % 4 * 8)).toNat % 256) := by simp [Sha.out, List.getD, h]
  rw [e]
  generalize (st.list.getD (i / 4) 0) >>> (24 - i % 4 * 8) = y
  unfold U
  have e2 : (UInt8.ofNat (y.toNat % 256)).toNat = y.toNat % 256 := by simp
  rw [e2]
  omega
theorem only_new {a b c : World} {row : Option Nat} {R : Nat} (h : a.grownBy b row) (k : b.grownBy c (some R)) (hR : a.heap.size ≤ R) : a.grownBy c row :=
  ⟨k.os.trans h.os, k.tape.trans h.tape, k.output.trans h.output, Nat.le_trans h.size k.size, fun i hi hne => (k.block i (Nat.lt_of_lt_of_le hi h.size) (by intro e; injection e with e; omega)).trans (h.block i hi hne)⟩
def manyOf (w : World) (g : Nat) : Nat := match w.cell? ⟨g, 72, none⟩ with | some (.int _ n) => n.toNat | _ => 0
theorem Spg.manyOf {w : World} {g T : Nat} {c : List UInt8} (h : Spg w g T c) : manyOf w g = c.length := by unfold Ytidiepbmbbflhaa.manyOf; rw [h.many]; simp

set_option maxRecDepth 100000 in
set_option maxHeartbeats 1000000 in
theorem end_any (c : List UInt8) (hcl : c.length ≤ 1099511627000) (g T : Nat) (w : World) (hg : Spg w g T c) :
    Calls Try.prog 60 #[.pointer (some ⟨g, 0, none⟩)] w fun e w' => e = .returned (.agg (bv (Sha.sum c)).toArray) ∧ w.grownBy w' (some g) := by
  have hlt := hg.lt
  obtain ⟨R, hR⟩ : ∃ R, R = w.heap.size := ⟨_, rfl⟩
  have HG := hide hg
  have HR := hide hR
  clear hR hg
  go_enter Try.func60, Try.ntmps60
  go_step
  go_step
  apply wp_region_lit
  refine wpList_value (o := ⟨some 2, _, _, _, _, _⟩) rfl (.pointer (some ⟨R, 0, none⟩)) (w.alloc (.cells z32 92)) (by rw [HR.out]; kernel_rfl) ?_
  dsimp only [Act.put, List.setIfInBounds_toArray, List.set_cons_zero, List.set_cons_succ]
  obtain ⟨w1, hw1⟩ : ∃ w1, w1 = w.alloc (.cells z32 92) := ⟨_, rfl⟩
  have hb1 : Blk w1 R 92 z32 := by rw [hw1, HR.out]; exact Blk.new _ _ _
  have hg1 : Spg w1 g T c := by rw [hw1]; exact HG.out.alloc _
  have hgr1 : w.grownBy w1 (some g) := by rw [hw1]; exact World.grownBy_alloc w _ _
  rw [← hw1]
  clear hw1
  have cm := hg1.many
  obtain ⟨m, hm⟩ : ∃ m, m = c.length := ⟨_, rfl⟩
  rw [← hm] at cm
  have hm1 : m ≤ 1099511627000 := by omega
  have HM := hide hm
  have HB1 := hide hb1
  have HG1 := hide hg1
  clear hm hb1 hg1
  go_wp2_with (go_at_call 59; refine (take_one 128 c (by rw [← HM.out]; omega) g T _ HG1.out 128 rfl).mono ?_; rintro e w2 ⟨rfl, hg2, hgr2⟩)
  have HG2 := hide hg2
  clear hg2
  have hR2 : R < w1.heap.size := HB1.out.lt
  have hRg : R ≠ g := by have := HR.out; omega
  have hkR : ∀ W, w1.grownBy W (some g) → Blk W R 92 z32 := fun W h => HB1.out.grown h (by intro e; injection e with e; exact hRg e)
  have HKR := hide hkR
  clear hkR
  go_loopw [14] (fun _ wr => ∃ j : Nat, j ≤ Sha.noughts c.length ∧ Spg wr g T (c ++ [128] ++ List.replicate j 0) ∧ w1.grownBy wr (some g)) (fun _ wr => 1099511627776 - manyOf wr g)
  case atStart => exact ⟨0, by omega, by simpa using HG2.out, hgr2⟩
  case round =>
    obtain ⟨j, hj, hgj, hgrj⟩ := hrel
    have hlen : (c ++ [128] ++ List.replicate j 0).length = m + 1 + j := by have := HM.out; simp; omega
    have hno : Sha.noughts c.length = (119 - m % 64) % 64 := by rw [Sha.noughts, HM.out]
    obtain ⟨q, hq⟩ : ∃ q, q = m + 1 + j := ⟨_, rfl⟩
    have cm2 := hgj.many
    rw [hlen, ← hq] at cm2
    have hmo := hgj.manyOf
    rw [hlen, ← hq] at hmo
    have HMO := hide hmo
    have HLEN := hide hlen
    have HNO := hide hno
    have HGJ := hide hgj
    have HQ := hide hq
    have hqb : q ≤ 1099511627200 := by have := HNO.out; omega
    clear hmo hlen hno hgj hq
    by_cases h56 : q % 64 = 56
    · have h56' : (q : Int) % 64 = 56 := by omega
      go_wp2_with fail
      have hjn : j = Sha.noughts c.length := by have := HNO.out; have := HQ.out; omega
      have HJN := hide hjn
      clear hjn h56' h56
      go_loopw [4] (fun v wq => ∃ i : Nat, i ≤ 8 ∧ v = .int .i64 (56 - 8 * (i : Int)) ∧ Spg wq g T (c ++ [128] ++ List.replicate j 0 ++ (Sha.be (8 * m)).take i) ∧ w1.grownBy wq (some g)) (fun v _ => (intOf v + 8).toNat)
      case atStart => exact ⟨0, by omega, rfl, by simpa using HGJ.out, hgrj⟩
      case round =>
        obtain ⟨i, hi, rfl, hgi, hgri⟩ := hrel
        by_cases h8 : i < 8
        · have n1 : (0 : Int) ≤ 56 - 8 * (i : Int) := by omega
          go_wp2_with (go_at_call 59; refine (take_one (UInt8.ofNat (8 * m / 2 ^ (56 - 8 * i))) _ (by rw [List.length_append, HLEN.out, ← HQ.out, List.length_take]; omega) g T _ hgi _ (be_byte m i)).mono ?_; rintro e w3 ⟨rfl, hg3, hgr3⟩)
          go_roundw
          case rel =>
            refine ⟨i + 1, by omega, by go_num, ?_, only_trans hgri hgr3⟩
            rw [be_step (8 * m) i h8, ← List.append_assoc]
            exact hg3
          case measure => simp [intOf]; omega
        · obtain rfl : i = 8 := by omega
          have n1 : ¬ (0 : Int) ≤ 56 - 8 * ((8 : Nat) : Int) := by omega
          have hpad : c ++ [128] ++ List.replicate j 0 ++ (Sha.be (8 * m)).take 8 = Sha.pad c := by rw [List.take_of_length_le (by simp [Sha.be]), HJN.out, HM.out]; rfl
          rw [hpad] at hgi
          obtain ⟨st, B, hsp, hb⟩ := hgi
          have hst := hsp.st
          have HST := hide hst
          have HB := hide hb
          have hRB := HKR.out _ hgri
          have HRB := hide hRB
          clear hst hb hpad hRB
          go_wp2_with fail
          go_loopw [34] (fun v wz => ∃ i : Nat, i ≤ 32 ∧ v = .int .i64 (i : Int) ∧ Blk wz R 92 (ov st i) ∧ wr.grownBy wz (some R)) (fun v _ => (32 - intOf v).toNat)
          case atStart => exact ⟨0, by omega, rfl, HRB.out, World.grownBy.refl _ _⟩
          case round =>
            obtain ⟨i, hi, rfl, hri, hgz⟩ := hrel
            by_cases h32 : i < 32
            · obtain ⟨p, hp⟩ : ∃ p, p = i / 4 := ⟨_, rfl⟩
              obtain ⟨r, hr⟩ : ∃ r, r = i % 4 := ⟨_, rfl⟩
              have hp4 : (i : Int) / 4 = (p : Int) := by omega
              have hr4 : bits .and .i64 (i : Int) 3 = (r : Int) := by rw [hr]; exact and3 i h32
              have hp8 : p < 8 := by omega
              have hr3 : r ≤ 3 := by omega
              have cp := ((HB.out.grown hgz (by intro e; injection e with e; exact hRg e.symm)).cell p).trans (sp_word _ _ _ p rfl hp8)
              have cR := hri.cell i
              rw [ov_get st i h32] at cR
              have fR := hri.frozen i
              obtain ⟨x, hx⟩ : ∃ x, x = st.list.getD p 0 := ⟨_, rfl⟩
              rw [← hx] at cp
              have HX := hide (And.intro hx (And.intro hp hr))
              have HRI := hide hri
              clear hx hp hr hri
              go_wp2_with fail
              go_roundw
              case rel =>
                refine ⟨i + 1, by omega, by go_num, ?_, only_setCell hgz (.inl rfl) _⟩
                have h3 := HRI.out.set_ i (.int .u8 (((Sha.out st).getD i 0).toNat : Int))
                rw [ov_set st i h32] at h3
                rw [out_byte st i x p r h32 HX.out]
                exact h3
              case measure => simp [intOf]; omega
            · obtain rfl : i = 32 := by omega
              have e32 : ov st 32 = (bv (Sha.out st)).toArray := by unfold ov; rw [List.take_of_length_le (by rw [length_out]; exact Nat.le_refl _)]; simp
              rw [e32] at hri
              have hsz : (Try.prog.info? 92).map (·.size) = some (bv (Sha.out st)).toArray.size := by rw [List.size_toArray, bv, List.length_map, length_out]; exact size27
              have HK := hide hri
              clear hri
              go_wp2_with (first
                | ((with_reducible refine at_slot 53 ?_); (with_reducible refine wpList_load_blk (o := ⟨some 53, _, _, _, _, _⟩) rfl 92 (.tmp 2) rfl R 92 (bv (Sha.out st)).toArray _ _ HK.out Try.underlying92 hsz ?_ ?_); rfl; dsimp only [Act.put, List.setIfInBounds_toArray, List.set_cons_zero, List.set_cons_succ])
                | ((with_reducible refine wpList_store_blkA (o := ⟨none, _, _, _, _, _⟩) rfl 92 (.tmp 2) (.tmp 53) rfl R (bv (Sha.out st)).toArray (bv (Sha.out st)).toArray 92 HK.out hsz rfl (bv_one _) ?_ ?_ ?_); rfl; rfl; intro w9 h9 hg9; dsimp only [Act.put]))
              refine bodyPost_ret (results_cell_blk rfl _ _ R 92 (bv (Sha.out st)).toArray _ _ rfl h9 Try.underlying92 hsz) rfl ⟨by rw [Sha.sum, ← HST.out], ?_⟩
              have g1 := only_trans hgr1 hgri
              exact only_new g1 (only_trans hgz hg9) (by rw [HR.out]; exact Nat.le_refl _)
    · have h56' : ¬ (q : Int) % 64 = 56 := by omega
      go_wp2_with (go_at_call 59; refine (take_one 0 _ (by rw [HLEN.out, ← HQ.out]; omega) g T _ HGJ.out 0 rfl).mono ?_; rintro e w3 ⟨rfl, hg3, hgr3⟩)
      go_roundw
      case rel =>
        refine ⟨j + 1, ?_, ?_, only_trans hgrj hgr3⟩
        · have := HNO.out; have := HQ.out; omega
        · rw [List.replicate_succ', ← List.append_assoc]; exact hg3
      case measure =>
        rw [HMO.out, hg3.manyOf, List.length_append, HLEN.out, ← HQ.out]
        simp
        omega
end Go.Proofs.Ytidiepbmbbflhaa
end
section
namespace Go.Proofs.Ytidiepbmbbflhaa
open Go.RowKit
theorem BytesAt.open_ {w : World} {B g : Nat} {v : Value} {l : List UInt8} (h : BytesAt w B v l) (hg : B ≤ g) :
    ∃ A cap b off, v = .slice A l.length cap ∧ l.length ≤ cap ∧ b ≠ g ∧ (0 < l.length → A = some ⟨b, off, none⟩) ∧ ∀ j, j < l.length → w.cell? ⟨b, off + j, none⟩ = some (.int .u8 ((l.getD j 0).toNat : Int)) := by
  obtain ⟨A, cap, hv, hc, hA⟩ := h
  by_cases h0 : 0 < l.length
  · obtain ⟨b, off, h1, h2, h3⟩ := hA h0
    exact ⟨A, cap, b, off, hv, hc, by omega, fun _ => h1, h3⟩
  · exact ⟨A, cap, g + 1, 0, hv, hc, by omega, fun h => absurd h h0, fun j hj => by omega⟩

set_option maxRecDepth 100000 in
set_option maxHeartbeats 1000000 in
theorem sum_any (ls : List (List UInt8)) (hl : ls.flatten.length ≤ 1099511627000) (hn : ls.length ≤ 1099511627000) (v : Value) (w : World) (B : Nat) (hB : B ≤ w.heap.size) (hp : PartsAt w B v ls) :
    Calls Try.prog 48 #[v] w fun e w' => e = .returned (.agg (bv (Sha.sum ls.flatten)).toArray) ∧ Below w.heap.size w w' := by
  obtain ⟨A, cap, rfl, hcap, hA⟩ := hp
  have HA := hide hA
  clear hA
  obtain ⟨R, hR⟩ : ∃ R, R = w.heap.size := ⟨_, rfl⟩
  have HR := hide hR
  clear hR
  go_enter Try.func48, Try.ntmps48
  go_step
  go_step
  apply wp_region_lit
  refine wpList_value (o := ⟨some 2, _, _, _, _, _⟩) rfl (.pointer (some ⟨R, 0, none⟩)) (w.alloc (.cells z32 92)) (by rw [HR.out]; kernel_rfl) ?_
  dsimp only [Act.put, List.setIfInBounds_toArray, List.set_cons_zero, List.set_cons_succ]
  obtain ⟨w1, hw1⟩ : ∃ w1, w1 = w.alloc (.cells z32 92) := ⟨_, rfl⟩
  have hb1 : Blk w1 R 92 z32 := by rw [hw1, HR.out]; exact Blk.new _ _ _
  have hbl1 : Below w.heap.size w w1 := by rw [hw1]; exact (Below.refl _ _).alloc (Nat.le_refl _) _
  rw [← hw1]
  clear hw1
  have HB1 := hide hb1
  clear hb1
  go_step
  go_step
  go_step
  go_step
  apply wp_region_lit
  go_step
  go_step
  refine (first_any _).mono ?_
  rintro e w2 ⟨rfl, hb2⟩
  dsimp only
  go_step
  refine wpList_value (o := ⟨some 7, _, _, _, _, _⟩) rfl (.agg (sp Sha.first.list (List.replicate 64 0) 0)) w2 (by kernel_rfl) ?_
  dsimp only [Act.put, List.setIfInBounds_toArray, List.set_cons_zero, List.set_cons_succ]
  refine wpList_value (o := ⟨some 8, _, _, _, _, _⟩) rfl (.pointer (some ⟨w2.heap.size, 0, none⟩)) (w2.alloc (.cells (sp Sha.first.list (List.replicate 64 0) 0) 120)) (by kernel_rfl) ?_
  dsimp only [Act.put, List.setIfInBounds_toArray, List.set_cons_zero, List.set_cons_succ]
  obtain ⟨g, hg⟩ : ∃ g, g = w2.heap.size := ⟨_, rfl⟩
  obtain ⟨w3, hw3⟩ : ∃ w3, w3 = w2.alloc (.cells (sp Sha.first.list (List.replicate 64 0) 0) 120) := ⟨_, rfl⟩
  have hs3 : Spg w3 g 120 [] := ⟨_, _, Sha.Sponge.nil, by rw [hw3, hg]; exact Blk.new _ _ _⟩
  have hR2 : R < w1.heap.size := HB1.out.lt
  have hgR : R < g := by have := hb2.size; omega
  have hk3 : Blk w3 R 92 z32 := by rw [hw3]; exact (HB1.out.below hb2 hR2).alloc _
  have hal3 : Below w.heap.size w w3 := by rw [hw3]; exact (hbl1.trans (hb2.mono hbl1.size)).alloc (Nat.le_trans hbl1.size hb2.size) _
  have hBg : B ≤ g := by have := hb2.size; have := hbl1.size; omega
  rw [← hw3, ← hg]
  have HS3 := hide hs3
  have HK3 := hide hk3
  clear hw3 hg hs3 hk3 hb2
  have hls0 : (0 : Int) ≤ (ls.length : Int) := by omega
  go_wp2_with fail
  go_loopw [11] (fun i wr => ∃ k : Nat, k ≤ ls.length ∧ i = .int .i64 (k : Int) ∧ Spg wr g 120 (ls.take k).flatten ∧ w3.grownBy wr (some g)) (fun i _ => ls.length - (intOf i).toNat)
  case atStart => exact ⟨0, by omega, rfl, HS3.out, World.grownBy.refl _ _⟩
  case round =>
    obtain ⟨k, hk, rfl, hsk, hgk⟩ := hrel
    by_cases hlt : k < ls.length
    · obtain ⟨b, off, rfl, hbB, hcells⟩ := HA.out (by omega)
      obtain ⟨u, hu, hby⟩ := hcells k hlt
      have ha : Alike B w wr := (alike_of_below (hal3.mono hB)).trans (alike_of_grown hgk hBg (by have := hal3.size; omega))
      have cu : wr.cell? ⟨b, off + k, none⟩ = some u := (ha.cell (p := ⟨b, off + k, none⟩) hbB).trans hu
      obtain ⟨l, hl'⟩ : ∃ l, l = ls.getD k [] := ⟨_, rfl⟩
      rw [← hl'] at hby
      obtain ⟨Aj, cj, bj, oj, rfl, hcj, hbj, hAj, hcell⟩ := (hby.alike ha).open_ hBg
      have hfl : (ls.take (k + 1)).flatten = (ls.take k).flatten ++ l := by
        rw [List.take_succ_eq_append_getElem hlt, List.flatten_append, hl']; simp [List.getD, hlt]
      have hbd : (ls.take k).flatten.length + l.length ≤ 1099511627776 := by
        have h1 : (ls.take (k + 1)).flatten.length ≤ ls.flatten.length := by
          have h2 : ls.flatten = (ls.take (k + 1)).flatten ++ (ls.drop (k + 1)).flatten := by rw [← List.flatten_append, List.take_append_drop]
          rw [h2, List.length_append]; omega
        rw [hfl, List.length_append] at h1
        omega
      have HFL := hide hfl
      have HCELL := hide hcell
      have HAJ := hide hAj
      have i1 : (0 : Int) ≤ (k : Int) := by omega
      have i2 : (k : Int) < (ls.length : Int) := by omega
      clear hu hby hcells hl' hfl hcell hAj
      go_wp2_with (go_at_call 59; refine (take_any l _ hbd g 120 Aj bj oj cj hcj HAJ.out hbj _ HCELL.out hsk).mono ?_; rintro e w5 ⟨rfl, hs5, hg5⟩)
      go_roundw
      case rel => exact ⟨k + 1, by omega, by go_num, by rw [HFL.out]; exact hs5, only_trans hgk hg5⟩
      case measure => simp [intOf]; omega
    · obtain rfl : k = ls.length := by omega
      have hfl : (ls.take ls.length).flatten = ls.flatten := by rw [List.take_of_length_le (Nat.le_refl _)]
      rw [hfl] at hsk
      have hkR : Blk wr R 92 z32 := HK3.out.grown hgk (by intro e; injection e with e; omega)
      have HKR := hide hkR
      have hsz : (Try.prog.info? 92).map (·.size) = some (bv (Sha.sum ls.flatten)).toArray.size := by rw [List.size_toArray, bv, List.length_map, Sha.sum, length_out]; exact size27
      have hzs : z32.size = (bv (Sha.sum ls.flatten)).toArray.size := by
        have e : z32.size = 32 := by simp [z32, bv]
        rw [e, List.size_toArray, bv, List.length_map, Sha.sum, length_out]
      clear hkR hfl
      go_wp2_with (first
        | (go_at_call 60; refine (end_any _ hl g 120 _ hsk).mono ?_; rintro e w6 ⟨rfl, hg6⟩; have HK6 := hide (HKR.out.grown hg6 (fun e => absurd (Option.some.inj e) (Nat.ne_of_lt hgR))))
        | ((with_reducible refine wpList_store_blkA (o := ⟨none, _, _, _, _, _⟩) rfl 92 (.tmp 2) (.tmp 20) rfl R z32 (bv (Sha.sum ls.flatten)).toArray 92 HK6.out hsz hzs (bv_one _) ?_ ?_ ?_); rfl; rfl; intro w9 h9 hg9; dsimp only [Act.put]))
      refine bodyPost_ret (results_cell_blk rfl _ _ R 92 (bv (Sha.sum ls.flatten)).toArray _ _ rfl h9 Try.underlying92 hsz) rfl ⟨rfl, ?_⟩
      have hw := HR.out
      refine Below.grown (Below.grown (Below.grown hal3 hgk ?_ ?_) hg6 ?_ ?_) hg9 ?_ ?_
      · have := hal3.size; omega
      · intro x hx; injection hx with hx; omega
      · have := hal3.size; have := hgk.size; omega
      · intro x hx; injection hx with hx; omega
      · have := hal3.size; have := hgk.size; have := hg6.size; omega
      · intro x hx; injection hx with hx; omega
end Go.Proofs.Ytidiepbmbbflhaa
end
section
namespace Go.Proofs.Ytidiepbmbbflhaa
open Go.RowKit
theorem size34 : (Try.prog.info? 27).map (·.size) = some 20 := by kernel_rfl
/-- a digest, folded: of its first i bytes -/
def fold (l : List UInt8) : Nat → List UInt8
  | 0 => List.replicate 20 0
  | i + 1 => (fold l i).set (i % 20) ((fold l i).getD (i % 20) 0 ^^^ l.getD i 0)
theorem length_fold (l : List UInt8) (i : Nat) : (fold l i).length = 20 := by induction i with | zero => rfl | succ i ih => simp [fold, ih]

set_option maxRecDepth 100000 in
set_option maxHeartbeats 1000000 in
theorem fold_any (l : List UInt8) (hl : l.length = 32) (w : World) :
    Calls Try.prog 47 #[.agg (bv l).toArray] w fun e w' => e = .returned (.agg (bv (fold l 32)).toArray) ∧ Below w.heap.size w w' := by
  have h0 : Blk (w.alloc (.cells (bv l).toArray 92)) w.heap.size 92 (bv l).toArray := Blk.new _ _ _
  have hsl : (Try.prog.info? 92).map (·.size) = some (bv l).toArray.size := by rw [List.size_toArray, bv, List.length_map, hl]; kernel_rfl
  obtain ⟨L, hL⟩ : ∃ L, L = (bv l).toArray := ⟨_, rfl⟩
  rw [← hL] at h0 hsl ⊢
  have HL := hide hL
  have H0 := hide h0
  clear hL h0
  go_enter Try.func47, Try.ntmps47
  go_wp2_with (with_reducible refine wpList_load_blk (o := ⟨some 5, _, _, _, _, _⟩) rfl 92 (.tmp 1) rfl w.heap.size 92 L _ _ (H0.out.alloc _) Try.underlying92 hsl ?_ ?_); rfl
  obtain ⟨R, hR⟩ : ∃ R, R = w.heap.size + 1 := ⟨_, rfl⟩
  have hz : Blk ((w.alloc (.cells L 92)).alloc (.cells (bv (fold l 0)).toArray 27)) R 27 (bv (fold l 0)).toArray := by rw [hR]; exact Blk.new1 _ _ _ _
  have hbz : Below w.heap.size w ((w.alloc (.cells L 92)).alloc (.cells (bv (fold l 0)).toArray 27)) := ((Below.refl _ _).alloc (Nat.le_refl _) _).alloc (by rw [size_alloc]; omega) _
  rw [← hR]
  have HZ := hide hz
  have HR := hide hR
  have HBZ := hide hbz
  clear hz hR hbz
  go_loopw [6] (fun v wr => ∃ i : Nat, i ≤ 32 ∧ v = .int .i64 (i : Int) ∧ Blk wr R 27 (bv (fold l i)).toArray ∧ Below w.heap.size w wr) (fun v _ => (32 - intOf v).toNat)
  case atStart => exact ⟨0, by omega, rfl, HZ.out, HBZ.out⟩
  case round =>
    obtain ⟨i, hi, rfl, hb, hbl⟩ := hrel
    have hRw : w.heap.size ≤ R := by have := HR.out; omega
    by_cases h32 : i < 32
    · obtain ⟨q, hq⟩ : ∃ q, q = i % 20 := ⟨_, rfl⟩
      have hqi : (i : Int) % 20 = (q : Int) := by omega
      have hq2 : q < 20 := by omega
      obtain ⟨x, hx⟩ : ∃ x, x = l.getD i 0 := ⟨_, rfl⟩
      obtain ⟨y, hy⟩ : ∃ y, y = (fold l i).getD q 0 := ⟨_, rfl⟩
      have hix : ∀ W, (Instr.index 92 (.agg L) (.int .i64 (i : Int))).run Try.prog W = .ok (.int .u8 (x.toNat : Int)) W :=
        run_index_int 92 5 32 .u8 Try.underlying92 Try.underlying5 size5 L i h32 _ (by rw [HL.out, hx, bv_get _ _ (by omega)])
      have cq : wr.cell? ⟨R, q, none⟩ = some (.int .u8 (y.toNat : Int)) := by rw [hb.cell, bv_get _ _ (by rw [length_fold]; omega), hy]
      have fq := hb.frozen q
      have hxy : bits .xor .u8 (y.toNat : Int) (x.toNat : Int) = ((y ^^^ x).toNat : Int) := by
        rw [u8_xor_nat _ _ y.toNat_lt x.toNat_lt, UInt8.toNat_xor]
      have HB := hide hb
      have HQ := hide (And.intro hq (And.intro hx hy))
      clear hb hq hx hy
      obtain ⟨z, hz⟩ : ∃ z, z = y ^^^ x := ⟨_, rfl⟩
      rw [← hz] at hxy
      have HZ2 := hide hz
      clear hz
      go_wp2_with fail
      go_roundw
      case rel =>
        refine ⟨i + 1, by omega, by go_num, ?_, hbl.setCell hRw _⟩
        have h3 := HB.out.set_ q (.int .u8 (z.toNat : Int))
        rw [bv_set] at h3
        have e : fold l (i + 1) = (fold l i).set q z := by rw [fold, HZ2.out, HQ.out.1, HQ.out.2.1, HQ.out.2.2, HQ.out.1]
        rw [e]
        exact h3
      case measure => simp [intOf]; omega
    · obtain rfl : i = 32 := by omega
      have hsz : (Try.prog.info? 27).map (·.size) = some (bv (fold l 32)).toArray.size := by rw [List.size_toArray, bv, List.length_map, length_fold]; exact size34
      have HK := hide hb
      clear hb
      go_wp2_with (first
        | ((with_reducible refine at_slot 18 ?_); (with_reducible refine wpList_load_blk (o := ⟨some 18, _, _, _, _, _⟩) rfl 27 (.tmp 2) rfl R 27 (bv (fold l 32)).toArray _ _ HK.out Try.underlying27 hsz ?_ ?_); rfl; dsimp only [Act.put, List.setIfInBounds_toArray, List.set_cons_zero, List.set_cons_succ])
        | ((with_reducible refine wpList_store_blkA (o := ⟨none, _, _, _, _, _⟩) rfl 27 (.tmp 2) (.tmp 18) rfl R (bv (fold l 32)).toArray (bv (fold l 32)).toArray 27 HK.out hsz rfl (bv_one _) ?_ ?_ ?_); rfl; rfl; intro w9 h9 hg9; dsimp only [Act.put]))
      refine bodyPost_ret (results_cell_blk rfl _ _ R 27 (bv (fold l 32)).toArray _ _ rfl h9 Try.underlying27 hsz) rfl ⟨rfl, ?_⟩
      refine hbl.grown hg9 hbl.size ?_
      intro k hk; injection hk with hk; omega
end Go.Proofs.Ytidiepbmbbflhaa
end
section
namespace Go.Proofs.Ytidiepbmbbflhaa
open Go.RowKit
theorem or128 (m : Nat) : bits .or .u8 ((m : Int) % 256) 128 = ((UInt8.ofNat (m % 128 + 128)).toNat : Int) := by
  have h1 : (m : Int) % 256 = ((m % 256 : Nat) : Int) := by omega
  have h2 : bits .or .u8 ((m % 256 : Nat) : Int) ((128 : Nat) : Int) = ((m % 256 ||| 128 : Nat) : Int) := by
    have := u8_or_nat (m % 256) 128 (by omega) (by omega)
    exact this
  rw [h1]
  refine h2.trans ?_
  rw [UInt8.toNat_ofNat']
  have h3 : m % 256 ||| 128 = m % 128 + 128 := by
    have h4 : m % 256 < 256 := Nat.mod_lt _ (by omega)
    have h5 : m % 128 = (m % 256) % 128 := by omega
    rw [h5]
    generalize m % 256 = q at h4
    clear h1 h2 h5
    revert h4
    revert q
    decide +kernel
  rw [h3]
  congr 1
  omega
/-- the row that a maker has, and its mark -/
structure MkAt (w : World) (base g T : Nat) (l : List UInt8) (bad : Bool) (v : Value) : Prop where
  blk : Blk w g T #[v, .bool bad]
  own : w.ownsRow base 5 1 v l.length (bv l)
/-- where a maker's row lies behind some steps -/
def Moved (w : World) (v v' : Value) : Prop := v'.ownBlock = v.ownBlock ∨ ∃ r, v'.ownBlock = some r ∧ w.heap.size ≤ r
theorem Moved.refl (w : World) (v : Value) : Moved w v v := .inl rfl
theorem Moved.trans {w w' : World} {a b c : Value} (h : Moved w a b) (k : Moved w' b c) (hw : w.heap.size ≤ w'.heap.size) : Moved w a c := by
  rcases k with k | ⟨r, k, hr⟩
  · rcases h with h | ⟨q, h, hq⟩
    · exact .inl (k.trans h)
    · exact .inr ⟨q, k.trans h, hq⟩
  · exact .inr ⟨r, k, by omega⟩
/-- a maker's own blocks -/
def MkS (g : Nat) (v : Value) (k : Nat) : Prop := k = g ∨ v.ownBlock = some k

set_option maxRecDepth 100000 in
set_option maxHeartbeats 1000000 in
theorem number_any (n : Nat) (hn : n < 18446744073709551616) (l : List UInt8) (hl : l.length ≤ 1099511627776) (bad : Bool) (base g T : Nat) (hT : 5 ≠ T) (v : Value) (w : World) (hbase : base ≤ w.heap.size) (hm : MkAt w base g T l bad v) :
    Calls Try.prog 70 #[.pointer (some ⟨g, 0, none⟩), .int .u64 (n : Int)] w fun e w' => e = .returned (.tuple #[]) ∧ ∃ v', MkAt w' base g T (l ++ num n) bad v' ∧ Turned (MkS g v) w w' ∧ Moved w v v' := by
  obtain ⟨i, hi, hz0, hz1, hz2⟩ := info_parts info_u8
  have hN := num_len n hn
  have HM := hide hm
  have HT := hide hT
  clear hm hT
  go_enter Try.func70, Try.ntmps70
  go_wp2_with fail
  go_loopw [1] (fun s wr => ∃ (m : Nat) (dn : List UInt8) (v' : Value), s = .int .u64 (m : Int) ∧ m < 18446744073709551616 ∧ dn ++ num m = num n ∧ MkAt wr base g T (l ++ dn) bad v' ∧ Turned (MkS g v) w wr ∧ Moved w v v') (fun s _ => (intOf s).toNat)
  case atStart => exact ⟨n, [], v, rfl, hn, rfl, by simpa using HM.out, Turned.refl _ _, Moved.refl _ _⟩
  case round =>
    obtain ⟨m, dn, v', rfl, hm, hdn, ⟨hb, ho⟩, ht, hmv⟩ := hrel
    have hlen : dn.length + (num m).length ≤ 10 := by rw [← List.length_append, hdn]; exact hN
    have c0 := hb.cell 0
    have f0 := hb.frozen 0
    simp only [List.getElem?_toArray, List.getElem?_cons_zero] at c0
    have hlt := hb.lt
    have hne := owned_ne ho hb HT.out
    have hsz := ht.size
    have HD := hide hdn
    have HB := hide hb
    have HO := hide ho
    have HTU := hide (And.intro ht hmv)
    have HL := hide hlen
    have HNE := hide hne
    clear hdn hb ho ht hmv hlen hne
    by_cases hge : 128 ≤ m
    · have hor := or128 m
      obtain ⟨x, hx⟩ : ∃ x, x = UInt8.ofNat (m % 128 + 128) := ⟨_, rfl⟩
      rw [← hx] at hor
      have HX := hide hx
      clear hx
      obtain ⟨X, hX⟩ : ∃ X, X = wr.heap.size := ⟨_, rfl⟩
      have hsrc := src_one wr (.int .u8 (x.toNat : Int)) 5 rfl
      rw [← hX] at hsrc
      have HSR := hide hsrc
      have HXX := hide hX
      clear hsrc hX
      go_wp2_with (at_builtin; (refine wpList_app rfl _ _ 32 rfl base 5 i (.int .u8 0) 1 Try.underlying32 hi hz0 hz1 hz2 rfl v' (l ++ dn).length (bv (l ++ dn)) (HO.out.alloc _) _ 1 1 [.int .u8 (x.toNat : Int)] (src_one _ _ _ rfl) ?h1 ?h2 ?h3 rfl rfl ?_))
      case h1 => have := HL.out; simp only [List.length_append, maxLen]; omega
      case h2 => have := HL.out; simp only [List.length_append]; omega
      case h3 => rw [size_alloc]; omega
      intro v2 w2 own2 gr2 mv2 _
      have hb2 := (HB.out.alloc _).grown gr2 (fun e => HNE.out e.symm)
      have c2 := hb2.cell 0
      have f2 := hb2.frozen 0
      simp only [List.getElem?_toArray, List.getElem?_cons_zero] at c2
      have hlt2 := hb2.lt
      have hT2 : Turned (MkS g v) w w2 := by
        refine (HTU.out.1.alloc _).then_ (Turned.of_grown (S := fun k => v'.ownBlock = some k) gr2 (fun k h _ => h)) ?_
        intro k hk hv
        rcases HTU.out.2 with h | ⟨r, h, hr⟩
        · exact .inr (h ▸ hv)
        · rw [h] at hv; injection hv with hv; omega
      have hM2 : Moved w v v2 := HTU.out.2.trans (w' := wr.alloc (.cells #[.int .u8 (x.toNat : Int)] 5)) (by rcases mv2 with h | h; exact .inl h; exact .inr ⟨_, h, by rw [size_alloc]; omega⟩) (by rw [size_alloc]; omega)
      have hd2 : (dn ++ [x]) ++ num (m / 128) = num n := by rw [← HD.out, num_hi (n := m) (by omega), HX.out]; simp
      obtain ⟨A2, k2, rfl⟩ := owned_slice own2
      have hq : l.length + dn.length + 1 = (l ++ (dn ++ [x])).length := by simp; omega
      have HB2 := hide hb2
      have HT2 := hide (And.intro hT2 hM2)
      have HO2 := hide own2
      have HD2 := hide hd2
      clear hb2 own2 gr2 mv2 hT2 hM2 hd2 c0 f0
      go_wp2_with fail
      go_roundw
      case rel =>
        refine ⟨m / 128, dn ++ [x], .slice A2 (l.length + dn.length + 1) k2, by go_num, by omega, HD2.out, ⟨?_, ?_⟩, HT2.out.1.setCell (fun _ => .inl rfl) _, HT2.out.2⟩
        · exact HB2.out.set_ 0 _
        · rw [← hq]
          have h := owned_keep (w' := w2.setCell ⟨g, 0, none⟩ (.slice A2 (l.length + dn.length + 1) k2)) HO2.out (fun q hqv hql => Below.heap_setCell w2 _ _ q (by rintro rfl; exact owned_ne HO2.out HB2.out HT.out hqv))
          rw [← List.append_assoc, bvA]
          exact h
      case measure => simp [intOf]; omega
    · have hdn2 : dn ++ [UInt8.ofNat m] = num n := by rw [← HD.out, num_lo (n := m) (by omega)]
      obtain ⟨x, hx⟩ : ∃ x, x = UInt8.ofNat m := ⟨_, rfl⟩
      have hxm : (m : Int) % 256 = (x.toNat : Int) := by rw [hx, UInt8.toNat_ofNat']; omega
      have hxm2 : (m : Int) = (x.toNat : Int) := by rw [← hxm]; omega
      rw [← hx] at hdn2
      have HD2 := hide hdn2
      clear hdn2 hx
      go_wp2_with (at_builtin; (refine wpList_app rfl _ _ 32 rfl base 5 i (.int .u8 0) 1 Try.underlying32 hi hz0 hz1 hz2 rfl v' (l ++ dn).length (bv (l ++ dn)) (HO.out.alloc _) _ 1 1 [.int .u8 (x.toNat : Int)] (src_one _ _ _ rfl) ?h1 ?h2 ?h3 rfl rfl ?_))
      case h1 => have := HL.out; simp only [List.length_append, maxLen]; omega
      case h2 => have := HL.out; simp only [List.length_append]; omega
      case h3 => rw [size_alloc]; omega
      intro v2 w2 own2 gr2 mv2 _
      have hb2 := (HB.out.alloc _).grown gr2 (fun e => HNE.out e.symm)
      have c2 := hb2.cell 0
      have f2 := hb2.frozen 0
      simp only [List.getElem?_toArray, List.getElem?_cons_zero] at c2
      have hlt2 := hb2.lt
      have hT2 : Turned (MkS g v) w w2 := by
        refine (HTU.out.1.alloc _).then_ (Turned.of_grown (S := fun k => v'.ownBlock = some k) gr2 (fun k h _ => h)) ?_
        intro k hk hv
        rcases HTU.out.2 with h | ⟨r, h, hr⟩
        · exact .inr (h ▸ hv)
        · rw [h] at hv; injection hv with hv; omega
      have hM2 : Moved w v v2 := HTU.out.2.trans (w' := wr.alloc (.cells #[.int .u8 (x.toNat : Int)] 5)) (by rcases mv2 with h | h; exact .inl h; exact .inr ⟨_, h, by rw [size_alloc]; omega⟩) (by rw [size_alloc]; omega)
      obtain ⟨A2, k2, rfl⟩ := owned_slice own2
      have hq : l.length + dn.length + 1 = (l ++ (dn ++ [x])).length := by simp; omega
      have HB2 := hide hb2
      have HT2 := hide (And.intro hT2 hM2)
      have HO2 := hide own2
      clear hb2 own2 gr2 mv2 hT2 hM2 c0 f0
      go_wp2_with fail
      go_end0
      refine ⟨rfl, .slice A2 (l.length + dn.length + 1) k2, ⟨?_, ?_⟩, HT2.out.1.setCell (fun _ => .inl rfl) _, HT2.out.2⟩
      · exact HB2.out.set_ 0 _
      · rw [← HD2.out, ← hq]
        have h := owned_keep (w' := w2.setCell ⟨g, 0, none⟩ (.slice A2 (l.length + dn.length + 1) k2)) HO2.out (fun q hqv hql => Below.heap_setCell w2 _ _ q (by rintro rfl; exact owned_ne HO2.out HB2.out HT.out hqv))
        rw [← List.append_assoc, bvA]
        exact h
end Go.Proofs.Ytidiepbmbbflhaa
end
section
namespace Go.Proofs.Ytidiepbmbbflhaa
open Go.RowKit
set_option maxRecDepth 100000 in
set_option maxHeartbeats 400000 in
theorem allow_yes (n most : Int) (hn : 0 ≤ n ∧ n ≤ most) (hm : most ≤ 1099511627776) (g T : Nat) (v : Value) (bad : Bool) (w : World) (hb : Blk w g T #[v, .bool bad]) :
    Calls Try.prog 69 #[.pointer (some ⟨g, 0, none⟩), .int .i64 n, .int .i64 most] w fun e w' => e = .returned (.bool !bad) ∧ w = w' := by
  have c1 := hb.cell 1
  simp only [List.getElem?_toArray, List.getElem?_cons_succ, List.getElem?_cons_zero] at c1
  have hlt := hb.lt
  have h0 := hn.1
  have h1 := hn.2
  have h2 : ¬ most < n := by omega
  have h3 : decide (most < n) = false := decide_eq_false h2
  have h4 : 0 ≤ most := by omega
  have HB := hide hb
  clear hb hn
  go_enter Try.func69, Try.ntmps69
  go_wp2
  go_ret
  exact ⟨rfl, rfl⟩
set_option maxRecDepth 100000 in
set_option maxHeartbeats 400000 in
theorem allow_no (n most : Int) (hn : n < 0 ∨ most < n) (hn2 : -9223372036854775808 ≤ n ∧ n ≤ 9223372036854775807) (hm : 0 ≤ most ∧ most ≤ 1099511627776) (g T : Nat) (v : Value) (bad : Bool) (w : World) (hb : Blk w g T #[v, .bool bad]) :
    Calls Try.prog 69 #[.pointer (some ⟨g, 0, none⟩), .int .i64 n, .int .i64 most] w fun e w' => e = .returned (.bool false) ∧ Blk w' g T #[v, .bool true] ∧ w.grownBy w' (some g) := by
  have c1 := hb.cell 1
  have f1 := hb.frozen 1
  simp only [List.getElem?_toArray, List.getElem?_cons_succ, List.getElem?_cons_zero] at c1
  have hlt := hb.lt
  have h4 := hm.1
  have h5 := hm.2
  have h6 := hn2.1
  have h7 := hn2.2
  have hu : n < 0 → most < IntKind.u64.wrap n := fun h => by simp [IntKind.wrap, IntKind.signed, IntKind.bits]; omega
  have HB := hide hb
  clear hb hm hn2
  rcases Int.lt_or_le n 0 with hneg | hpos
  · have hu2 := hu hneg
    clear hu hn
    go_enter Try.func69, Try.ntmps69
    go_wp2
    go_ret
    exact ⟨rfl, HB.out.set_ 1 _, only_setCell (World.grownBy.refl w _) (.inl rfl) _⟩
  · have hlt2 : most < n := by omega
    clear hu hn
    go_enter Try.func69, Try.ntmps69
    go_wp2
    go_ret
    exact ⟨rfl, HB.out.set_ 1 _, only_setCell (World.grownBy.refl w _) (.inl rfl) _⟩
/-- one number more -/
def mkNum (l : List UInt8) (bad : Bool) (n : Int) : List UInt8 × Bool := if 0 ≤ n ∧ n ≤ 1099511627776 then (if bad then (l, true) else (l ++ num n.toNat, false)) else (l, true)
set_option maxRecDepth 100000 in
set_option maxHeartbeats 1000000 in
theorem mnum_any (n : Int) (hn : -9223372036854775808 ≤ n ∧ n ≤ 9223372036854775807) (l : List UInt8) (hl : l.length ≤ 1099511627776) (bad : Bool) (base g T : Nat) (hT : 5 ≠ T) (v : Value) (A : Nat) (w : World) (hbase : base ≤ w.heap.size)
    (hm : MkAt w base g T l bad v) (hA : w.cell? ⟨A, 0, none⟩ = some (.int .i64 n)) :
    Calls Try.prog 56 #[.pointer (some ⟨g, 0, none⟩), .slice (some ⟨A, 0, none⟩) 1 1] w fun e w' => e = .returned (.pointer (some ⟨g, 0, none⟩)) ∧
      ∃ v', MkAt w' base g T (mkNum l bad n).1 (mkNum l bad n).2 v' ∧ Turned (MkS g v) w w' ∧ Moved w v v' := by
  have HM := hide hm
  have HT := hide hT
  have HA := hide hA
  clear hm hT hA
  go_enter Try.func56, Try.ntmps56
  go_wp2_with fail
  go_loopw [11] (fun i wr => ∃ k : Nat, k ≤ 1 ∧ i = .int .i64 (k : Int) ∧ (k = 0 → wr = w) ∧ (k = 1 → ∃ v', MkAt wr base g T (mkNum l bad n).1 (mkNum l bad n).2 v' ∧ Turned (MkS g v) w wr ∧ Moved w v v')) (fun i _ => (1 - intOf i).toNat)
  case atStart => exact ⟨0, by omega, rfl, fun _ => rfl, fun h => absurd h (by omega)⟩
  case round =>
    obtain ⟨k, hk, rfl, hk0, hk1⟩ := hrel
    have HK1 := hide hk1
    clear hk1
    by_cases h0 : k = 0
    · obtain rfl := hk0 h0
      subst h0
      have ca := HA.out
      have b1 := hn.1
      have b2 := hn.2
      by_cases hin : 0 ≤ n ∧ n ≤ 1099511627776
      · obtain ⟨m, rfl⟩ : ∃ m : Nat, n = (m : Int) := ⟨n.toNat, by omega⟩
        have hm64 : m < 18446744073709551616 := by omega
        cases hbad : bad with
        | true =>
          rw [hbad] at HM
          clear hk0 HK1 hbad
          go_wp2_with (go_at_call 69; refine (allow_yes _ _ hin (by omega) g T v true _ HM.out.blk).mono ?_; rintro e w1 ⟨rfl, rfl⟩)
          go_roundw
          case rel =>
            refine ⟨1, by omega, by go_num, fun h => absurd h (by omega), fun _ => ⟨v, ?_, Turned.refl _ _, Moved.refl _ _⟩⟩
            rw [mkNum, if_pos hin, if_pos rfl]
            exact HM.out
          case measure => simp [intOf]
        | false =>
          rw [hbad] at HM
          clear hk0 HK1 hbad
          go_wp2_with (first
            | (go_at_call 69; refine (allow_yes _ _ hin (by omega) g T v false _ HM.out.blk).mono ?_; rintro e w1 ⟨rfl, rfl⟩)
            | (go_at_call 70; refine (number_any m hm64 l hl false base g T HT.out v _ hbase HM.out).mono ?_; rintro e w1 ⟨rfl, v1, hm1, ht1, hmv1⟩))
          have HM1 := hide (And.intro hm1 (And.intro ht1 hmv1))
          clear hm1 ht1 hmv1
          go_roundw
          case rel =>
            obtain ⟨hm1, ht1, hmv1⟩ := HM1.out
            refine ⟨1, by omega, by go_num, fun h => absurd h (by omega), fun _ => ⟨v1, ?_, ht1, hmv1⟩⟩
            rw [mkNum, if_pos hin, if_neg (by simp)]
            exact hm1
          case measure => simp [intOf]
      · have hin2 : n < 0 ∨ 1099511627776 < n := by omega
        clear hk0 HK1
        go_wp2_with (go_at_call 69; refine (allow_no _ _ hin2 hn (by omega) g T v bad _ HM.out.blk).mono ?_; rintro e w1 ⟨rfl, hb1, hg1⟩)
        have HM1 := hide (And.intro hb1 hg1)
        clear hb1 hg1
        go_roundw
        case rel =>
          obtain ⟨hb1, hg1⟩ := HM1.out
          refine ⟨1, by omega, by go_num, fun h => absurd h (by omega), fun _ => ⟨v, ?_, Turned.of_grown hg1 (fun k h _ => by injection h with h; exact .inl h.symm), Moved.refl _ _⟩⟩
          rw [mkNum, if_neg hin]
          exact ⟨hb1, owned_keep HM.out.own (fun q hq hlt => hg1.block q hlt (by intro e; injection e with e; subst e; exact owned_ne HM.out.own HM.out.blk HT.out hq))⟩
        case measure => simp [intOf]
    · obtain rfl : k = 1 := by omega
      have H := HK1.out rfl
      have HH := hide H
      clear H hk0
      go_wp2_with fail
      go_ret
      exact ⟨rfl, HH.out⟩
end Go.Proofs.Ytidiepbmbbflhaa
end
section
namespace Go.Proofs.Ytidiepbmbbflhaa
open Go.RowKit
set_option maxRecDepth 100000 in
set_option maxHeartbeats 400000 in
theorem clone_nil (w : World) : Calls Try.prog 71 #[.slice none 0 0] w fun e w' => e = .returned (.slice none 0 0) ∧ w = w' := by
  have hq := fun (w : World) (a : Option Addr) (n c : Nat) => Lib.run_eql_slice_nil (P := Try.prog) w 32 5 a n c 0 0 Try.underlying32
  go_enter Try.func71, Try.ntmps71
  go_wp2
  go_ret
  exact ⟨rfl, rfl⟩
set_option maxRecDepth 100000 in
set_option maxHeartbeats 400000 in
theorem clone_some (l : List UInt8) (hl : l.length ≤ 1099511627776) (ad : Addr) (cap : Nat) (w : World) (hs : Src w (some ad) l.length cap (bv l)) :
    Calls Try.prog 71 #[.slice (some ad) l.length cap] w fun e w' => ∃ v', e = .returned v' ∧ w'.ownsRow w.heap.size 5 1 v' l.length (bv l) ∧ Below w.heap.size w w' := by
  obtain ⟨i, hi, hz0, hz1, hz2⟩ := info_parts info_u8
  have HS := hide hs
  clear hs
  have hq := fun (w : World) (a : Option Addr) (n c : Nat) => Lib.run_eql_slice_nil (P := Try.prog) w 32 5 a n c 0 0 Try.underlying32
  go_enter Try.func71, Try.ntmps71
  have hown := owned_new w 5
  have HO := hide hown
  clear hown
  go_wp2_with (at_builtin; (refine wpList_app rfl _ _ 32 rfl w.heap.size 5 i (.int .u8 0) 1 Try.underlying32 hi hz0 hz1 hz2 rfl _ 0 [] HO.out (some ad) l.length cap (bv l) ?h0 ?h1 ?h2 ?h3 rfl rfl ?_))
  case h0 => exact HS.out.alloc _
  case h1 => simp only [maxLen]; omega
  case h2 => omega
  case h3 => rw [size_alloc]; omega
  intro v' w1 own1 gr1 _ _
  go_wp2_with fail
  go_ret
  refine ⟨v', rfl, by simpa using own1, ((Below.refl _ _).alloc (Nat.le_refl _) _).grown gr1 (by rw [size_alloc]; omega) ?_⟩
  intro k hk
  injection hk with hk
  change w.heap.size = k at hk
  omega
/-- a copy of bytes that can be read -/
theorem clone_any (l : List UInt8) (hl : l.length ≤ 1099511627776) (A : Option Addr) (n cap : Nat) (B : Nat) (w : World) (hv : BytesAt w B (.slice A n cap) l) (hnil : A = none → cap = 0) :
    Calls Try.prog 71 #[.slice A n cap] w fun e w' => ∃ v', e = .returned v' ∧ w'.ownsRow w.heap.size 5 1 v' l.length (bv l) ∧ Below w.heap.size w w' := by
  have hnl : n = l.length := by obtain ⟨_, _, h, _⟩ := hv; injection h
  subst hnl
  cases A with
  | none =>
    obtain rfl := hnil rfl
    have h0 : l = [] := by
      obtain ⟨A', c', h, hc, _⟩ := hv
      injection h with _ _ h
      exact List.eq_nil_of_length_eq_zero (by omega)
    subst h0
    exact (clone_nil w).mono fun e w' ⟨he, hw⟩ => by
      subst hw
      exact ⟨_, he, ⟨rfl, .inl ⟨rfl, rfl⟩⟩, Below.refl _ _⟩
  | some ad => exact clone_some l hl ad cap w (bv_src hv (by simp))
set_option maxRecDepth 100000 in
set_option maxHeartbeats 400000 in
theorem done_bad (l : List UInt8) (base g T : Nat) (v : Value) (w : World) (hm : MkAt w base g T l true v) :
    Calls Try.prog 57 #[.pointer (some ⟨g, 0, none⟩)] w fun e w' => e = .returned (.tuple #[.slice none 0 0, .int .i64 2]) ∧ w = w' := by
  have c1 := hm.blk.cell 1
  simp only [List.getElem?_toArray, List.getElem?_cons_succ, List.getElem?_cons_zero] at c1
  have hlt := hm.blk.lt
  clear hm
  go_enter Try.func57, Try.ntmps57
  go_wp2
  go_ret2
  exact ⟨rfl, rfl⟩
set_option maxRecDepth 100000 in
set_option maxHeartbeats 400000 in
theorem done_ok (l : List UInt8) (hl : l.length ≤ 1099511627776) (base g T : Nat) (v : Value) (w : World) (hm : MkAt w base g T l false v) :
    Calls Try.prog 57 #[.pointer (some ⟨g, 0, none⟩)] w fun e w' => ∃ v', e = .returned (.tuple #[v', .int .i64 0]) ∧ w'.ownsRow w.heap.size 5 1 v' l.length (bv l) ∧ Below w.heap.size w w' := by
  obtain ⟨A, cap, rfl⟩ := owned_slice hm.own
  have hA : A = none → cap = 0 := by
    intro h
    rcases owned_form hm.own with ⟨h2, _⟩ | ⟨_, _, _, h2, _⟩
    · injection h2
    · injection h2 with h2; rw [h] at h2; cases h2
  have c0 := hm.blk.cell 0
  have c1 := hm.blk.cell 1
  simp only [List.getElem?_toArray, List.getElem?_cons_succ, List.getElem?_cons_zero] at c0 c1
  have hlt := hm.blk.lt
  have HB := hide (bytesAt_owned hm.own)
  have HA := hide hA
  clear hm hA
  go_enter Try.func57, Try.ntmps57
  go_wp2_with (go_at_call 71; refine (clone_any l hl A l.length cap w.heap.size _ HB.out HA.out).mono ?_; rintro e w1 ⟨v1, rfl, own1, hb1⟩)
  go_ret2
  exact ⟨v1, rfl, own1, hb1⟩
end Go.Proofs.Ytidiepbmbbflhaa
end
section
namespace Go.Proofs.Ytidiepbmbbflhaa
open Go.RowKit
/-- the mark of a place in a list of bytes -/
def mk (k i : Nat) : UInt8 := UInt8.ofNat ((1000003 * (k + 7) + i) * 11400714819323198485 % 18446744073709551616 / 72057594037927936)
theorem wrap_u64 (n : Nat) : IntKind.u64.wrap (n : Int) = ((n % 18446744073709551616 : Nat) : Int) := by simp [IntKind.wrap, IntKind.signed, IntKind.bits]
theorem mark_val (m : Nat) : IntKind.u64.wrap (IntKind.u64.wrap (m : Int) * 11400714819323198485) / 72057594037927936 % 256 = ((UInt8.ofNat (m * 11400714819323198485 % 18446744073709551616 / 72057594037927936)).toNat : Int) := by
  have h1 : ((m % 18446744073709551616 : Nat) : Int) * 11400714819323198485 = ((m % 18446744073709551616 * 11400714819323198485 : Nat) : Int) := by omega
  rw [wrap_u64, h1, wrap_u64]
  have h2 : ((m % 18446744073709551616 * 11400714819323198485 % 18446744073709551616 : Nat) : Int) / 72057594037927936 = ((m % 18446744073709551616 * 11400714819323198485 % 18446744073709551616 / 72057594037927936 : Nat) : Int) := by omega
  rw [h2, UInt8.toNat_ofNat', Nat.mod_mul_mod]
  rfl
def marks : List UInt8 := (List.range 12).map (mk 1)
theorem marks_take (i : Nat) (h : i < 12) : marks.take (i + 1) = marks.take i ++ [mk 1 i] := by
  rw [List.take_add_one, marks, List.getElem?_map, List.getElem?_range h]; rfl
theorem info5 : (Try.prog.info? 5).map (fun i => (i.zero, i.size, i.bytes)) = some (some (.int .u8 0), 1, 1) := by kernel_rfl
theorem bv_append (a b : List UInt8) : bv (a ++ b) = bv a ++ bv b := by simp [bv]
theorem bv_length (a : List UInt8) : (bv a).length = a.length := by simp [bv]
theorem bv_oneCell (a : List UInt8) : ∀ u ∈ bv a, u.oneCell' = true := by
  intro u hu
  obtain ⟨_, _, rfl⟩ := List.mem_map.1 hu
  rfl
theorem owned_blk {w : World} {base g n : Nat} {e : TypeId} {xs : List Value} (h : w.ownsRow base e 1 (.slice (some ⟨g, 0, none⟩) n n) n xs) : Blk w g e xs.toArray := by
  obtain ⟨hl, h⟩ := h
  rcases h with ⟨h, _⟩ | ⟨g', cap, cur, h, _, hb, _, _, hs, ht⟩
  · cases h
  · injection h with e1 e2 e3
    injection e1 with e1
    injection e1 with e1
    subst e1 e3
    have : cur = xs.toArray := by
      rw [← ht, List.take_of_length_le (by simp; omega)]
    rw [← this]
    exact hb
/-- the cells of bytes, as a law on append asks them -/
theorem BytesAt.cells {w : World} {B : Nat} {A : Option Addr} {n cap : Nat} {l : List UInt8} (h : BytesAt w B (.slice A n cap) l) : n = l.length ∧ l.length ≤ cap ∧ ((A = none ∨ l = []) ∨ (0 < l.length ∧ ∃ b off, A = some ⟨b, off, none⟩ ∧ b < B)) ∧ ∀ ad, A = some ad → ∀ j u, (bv l)[j]? = some u → w.cell? (ad.add j) = some u := by
  obtain ⟨A', cap', hv, hc, hA⟩ := h
  injection hv with e1 e2 e3
  subst e1 e2 e3
  refine ⟨rfl, hc, ?_, fun ad had j u hu => ?_⟩
  · rcases Nat.eq_zero_or_pos l.length with h0 | h0
    · exact .inl (.inr (List.eq_nil_of_length_eq_zero h0))
    · obtain ⟨b, off, h1, h2, _⟩ := hA h0
      exact .inr ⟨h0, b, off, h1, h2⟩
  · have hj : j < l.length := by
      have := (List.getElem?_eq_some_iff.1 hu).1
      simpa [bv] using this
    obtain ⟨b, off, h1, _, h3⟩ := hA (by omega)
    rw [h1] at had
    obtain rfl := Option.some.inj had
    have e : (⟨b, off, none⟩ : Addr).add j = ⟨b, off + j, none⟩ := by unfold Addr.add; split <;> simp_all
    rw [e, h3 j hj]
    have e2 : (bv l)[j]? = some (.int .u8 ((l.getD j 0).toNat : Int)) := by simp [bv, List.getD, hj]
    rw [e2] at hu
    exact hu

end Go.Proofs.Ytidiepbmbbflhaa
end
section
namespace Go.Proofs.Ytidiepbmbbflhaa
open Go.RowKit
set_option maxRecDepth 100000 in
set_option maxHeartbeats 400000 in
theorem length_any (n : Nat) (hn : n ≤ 1099511627776) (w : World) :
    Calls Try.prog 46 #[.int .i64 (n : Int)] w fun e w' => ∃ v', e = .returned v' ∧ w'.ownsRow w.heap.size 5 1 v' (num n).length (bv (num n)) ∧ Below w.heap.size w w' := by
  go_enter Try.func46, Try.ntmps46
  go_wp2_with fail
  have hm0 : MkAt ((w.alloc (.cells #[.slice none 0 0, .bool false] 109)).alloc (.cells #[.int .i64 (n : Int)] 3)) w.heap.size w.heap.size 109 [] false (.slice none 0 0) :=
    ⟨(Blk.new w _ _).alloc _, rfl, .inl ⟨rfl, rfl⟩⟩
  have hA0 : ((w.alloc (.cells #[.slice none 0 0, .bool false] 109)).alloc (.cells #[.int .i64 (n : Int)] 3)).cell? ⟨w.heap.size + 1, 0, none⟩ = some (.int .i64 (n : Int)) :=
    (Blk.new1 w (.cells #[.slice none 0 0, .bool false] 109) 3 #[.int .i64 (n : Int)]).cell 0
  have HM := hide hm0
  have HA := hide hA0
  clear hm0 hA0
  refine (mnum_any (n : Int) (by omega) [] (by simp) false w.heap.size w.heap.size 109 (by decide) (.slice none 0 0) (w.heap.size + 1) _ (by rw [size_alloc, size_alloc]; omega) HM.out HA.out).mono ?_
  rintro e w1 ⟨rfl, v1, hm1, ht1, hmv1⟩
  have hmk : mkNum [] false (n : Int) = (num n, false) := by rw [mkNum, if_pos (by omega), if_neg (by simp)]; simp
  rw [hmk] at hm1
  have hN := num_len n (by omega)
  have HM1 := hide hm1
  have HT1 := hide ht1
  clear hm1 ht1 hmv1 hmk
  dsimp only
  go_wp2_with (go_at_call 57; refine (done_ok (num n) (by omega) w.heap.size w.heap.size 109 v1 _ HM1.out).mono ?_; rintro e w2 ⟨v2, rfl, own2, hb2⟩)
  go_ret
  have hs1 := HT1.out.size
  simp only [size_alloc] at hs1
  have hb1 : Below w.heap.size w w1 := HT1.out.below_new (a := w) (((Below.refl _ _).alloc (Nat.le_refl _) _).alloc (by rw [size_alloc]; omega) _) (fun k _ hk => by
    rcases hk with rfl | hk
    · exact Nat.le_refl _
    · cases hk)
  exact ⟨v2, rfl, owned_base own2 (fun g hg => by have := (owned_lt own2 hg).1; omega), hb1.trans (hb2.mono hb1.size)⟩
/-- the cells of a text, in a block of bytes -/
def TextAt (w : World) (e : TypeId) (g : Nat) (s : ByteArray) : Prop := (∃ cs fz, w.heap[g]? = some (.cells cs e fz)) ∧ ∀ j, j < s.size → w.cell? ⟨g, j, none⟩ = some (.int .u8 ((s.data.toList.getD j 0).toNat : Int))
/-- a text as bytes, the world behind it a variable -/
theorem wpList_text {P : Program} {ops : Array Oper} {rest : List Oper} {o : Oper} {a : Act} {w : World} {Q : Exit → Act → World → Prop} (hg : o.guard = none) (src dst e : TypeId) (x : Operand) (ho : o.op = .convert src dst x)
    (hs : P.underlying src = some .string) (hd : P.underlying dst = some (.slice e)) (he : P.underlying e = some (.int .u8)) (s : ByteArray) (hx : a.eval x = .string s)
    (h : ∀ g cap w', TextAt w' e g s → s.size ≤ cap → w.heap.size ≤ g → g < w'.heap.size → Below w.heap.size w w' →
      wpList P ops Q rest (a.put o.dst (.slice (some ⟨g, 0, none⟩) s.size cap)) w') : wpList P ops Q (o :: rest) a w :=
  wpList_plain hg fun K hK => by
    unfold Oper.wp execOp
    simp only [ho, hx, Sem.run_bind, run_bytes_of_string w src dst e s hs hd he, Result.andThen_ok, Sem.run_pure]
    refine hK _ _ (h w.heap.size (grownCap w s.size 0 e) _ ⟨?_, ?_⟩ (grownCap_ge w s.size 0 e) (Nat.le_refl _) ?_ ?_)
    · exact ⟨_, _, heap_alloc_new w.drew _⟩
    · intro j hj
      refine (World.cell?_alloc_mark w.drew _ e _ j).trans ?_
      rw [bytesRow_at s _ j hj]
      have hj' : j < s.data.size := hj
      simp [List.getD, Array.getElem?_eq_getElem hj']
    · show _ < (w.heap.push _).size
      simp
    · exact ((Below.refl _ _).drew).alloc (Nat.le_refl _) _
/-- bytes that can be read, and that lie ahead of a block, or in a block of bytes -/
def TB (w : World) (base : Nat) (u : Value) (l : List UInt8) : Prop :=
  ∃ A cap, u = .slice A l.length cap ∧ l.length ≤ cap ∧ (0 < l.length → ∃ b off, A = some ⟨b, off, none⟩ ∧ b < w.heap.size ∧ (b < base ∨ ∃ cs fz, w.heap[b]? = some (.cells cs 5 fz)) ∧ ∀ j, j < l.length → w.cell? ⟨b, off + j, none⟩ = some (.int .u8 ((l.getD j 0).toNat : Int)))
theorem TB.bytes {w : World} {base : Nat} {u : Value} {l : List UInt8} (h : TB w base u l) : BytesAt w w.heap.size u l := by
  obtain ⟨A, cap, hu, hc, hA⟩ := h
  exact ⟨A, cap, hu, hc, fun h0 => by obtain ⟨b, off, h1, h2, _, h3⟩ := hA h0; exact ⟨b, off, h1, h2, h3⟩⟩
theorem TB.keep {w w' : World} {base : Nat} {u : Value} {l : List UInt8} (h : TB w base u l) (hs : w.heap.size ≤ w'.heap.size) (hk : ∀ b, b < w.heap.size → (b < base ∨ ∃ cs fz, w.heap[b]? = some (.cells cs 5 fz)) → w'.heap[b]? = w.heap[b]?) : TB w' base u l := by
  obtain ⟨A, cap, hu, hc, hA⟩ := h
  refine ⟨A, cap, hu, hc, fun h0 => ?_⟩
  obtain ⟨b, off, h1, h2, h3, h4⟩ := hA h0
  have e := hk b h2 h3
  refine ⟨b, off, h1, by omega, ?_, fun j hj => (World.cell?_of_block e).trans (h4 j hj)⟩
  rcases h3 with h3 | ⟨cs, fz, h3⟩
  · exact .inl h3
  · exact .inr ⟨cs, fz, e.trans h3⟩
theorem TB.below {w w' : World} {base : Nat} {u : Value} {l : List UInt8} (h : TB w base u l) (hb : Below w.heap.size w w') : TB w' base u l := h.keep hb.size fun b hb' _ => hb.block b hb'
theorem TB.of_bytes {w : World} {B base : Nat} {u : Value} {l : List UInt8} (h : BytesAt w B u l) (hB : B ≤ base) (hw : B ≤ w.heap.size) : TB w base u l := by
  obtain ⟨A, cap, hu, hc, hA⟩ := h
  exact ⟨A, cap, hu, hc, fun h0 => by obtain ⟨b, off, h1, h2, h3⟩ := hA h0; exact ⟨b, off, h1, by omega, .inl (by omega), h3⟩⟩
theorem TB.of_owned {w : World} {base base' : Nat} {u : Value} {l : List UInt8} (h : w.ownsRow base' 5 1 u l.length (bv l)) : TB w base u l := by
  obtain ⟨A, cap, hu, hc, hA⟩ := bytesAt_owned h
  refine ⟨A, cap, hu, hc, fun h0 => ?_⟩
  obtain ⟨b, off, h1, h2, h3⟩ := hA h0
  refine ⟨b, off, h1, h2, .inr ?_, h3⟩
  subst h1
  rcases owned_form h with ⟨e, _⟩ | ⟨g, cp, cur, e, _, _, _, hb, _⟩
  · rw [hu] at e; injection e with e; cases e
  · rw [hu] at e
    injection e with e
    injection e with e
    injection e with e
    subst e
    exact ⟨cur, (0, 0), hb⟩
theorem TB.of_text {w : World} {base g cap : Nat} {s : ByteArray} (hc : s.size ≤ cap) (hg : g < w.heap.size) (h : TextAt w 5 g s) :
    TB w base (.slice (some ⟨g, 0, none⟩) s.size cap) s.data.toList :=
  ⟨_, cap, by simp, by simpa using hc, fun _ => ⟨g, 0, rfl, hg, .inr h.1, fun j hj => by rw [Nat.zero_add]; exact h.2 j (by simpa using hj)⟩⟩
theorem TB.one {w : World} {base : Nat} {u : Value} {l : List UInt8} (h : TB w base u l) : u.oneCell' = true := by
  obtain ⟨_, _, rfl, _⟩ := h
  rfl
/-- a row of texts that one owns -/
structure TRow (w : World) (base : Nat) (v : Value) (us : List Value) (ls : List (List UInt8)) : Prop where
  own : w.ownsRow base 32 1 v us.length us
  len : us.length = ls.length
  at_ : ∀ j, j < ls.length → TB w base (us.getD j undef) (ls.getD j [])
theorem TRow.keep {w w' : World} {base : Nat} {v : Value} {us : List Value} {ls : List (List UInt8)} (h : TRow w base v us ls) (hb : Below w.heap.size w w') : TRow w' base v us ls :=
  ⟨owned_keep h.own fun g _ hlt => hb.block g hlt, h.len, fun j hj => (h.at_ j hj).below hb⟩
theorem TRow.one {w : World} {base : Nat} {v : Value} {us : List Value} {ls : List (List UInt8)} (h : TRow w base v us ls) : ∀ u ∈ us, u.oneCell' = true := by
  intro u hu
  obtain ⟨j, hj⟩ := List.getElem?_of_mem hu
  have hjl : j < us.length := (List.getElem?_eq_some_iff.1 hj).1
  have := (h.at_ j (by rw [← h.len]; exact hjl)).one
  rwa [List.getD_eq_getElem?_getD, hj] at this
theorem TRow.parts {w : World} {base : Nat} {v : Value} {us : List Value} {ls : List (List UInt8)} (h : TRow w base v us ls) : PartsAt w w.heap.size v ls := by
  have hl := h.len
  rcases owned_form h.own with ⟨rfl, h0, _⟩ | ⟨g, cap, cur, rfl, _, hc, _, hb, _, ht, hlt⟩
  · exact ⟨none, 0, by rw [← hl, h0], by omega, fun h => by omega⟩
  · refine ⟨_, cap, by rw [hl], by omega, fun _ => ⟨g, 0, rfl, hlt, fun j hj => ⟨us.getD j undef, ?_, (h.at_ j hj).bytes⟩⟩⟩
    rw [Nat.zero_add, hb.cell]
    have h1 : cur.toList[j]? = us[j]? := by
      rw [← ht, List.getElem?_take_of_lt (by omega)]
    rw [← Array.getElem?_toList, h1, List.getD_eq_getElem?_getD, List.getElem?_eq_getElem (by omega)]
    rfl
/-- the row grown by texts that are there -/
theorem TRow.grow {w w' : World} {base : Nat} {v v' : Value} {us ns : List Value} {ls ms : List (List UInt8)} (h : TRow w base v us ls) (hv : ∀ g, v.ownBlock = some g → base ≤ g) (ho : w'.ownsRow base 32 1 v' (us.length + ns.length) (us ++ ns)) (hg : w.grownBy w' v.ownBlock)
    (hn : ns.length = ms.length) (hm : ∀ j, j < ms.length → TB w base (ns.getD j undef) (ms.getD j [])) : TRow w' base v' (us ++ ns) (ls ++ ms) := by
  have hk : ∀ (u : Value) (l : List UInt8), TB w base u l → TB w' base u l := fun u l ht => ht.keep hg.size fun b hb hor => by
    refine hg.block b hb fun e => ?_
    rcases hor with hlt | ⟨cs, fz, hh⟩
    · have := hv b e.symm; omega
    · rcases owned_form h.own with ⟨rfl, _⟩ | ⟨q, cap, cur, rfl, _, _, _, hq, _⟩
      · cases e
      · injection e with e
        change b = q at e
        subst e
        unfold Blk at hq
        rw [hq] at hh
        injection hh with hh
        injection hh with _ hh
        exact absurd hh (by decide)
  have hl := h.len
  refine ⟨by rw [List.length_append]; exact ho, by rw [List.length_append, List.length_append, hl, hn], fun j hj => ?_⟩
  rw [List.length_append] at hj
  by_cases hjl : j < ls.length
  · have := hk _ _ (h.at_ j hjl)
    rw [List.getD_eq_getElem?_getD, List.getD_eq_getElem?_getD, List.getElem?_append_left (by omega), List.getElem?_append_left (by omega), ← List.getD_eq_getElem?_getD, ← List.getD_eq_getElem?_getD]
    exact this
  · have := hk _ _ (hm (j - ls.length) (by omega))
    rw [List.getD_eq_getElem?_getD, List.getD_eq_getElem?_getD, List.getElem?_append_right (by omega), List.getElem?_append_right (by omega), hl, ← List.getD_eq_getElem?_getD, ← List.getD_eq_getElem?_getD]
    exact this
theorem size_hash : (Try.prog.info? 27).map (·.size) = some 20 := by kernel_rfl
def z20 : Array Value := (bv (List.replicate 20 0)).toArray
/-- a tag and parts, each with its length ahead -/
def tx (t : List UInt8) (ls : List (List UInt8)) : List (List UInt8) := [num t.length, t] ++ ls.flatMap fun l => [num l.length, l]
theorem tx_snoc (t : List UInt8) (ls : List (List UInt8)) (l : List UInt8) : tx t (ls ++ [l]) = tx t ls ++ [num l.length, l] := by simp [tx]
theorem length_tx (t : List UInt8) (ls : List (List UInt8)) : (tx t ls).length = 2 + 2 * ls.length := by
  induction ls with
  | nil => rfl
  | cons l ls ih => simp only [tx, List.flatMap_cons, List.length_append, List.length_cons, List.length_nil] at ih ⊢; omega
theorem flat_tx (t : List UInt8) (ls : List (List UInt8)) (ht : t.length < 18446744073709551616) (hl : ∀ l ∈ ls, l.length < 18446744073709551616) : (tx t ls).flatten.length ≤ 10 + t.length + 10 * ls.length + ls.flatten.length := by
  induction ls with
  | nil => have := num_len t.length ht; simp [tx]; omega
  | cons l ls ih =>
    have := ih (fun x hx => hl x (by simp [hx]))
    have h2 := num_len l.length (hl l (by simp))
    simp only [tx, List.flatMap_cons, List.flatten_append, List.flatten_cons, List.flatten_nil, List.length_append, List.length_cons, List.length_nil] at this ⊢
    omega
/-- the folded digest of a tag and parts -/
def ofB (t : List UInt8) (ls : List (List UInt8)) : List UInt8 := fold (Sha.sum (tx t ls).flatten) 32
theorem sum_len (l : List UInt8) : (Sha.sum l).length = 32 := by rw [Sha.sum, length_out]
theorem info_row : (Try.prog.info? 32).map (fun i => (i.zero, i.size, i.bytes)) = some (some (.slice none 0 0), 1, 24) := by kernel_rfl
theorem two_own (w : World) (e : TypeId) (a b : Value) : (w.alloc (.cells #[a, b] e)).ownsRow w.heap.size e 1 (.slice (some ⟨w.heap.size, 0, none⟩) 2 2) 2 [a, b] :=
  ⟨rfl, .inr ⟨w.heap.size, 2, #[a, b], rfl, Nat.le_refl _, Blk.new w e _, Nat.le_refl _, by simp only [maxLen]; omega, rfl, rfl⟩⟩
theorem two_src (w : World) (e : TypeId) (a b : Value) (ha : a.oneCell' = true) (hb : b.oneCell' = true) : Src (w.alloc (.cells #[a, b] e)) (some ⟨w.heap.size, 0, none⟩) 2 2 [a, b] :=
  ⟨rfl, (by intro h; cases h), (by
    intro u hu
    simp only [List.mem_cons, List.not_mem_nil, or_false] at hu
    rcases hu with rfl | rfl
    · exact ha
    · exact hb), (by
    intro ad had j u hu
    injection had with had
    subst had
    have h := (Blk.new w e #[a, b]).cell j
    have e2 : (⟨w.heap.size, 0, none⟩ : Addr).add j = ⟨w.heap.size, j, none⟩ := by unfold Addr.add; split <;> simp_all
    rw [e2, h, ← hu]
    simp)⟩
end Go.Proofs.Ytidiepbmbbflhaa
end
section
namespace Go.Proofs.Ytidiepbmbbflhaa
open Go.RowKit
theorem tx_take (t : List UInt8) (ls : List (List UInt8)) (k : Nat) (h : k < ls.length) : tx t (ls.take (k + 1)) = tx t (ls.take k) ++ [num (ls.getD k []).length, ls.getD k []] := by
  rw [List.take_succ_eq_append_getElem h, tx_snoc]
  simp [List.getD, h]
theorem mem_flat_le {ls : List (List UInt8)} {l : List UInt8} (h : l ∈ ls) : l.length ≤ ls.flatten.length := by
  induction ls with
  | nil => cases h
  | cons x xs ih =>
    rw [List.flatten_cons, List.length_append]
    rcases List.mem_cons.1 h with rfl | h
    · omega
    · have := ih h; omega
set_option maxRecDepth 100000 in
set_option maxHeartbeats 1000000 in
theorem of_any (tag : ByteArray) (t : List UInt8) (ht : t = tag.data.toList) (htl : tag.size ≤ 1000000000) (ls : List (List UInt8)) (hl : ls.flatten.length ≤ 1000000000) (hn : ls.length ≤ 1000000000) (v : Value) (w : World) (B : Nat) (hB : B ≤ w.heap.size) (hp : PartsAt w B v ls) :
    Calls Try.prog 38 #[.string tag, v] w fun e w' => e = .returned (.agg (bv (ofB t ls)).toArray) ∧ Below w.heap.size w w' := by
  obtain ⟨A, cap, rfl, hcap, hA⟩ := hp
  have htn : t.length = tag.size := by rw [ht]; simp
  obtain ⟨i, hi, hz0, hz1, hz2⟩ := info_parts info_row
  have hll : ∀ l ∈ ls, l.length < 18446744073709551616 := fun l h => by have := mem_flat_le h; omega
  have hsum : (tx t ls).flatten.length ≤ 1099511627000 := by have := flat_tx t ls (by omega) hll; omega
  have HSUM := hide hsum
  have HA := hide hA
  have HT := hide ht
  have HTN := hide htn
  clear hA ht htn hll hsum
  obtain ⟨R, hR⟩ : ∃ R, R = w.heap.size := ⟨_, rfl⟩
  have HR := hide hR
  clear hR
  go_enter Try.func38, Try.ntmps38
  go_step
  go_step
  apply wp_region_lit
  refine wpList_value (o := ⟨some 4, _, _, _, _, _⟩) rfl (.pointer (some ⟨R, 0, none⟩)) (w.alloc (.cells z20 27)) (by rw [HR.out]; kernel_rfl) ?_
  dsimp only [Act.put, List.setIfInBounds_toArray, List.set_cons_zero, List.set_cons_succ]
  obtain ⟨w0, hw0⟩ : ∃ w0, w0 = w.alloc (.cells z20 27) := ⟨_, rfl⟩
  have hb0 : Blk w0 R 27 z20 := by rw [hw0, HR.out]; exact Blk.new _ _ _
  have hbl0 : Below w.heap.size w w0 := by rw [hw0]; exact (Below.refl _ _).alloc (Nat.le_refl _) _
  rw [← hw0]
  clear hw0
  have HB0 := hide (And.intro hb0 hbl0)
  clear hb0 hbl0
  go_wp2_with (first
    | (go_at_call 46; refine (length_any tag.size (by omega) _).mono ?_; rintro e w1 ⟨v1, rfl, own1, hb1⟩; obtain ⟨A1, k1, rfl⟩ := owned_slice own1; have HX1 := hide (And.intro own1 hb1); clear own1 hb1)
    | ((with_reducible refine at_slot 12 ?_); (with_reducible refine wpList_text (o := ⟨some 12, _, _, _, _, _⟩) rfl 9 32 5 (.tmp 11) rfl Try.underlying9 Try.underlying32 Try.underlying5 tag rfl ?_); intro g2 k2 w2 ht2 hc2 hg2 hl2 hb2; have HX2 := hide (And.intro ht2 (And.intro hc2 (And.intro hg2 (And.intro hl2 hb2)))); clear ht2 hc2 hg2 hl2 hb2))
  obtain ⟨b0, hb0⟩ : ∃ b0, b0 = w0.heap.size := ⟨_, rfl⟩
  have HB00 := hide hb0
  have hrow0 : TRow (w2.alloc (.cells #[.slice A1 (num tag.size).length k1, .slice (some ⟨g2, 0, none⟩) tag.size k2] 32)) b0 (.slice (some ⟨w2.heap.size, 0, none⟩) 2 2) [.slice A1 (num tag.size).length k1, .slice (some ⟨g2, 0, none⟩) tag.size k2] (tx t []) := by
    obtain ⟨own1, hb1⟩ := HX1.out
    obtain ⟨ht2, hc2, hg2, hl2, hb2⟩ := HX2.out
    have q1 : TB w1 b0 (.slice A1 (num tag.size).length k1) (num tag.size) := TB.of_owned own1
    have q2 : TB w2 b0 (.slice (some ⟨g2, 0, none⟩) tag.size k2) t := by
      have h := TB.of_text (base := b0) hc2 hl2 ht2
      rwa [← HT.out] at h
    have al : Below w2.heap.size w2 (w2.alloc (.cells #[.slice A1 (num tag.size).length k1, .slice (some ⟨g2, 0, none⟩) tag.size k2] 32)) := (Below.refl _ _).alloc (Nat.le_refl _) _
    refine ⟨owned_base (two_own _ _ _ _) (fun g hg => ?_), rfl, fun j hj => ?_⟩
    · injection hg with hg
      change w2.heap.size = g at hg
      have := hb1.size; have := hb2.size; omega
    · have hj2 : j < 2 := hj
      match j, hj2 with
      | 0, _ => rw [show (tx t []).getD 0 [] = num tag.size by rw [← HTN.out]; rfl]; exact (q1.below hb2).below al
      | 1, _ => exact q2.below al
  have hbl0 : Blk (w2.alloc (.cells #[.slice A1 (num tag.size).length k1, .slice (some ⟨g2, 0, none⟩) tag.size k2] 32)) R 27 z20 ∧ Below w.heap.size w (w2.alloc (.cells #[.slice A1 (num tag.size).length k1, .slice (some ⟨g2, 0, none⟩) tag.size k2] 32)) ∧ b0 ≤ (w2.alloc (.cells #[.slice A1 (num tag.size).length k1, .slice (some ⟨g2, 0, none⟩) tag.size k2] 32)).heap.size := by
    obtain ⟨own1, hb1⟩ := HX1.out
    obtain ⟨ht2, hc2, hg2, hl2, hb2⟩ := HX2.out
    obtain ⟨c0, c1⟩ := HB0.out
    have s1 := hb1.size
    have s2 := hb2.size
    have l0 := c0.lt
    have l1 := c1.size
    refine ⟨((c0.below hb1 l0).below hb2 (by omega)).alloc _, ((c1.trans (hb1.mono l1)).trans (hb2.mono (by omega))).alloc (by omega) _, ?_⟩
    rw [size_alloc]; omega
  have hRb : R < b0 := by have := HB0.out.1.lt; omega
  have HROW := hide hrow0
  have HBL := hide hbl0
  clear hrow0 hbl0 hb0
  go_loopw [5, 16] (fun v5 i wr => ∃ (k : Nat) (us : List Value), k ≤ ls.length ∧ i = .int .i64 (k : Int) ∧ TRow wr b0 v5 us (tx t (ls.take k)) ∧ Blk wr R 27 z20 ∧ Below w.heap.size w wr ∧ b0 ≤ wr.heap.size) (fun _ i _ => ls.length - (intOf i).toNat)
  case atStart => exact ⟨0, _, by omega, rfl, HROW.out, HBL.out.1, HBL.out.2.1, HBL.out.2.2⟩
  case round =>
    obtain ⟨k, us, hk, rfl, hrow, hbR, hbw, hbs⟩ := hrel
    by_cases hlt : k < ls.length
    · obtain ⟨b, off, rfl, hbB, hcells⟩ := HA.out (by omega)
      obtain ⟨u, hu, hby⟩ := hcells k hlt
      have ha : Alike B w wr := alike_of_below (hbw.mono hB)
      have cu : wr.cell? ⟨b, off + k, none⟩ = some u := (ha.cell (p := ⟨b, off + k, none⟩) hbB).trans hu
      obtain ⟨l, hl'⟩ : ∃ l, l = ls.getD k [] := ⟨_, rfl⟩
      have hll : l.length ≤ ls.flatten.length := mem_flat_le (by rw [hl']; simp [List.getD, hlt])
      rw [← hl'] at hby
      have htb : TB wr b0 u l := TB.of_bytes (hby.alike ha) (by have := HB0.out.2.size; have := HB00.out; omega) (by have := hbw.size; omega)
      obtain ⟨Aj, cj, rfl, hcj, _⟩ := id hby
      have HU := hide (And.intro htb hl')
      have hus : us.length = 2 + 2 * k := by rw [hrow.len, length_tx, List.length_take]; omega
      obtain ⟨A5, k5, rfl⟩ := owned_slice hrow.own
      have HRO := hide hrow
      have HK := hide (And.intro hbR (And.intro hbw hbs))
      have i1 : (0 : Int) ≤ (k : Int) := by omega
      have i2 : (k : Int) < (ls.length : Int) := by omega
      have HUS := hide hus
      clear hu hby hcells hl' htb hrow hbR hbw hus
      go_wp2_with (first
        | (go_at_call 46; refine (length_any l.length (by omega) _).mono ?_; rintro e w3 ⟨v3, rfl, own3, hb3⟩; obtain ⟨A3, k3, rfl⟩ := owned_slice own3; have HX3 := hide (And.intro own3 hb3); clear own3 hb3)
        | (at_builtin; (refine wpList_app rfl _ _ 88 rfl b0 32 i (.slice none 0 0) 24 Try.underlying88 hi hz0 hz1 hz2 rfl (.slice A5 us.length k5) us.length us ?h0 _ 2 2 [.slice A3 (num l.length).length k3, .slice Aj l.length cj] (two_src _ _ _ _ rfl rfl) ?h1 ?h2 ?h3 rfl rfl ?_)))
      case h0 => exact owned_keep HRO.out.own fun q _ hq => (Below.heap_alloc w3 _ q (by have := HX3.out.2.size; omega)).trans (HX3.out.2.block q hq)
      case h1 => have := HUS.out; simp only [maxLen]; omega
      case h2 => have := HUS.out; omega
      case h3 => have := HX3.out.2.size; have := HK.out.2.2; rw [size_alloc]; omega
      intro v5 w5 own5 gr5 _ _
      have hwr3 : Below wr.heap.size wr (w3.alloc (.cells #[.slice A3 (num l.length).length k3, .slice Aj l.length cj] 32)) := HX3.out.2.alloc HX3.out.2.size _
      have hgrow : TRow w5 b0 v5 (us ++ [.slice A3 (num l.length).length k3, .slice Aj l.length cj]) (tx t (ls.take k) ++ [num l.length, l]) := by
        refine (HRO.out.keep hwr3).grow (fun g hg => (owned_lt HRO.out.own hg).1) own5 gr5 rfl fun j hj => ?_
        have hj2 : j < 2 := hj
        match j, hj2 with
        | 0, _ => exact (TB.of_owned HX3.out.1).below ((Below.refl _ _).alloc (Nat.le_refl _) _)
        | 1, _ => exact HU.out.1.below hwr3
      have hfr : Blk w5 R 27 z20 ∧ Below w.heap.size w w5 ∧ b0 ≤ w5.heap.size := by
        obtain ⟨c0, c1, c2⟩ := HK.out
        have s3 := hwr3.size
        refine ⟨((c0.below hwr3 c0.lt)).grown gr5 (fun e => ?_), ((c1.trans (hwr3.mono c1.size)).grown gr5 (by have := c1.size; omega) (fun q hq => ?_)), by have := gr5.size; omega⟩
        · have := (owned_lt HRO.out.own e.symm).1; omega
        · have := (owned_lt HRO.out.own hq).1; have := HB00.out; have := HB0.out.2.size; omega
      obtain ⟨A6, k6, rfl⟩ := owned_slice own5
      have HG := hide (And.intro hgrow hfr)
      clear own5 gr5 hwr3 hgrow hfr
      go_wp2_with fail
      go_roundw
      case rel =>
        obtain ⟨hgrow, h1, h2, h3⟩ := HG.out
        refine ⟨k + 1, us ++ [.slice A3 (num l.length).length k3, .slice Aj l.length cj], by omega, by go_num, ?_, h1, h2, h3⟩
        rw [tx_take t ls k hlt, ← HU.out.2]
        exact hgrow
      case measure => simp [intOf]; omega
    · obtain rfl : k = ls.length := by omega
      rw [List.take_of_length_le (Nat.le_refl _)] at hrow
      have hpar := hrow.parts
      have hlen : (tx t ls).length = 2 + 2 * ls.length := length_tx t ls
      obtain ⟨D, hD⟩ : ∃ D, D = Sha.sum (tx t ls).flatten := ⟨_, rfl⟩
      have hDl : D.length = 32 := by rw [hD]; exact sum_len _
      have hsz : (Try.prog.info? 27).map (·.size) = some (bv (fold D 32)).toArray.size := by rw [List.size_toArray, bv, List.length_map, length_fold]; exact size_hash
      have hzs : z20.size = (bv (fold D 32)).toArray.size := by
        have e : (bv (fold D 32)).toArray.size = 20 := by rw [List.size_toArray, bv, List.length_map, length_fold]
        rw [e]; rfl
      have HP := hide hpar
      have HK := hide (And.intro hbR (And.intro hbw hbs))
      have HDD := hide hD
      have HDL := hide hDl
      have HLE := hide hlen
      clear hrow hpar hbR hbw hbs hDl hlen hD
      go_wp2_with (first
        | (go_at_call 48; refine (sum_any (tx t ls) HSUM.out (by rw [HLE.out]; omega) _ _ wr.heap.size (Nat.le_refl _) HP.out).mono ?_; rintro e w6 ⟨rfl, hb6⟩; rw [← HDD.out]; have HX6 := hide hb6; clear hb6)
        | (go_at_call 47; refine (fold_any D HDL.out _).mono ?_; rintro e w7 ⟨rfl, hb7⟩; have HX7 := hide hb7; clear hb7; have HR7 := hide ((HK.out.1.below HX6.out HK.out.1.lt).below HX7.out (Nat.lt_of_lt_of_le HK.out.1.lt HX6.out.size)))
        | ((with_reducible refine wpList_store_blkA (o := ⟨none, _, _, _, _, _⟩) rfl 27 (.tmp 4) (.tmp 30) rfl R z20 (bv (fold D 32)).toArray 27 HR7.out hsz hzs (bv_one _) ?_ ?_ ?_); rfl; rfl; intro w9 h9 hg9; dsimp only [Act.put]))
      refine bodyPost_ret (results_cell_blk rfl _ _ R 27 (bv (fold D 32)).toArray _ _ rfl h9 Try.underlying27 hsz) rfl ⟨by rw [ofB, ← HDD.out], ?_⟩
      obtain ⟨c0, c1, c2⟩ := HK.out
      have s6 := HX6.out.size
      have s7 := HX7.out.size
      have s1 := c1.size
      have hRw := HR.out
      refine (((c1.trans (HX6.out.mono s1)).trans (HX7.out.mono (by omega)))).grown hg9 (by omega) ?_
      intro x hx; injection hx with hx; omega
end Go.Proofs.Ytidiepbmbbflhaa
end
section
namespace Go.Proofs.Ytidiepbmbbflhaa
open Go Go.RowKit Go.Maps
set_option maxRecDepth 100000
set_option maxHeartbeats 1000000 in
theorem written_ok (w : World) (d : Drv) (v1 v2 : Value) (h : DrvAt w w.heap.size d v1 v2) (hp : putE d = 0) :
    Calls Try.prog 37 #[.agg (dC d v1 v2).toArray] w fun e w' => ∃ g cap, e = .returned (.slice (some ⟨g, 0, none⟩) (textP d).size cap) ∧ BytesOf w' g (textP d) ∧ (textP d).size ≤ cap ∧ w.heap.size ≤ g ∧ g < w'.heap.size ∧ Below w.heap.size w w' := by
  go_enter Try.func37, Try.ntmps37
  go_wp2_with (first | ((with_reducible refine at_slot 1 ?_); (refine wpList_boxA (o := ⟨some 1, _, _, _, _, _⟩) rfl 34 (.tmp 0) rfl (dC d v1 v2).toArray rfl ?_); intro w1 hn; have H1 := hide hn; clear hn; simp only [Act.put, List.setIfInBounds_toArray, List.set_cons_zero, List.set_cons_succ]) | ((with_reducible refine at_slot 6 ?_); (refine wpList_value (o := ⟨some 6, _, _, _, _, _⟩) rfl (.agg ((dC d v1 v2).toArray)) w1 (exec_load_blk (o := ⟨some 6, _, _, _, _, _⟩) 34 (.tmp 1) rfl w.heap.size rfl 34 _ _ w1 H1.out.blk Try.underlying34 rfl (by kernel_rfl)) ?_)))
  refine (put_any w1 d v1 v2 (h.alike9 H1.out.below)).mono ?_
  rintro e w2 ⟨v, rfl, hv, hb⟩
  dsimp only
  obtain ⟨g, cap, rfl, k1, k2, k3, k4⟩ := hv hp
  rw [hp]
  have H2 := hide (And.intro k1 (And.intro k2 (And.intro (Nat.le_trans H1.out.below.size k3) (And.intro k4 (H1.out.below.trans (Below.mono hb H1.out.below.size))))))
  clear k1 k2 k3 k4 hb hv
  go_wp2_with fail
  refine (must_ok 0 w2).mono ?_
  rintro e w3 ⟨rfl, rfl⟩
  dsimp only
  go_wp2_with fail
  go_ret
  exact ⟨g, cap, rfl, H2.out⟩
set_option maxHeartbeats 1000000 in
theorem written_no (w : World) (d : Drv) (v1 v2 : Value) (h : DrvAt w w.heap.size d v1 v2) (hp : ¬ putE d = 0) :
    Calls Try.prog 37 #[.agg (dC d v1 v2).toArray] w fun e w' => e = .panicked [{ v := thrown (putE d), recovered := false }] ∧ Below w.heap.size w w' := by
  go_enter Try.func37, Try.ntmps37
  go_wp2_with (first | ((with_reducible refine at_slot 1 ?_); (refine wpList_boxA (o := ⟨some 1, _, _, _, _, _⟩) rfl 34 (.tmp 0) rfl (dC d v1 v2).toArray rfl ?_); intro w1 hn; have H1 := hide hn; clear hn; simp only [Act.put, List.setIfInBounds_toArray, List.set_cons_zero, List.set_cons_succ]) | ((with_reducible refine at_slot 6 ?_); (refine wpList_value (o := ⟨some 6, _, _, _, _, _⟩) rfl (.agg ((dC d v1 v2).toArray)) w1 (exec_load_blk (o := ⟨some 6, _, _, _, _, _⟩) 34 (.tmp 1) rfl w.heap.size rfl 34 _ _ w1 H1.out.blk Try.underlying34 rfl (by kernel_rfl)) ?_)))
  refine (put_any w1 d v1 v2 (h.alike9 H1.out.below)).mono ?_
  rintro e w2 ⟨v, rfl, hv, hb⟩
  dsimp only
  obtain ⟨pe, hpe⟩ : ∃ pe, pe = putE d := ⟨_, rfl⟩
  rw [← hpe] at hp ⊢
  have H2 := hide (And.intro hpe (H1.out.below.trans (Below.mono hb H1.out.below.size)))
  have hne : (pe == 0) = false := by simpa using hp
  clear hb hv hpe
  go_wp2_with fail
  refine (must_no pe w2).mono ?_
  rintro e w3 ⟨rfl, rfl⟩
  dsimp only
  change bodyPost Try.prog Try.f37 _ _ _ _
  simp only [bodyPost]
  exact ⟨trivial, by rw [H2.out.1], H2.out.2⟩
end Go.Proofs.Ytidiepbmbbflhaa
end
section
namespace Go.Proofs.Ytidiepbmbbflhaa
open Go Go.RowKit Go.WideShapes Go.ChangeShapes
theorem weightsAll_in {H : Type} {P : Program} {e : TypeId} : ∀ {l : List (DataW H)} {d : DataW H}, d ∈ l → ∀ n ∈ d.weights P e, n ∈ DataW.weightsAll P e l
  | [], _, h, _, _ => by cases h
  | x :: l, d, h, n, hn => by
    rw [DataW.weightsAll, List.mem_append]
    rcases List.mem_cons.1 h with rfl | h
    · exact .inl hn
    · exact .inr (weightsAll_in h n hn)
structure Lay.OpensW {α : Type} (L : Lay α) (P : Program) (M : Nat) (sm : α → Prop) : Prop where
  cells : P.cellsOf L.t = L.n
  op : ∀ {H : Type} {enc : TypeId × Value → H} {w : World} {sp : Nat → Bool} {hd : Bool} {fuel : Nat} {cs : List Value} {y : DataW H × List MemPlace}, DataW.trod enc P w 0 sp hd fuel L.t cs = some y → ∃ x, L.At w w.heap.size cs x ∧ ((∀ n ∈ y.1.weights P L.t, n ≤ M) → sm x)
structure Flds.OpensW {α : Type} (F : Flds α) (P : Program) (M : Nat) (sm : α → Prop) : Prop where
  op : ∀ {H : Type} {enc : TypeId × Value → H} {w : World} {sp : Nat → Bool} {hd : Bool} {fuel : Nat} {cs : List Value} {off : Nat}, cs.length = off + F.n → ∀ ys : List (DataW H × List MemPlace), ys.length = (F.shape off).length →
    (∀ (i : Nat) p, (F.shape off)[i]? = some p → DataW.trod enc P w 0 sp hd fuel p.1 ((cs.drop p.2).take (P.cellsOf p.1)) = ys[i]?) → ∃ x, F.At w w.heap.size (cs.drop off) x ∧ ((∀ n ∈ DataW.weightsEach P ((F.shape off).map (·.1)) (ys.map (·.1)), n ≤ M) → sm x)
theorem Lay.Opens.w {α : Type} {L : Lay α} {P : Program} (h : L.Opens P) (M : Nat) : L.OpensW P M fun _ => True where
  cells := h.cells
  op := fun hy => by
    obtain ⟨x, hx⟩ := h.op hy
    exact ⟨x, hx, fun _ => trivial⟩
theorem opensW_nil {P : Program} {M : Nat} : Flds.nil.OpensW P M fun _ => True where
  op := fun {H enc w sp hd fuel cs off} h _ _ _ => ⟨(), by
    have h : cs.length = off + 0 := h
    show cs.drop off = []
    rw [List.drop_eq_nil_iff]
    omega, fun _ => trivial⟩
theorem opensW_cons {P : Program} {M : Nat} {α β : Type} {L : Lay α} {F : Flds β} {s1 : α → Prop} {s2 : β → Prop} (hL : L.OpensW P M s1) (hF : F.OpensW P M s2) : (Flds.cons L F).OpensW P M fun x => s1 x.1 ∧ s2 x.2 where
  op := fun {H enc w sp hd fuel cs off} hl ys hys h => by
    have hl : cs.length = off + (L.n + F.n) := hl
    have hys : ys.length = (F.shape (off + L.n)).length + 1 := hys
    match ys, hys with
    | y :: ys, hys =>
      have h0 := h 0 (L.t, off) rfl
      obtain ⟨x1, h1, k1⟩ := hL.op h0
      obtain ⟨x2, h2, k2⟩ := hF.op (off := off + L.n) (cs := cs) (by omega) ys (by simpa using hys) (fun i p hp => by
        have := h (i + 1) p (by rw [← hp]; rfl)
        simpa using this)
      refine ⟨(x1, x2), ⟨_, _, ?_, h1, h2⟩, fun hw => ?_⟩
      · rw [hL.cells, ← List.drop_drop, List.take_append_drop]
      · have hw : ∀ n ∈ y.1.weights P L.t ++ DataW.weightsEach P ((F.shape (off + L.n)).map (·.1)) (ys.map (·.1)), n ≤ M := hw
        exact ⟨k1 fun n hn => hw n (List.mem_append_left _ hn), k2 fun n hn => hw n (List.mem_append_right _ hn)⟩
theorem opensW_struct {P : Program} {M : Nat} {γ β : Type} {t : TypeId} {F : Flds β} {f : γ → β} {fs : Array Field} {s : β → Prop} (mk : β → γ) (hmk : ∀ b, f (mk b) = b) (hF : F.OpensW P M s) (ht : P.underlying t = some (.struct fs)) (hc : P.cellsOf t = F.n)
    (hs : fs.toList.map (fun g => (g.type, g.offset)) = F.shape 0) : (Lay.struct t F f).OpensW P M fun x => s (f x) where
  cells := hc
  op := fun {H enc w sp hd fuel cs y} h => by
    obtain ⟨xs, n, _, hy, hl, hxl, hel⟩ := DataW.trod_struct ht h
    have hsl : (F.shape 0).length = fs.size := by rw [← hs]; simp
    obtain ⟨b, hb, hk⟩ := hF.op (H := H) (enc := enc) (w := w) (sp := sp) (hd := hd) (fuel := n) (cs := cs) (off := 0) (by omega) xs (by omega) (fun i p hp => by
      rw [← hs, List.getElem?_map] at hp
      cases e : fs.toList[i]? with
      | none => rw [e] at hp; cases hp
      | some g =>
        rw [e] at hp
        injection hp with hp
        subst hp
        exact hel i g (by simpa using e))
    refine ⟨mk b, ?_, fun hw => ?_⟩
    · show F.At w w.heap.size cs (f (mk b))
      rw [hmk]
      simpa using hb
    · rw [hmk]
      refine hk fun m hm => hw m ?_
      rw [hy]
      show m ∈ DataW.weights P t (.agg (xs.map (·.1)))
      simp only [DataW.weights, ht]
      have e : fs.toList.map (·.type) = (F.shape 0).map (·.1) := by
        rw [← hs, List.map_map]
        rfl
      rw [e]
      exact hm
theorem opensW_slice {P : Program} {M : Nat} {α : Type} {t : TypeId} {L : Lay α} {s : α → Prop} (hL : L.OpensW P M s) (hn : 0 < L.n) (ht : P.underlying t = some (.slice L.t)) (hc : P.cellsOf t = 1) : (Lay.slice t L).OpensW P M fun l => l.length * P.bytesOf L.t ≤ M ∧ ∀ x ∈ l, s x where
  cells := hc
  op := fun {H enc w sp hd fuel cs y} h => by
    rcases Go.Deep.open_slice ht h with ⟨rfl, _⟩ | ⟨a, len, cap, m, n, D, Pl, rfl, _, hl, hm, hmm, hy, hi⟩
    · exact ⟨[], ⟨none, 0, rfl, Nat.le_refl _, Nat.zero_le _, fun _ => rfl, fun h => absurd h (by simp)⟩, fun _ => ⟨by simp, fun x hx => by cases hx⟩⟩
    · rw [hL.cells] at hi
      have hml : len ≤ m := by rw [hmm]; split <;> omega
      have hw1 : (∀ k ∈ y.1.weights P t, k ≤ M) → len * P.bytesOf L.t ≤ M ∧ ∀ i, i < len → ∀ k ∈ (D i).weights P L.t, k ≤ M := by
        intro hw
        rw [hy] at hw
        simp only [DataW.weights, ht] at hw
        have h1 := hw _ (List.mem_cons_self ..)
        simp only [List.length_map, List.length_range] at h1
        refine ⟨Nat.le_trans (Nat.mul_le_mul_right _ (by omega)) h1, fun i hi k hk => hw k (List.mem_cons_of_mem _ (List.mem_append_left _ (weightsAll_in (d := D i) ?_ k hk)))⟩
        exact List.mem_map.2 ⟨i, List.mem_range.2 hi, rfl⟩
      have hel : ∀ i, i < len → ∃ (x : α) (cs : List Value), cs.length = L.n ∧ (∀ k, k < L.n → w.cell? ((a.add (i * L.n)).add k) = cs[k]?) ∧ L.At w w.heap.size cs x ∧ ((∀ k ∈ (D i).weights P L.t, k ≤ M) → s x) := by
        intro i hil
        obtain ⟨cs', hc', htr⟩ := hi i (by omega)
        obtain ⟨_, hcl, hat⟩ := World.cells?_some hc'
        obtain ⟨x, hx, hk⟩ := hL.op htr
        exact ⟨x, cs', hcl, hat, hx, hk⟩
      rcases Nat.eq_zero_or_pos len with rfl | hpos
      · exact ⟨[], ⟨some a, cap, rfl, Nat.zero_le _, hm, (fun h => by cases h), fun h => absurd h (by simp)⟩, fun _ => ⟨by simp, fun x hx => by cases hx⟩⟩
      obtain ⟨x0, _⟩ := hel 0 hpos
      obtain ⟨f, hf⟩ : ∃ f : Nat → α, ∀ i, i < len → ∃ cs : List Value, cs.length = L.n ∧ (∀ k, k < L.n → w.cell? ((a.add (i * L.n)).add k) = cs[k]?) ∧ L.At w w.heap.size cs (f i) ∧ ((∀ k ∈ (D i).weights P L.t, k ≤ M) → s (f i)) :=
        ⟨fun i => if h : i < len then Classical.choose (hel i h) else x0, fun i h => by simp only [dif_pos h]; exact Classical.choose_spec (hel i h)⟩
      clear hel
      have hll : ((List.range len).map f).length = len := by simp
      refine ⟨(List.range len).map f, ⟨some a, cap, by rw [hll], by omega, hm, (fun h => by cases h), fun _ => ?_⟩, fun hw => ⟨by rw [hll]; exact (hw1 hw).1, fun x hx => ?_⟩⟩
      · obtain ⟨c0, q0, q1, _⟩ := hf 0 hpos
        have hcell := q1 0 hn
        rw [List.getElem?_eq_getElem (by omega)] at hcell
        obtain ⟨b, off, sp'⟩ := a
        cases sp' with
        | some q =>
          have h2 : w.cell? ⟨b, off, some q⟩ = some c0[0] := by simpa [Addr.add] using hcell
          rw [cell_spot] at h2
          cases h2
        | none =>
          have h2 : w.cell? ⟨b, off, none⟩ = some c0[0] := by simpa [Addr.add] using hcell
          refine ⟨b, off, rfl, World.block_lt_of_cell? w _ h2, fun j x hj => ?_⟩
          obtain ⟨hj1, hj2⟩ := List.getElem?_eq_some_iff.1 hj
          rw [hll] at hj1
          have hj3 : f j = x := by simpa using hj2
          obtain ⟨cs, k1, k2, k3, _⟩ := hf j hj1
          rw [hj3] at k3
          refine ⟨cs, fun k v hk => ?_, k3⟩
          have hkn : k < L.n := by
            have := (List.getElem?_eq_some_iff.1 hk).1
            omega
          have := k2 k hkn
          rw [add_plain, add_plain, hk] at this
          exact this
      · obtain ⟨i, hi2, rfl⟩ := List.mem_map.1 hx
        have hil := List.mem_range.1 hi2
        obtain ⟨_, _, _, _, k4⟩ := hf i hil
        exact k4 ((hw1 hw).2 i hil)
end Go.Proofs.Ytidiepbmbbflhaa
end
