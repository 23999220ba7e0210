/- The walk of a block: the program's sixty-four rounds over the words of a block. -/
import Derived.Test.YtjmenaplgndnnaaShaB
namespace Go.Proofs.Ytjmenaplgndnnaa
open Go.RowKit

/-- a sponge's cells: eight words, sixty-four bytes, how many bytes came -/
def bv (l : List UInt8) : List Value := l.map fun b => Value.int .u8 (b.toNat : Int)
def sp (s : List Sha.W) (B : List UInt8) (m : Nat) : Array Value := (((s.map fun x => Value.int .u32 (U x)) ++ bv B) ++ [Value.int .u64 (m : Int)]).toArray
theorem sp_word (s : List Sha.W) (B : List UInt8) (m i : Nat) (hs : s.length = 8) (hi : i < 8) : (sp s B m)[i]? = some (.int .u32 (U (s.getD i 0))) := by
  simp [sp, bv, List.getElem?_append, hs, hi, List.getD]
theorem sp_byte (s : List Sha.W) (B : List UInt8) (m i : Nat) (hs : s.length = 8) (hB : B.length = 64) (hi : i < 64) : (sp s B m)[8 + i]? = some (.int .u8 ((B.getD i 0).toNat : Int)) := by
  have h : ¬ 8 + i < 8 := by omega
  simp [sp, bv, List.getElem?_append, hs, hB, h, hi, List.getD]
theorem sp_many (s : List Sha.W) (B : List UInt8) (m : Nat) (hs : s.length = 8) (hB : B.length = 64) : (sp s B m)[72]? = some (.int .u64 (m : Int)) := by
  simp [sp, bv, hs, hB]
theorem sp_setWord (s : List Sha.W) (B : List UInt8) (m i : Nat) (x : Sha.W) (hs : s.length = 8) (hi : i < 8) : (sp s B m).setIfInBounds i (.int .u32 (U x)) = sp (s.set i x) B m := by
  simp only [sp, List.setIfInBounds_toArray, List.append_assoc]
  rw [List.set_append_left _ _ (by simp [hs, hi]), List.map_set]

theorem run_alloc64 (ev : Operand → Value) (d : Option Tmp) (ty : TypeId) (pos : String) (aft : Array Edge) (w : World) :
    (execOp ev ⟨d, .alloc 216, ty, pos, aft, none⟩).run Try.prog w = .ok (.value (.pointer (some ⟨w.heap.size, 0, none⟩))) (w.alloc (.cells uz 216)) := by kernel_rfl
theorem wpList_alloc64 {ops : Array Oper} {rest : List Oper} {a : Act} {w : World} {Q : Exit → Act → World → Prop} {d : Option Tmp} {ty : TypeId} {pos : String} {aft : Array Edge}
    (h : wpList Try.prog ops Q rest (a.put d (.pointer (some ⟨w.heap.size, 0, none⟩))) (w.alloc (.cells uz 216))) :
    wpList Try.prog ops Q (⟨d, .alloc 216, ty, pos, aft, none⟩ :: rest) a w :=
  wpList_value rfl _ _ (run_alloc64 _ _ _ _ _ _) h
theorem size80 : (Try.prog.info? 107).map (·.size) = some 8 := by kernel_rfl

/-- eight words as cells -/
def x8 (s : Sha.St) : Array Value := #[.int .u32 (U s.a), .int .u32 (U s.b), .int .u32 (U s.c), .int .u32 (U s.d), .int .u32 (U s.e), .int .u32 (U s.f), .int .u32 (U s.g), .int .u32 (U s.h)]
theorem x8_uv (s : Sha.St) : uv s.list = x8 s := rfl
theorem uz_ks : uz.size = (uv Sha.ks).size := by rw [uv_size, uz, uv_size, List.length_replicate]; rfl
theorem uz_ws (B : List UInt8) : uz.size = (uv (Sha.ws B 64)).size := by rw [uv_size, uz, uv_size, List.length_replicate, Sha.length_ws]
theorem size_ks : (Try.prog.info? 216).map (·.size) = some (uv Sha.ks).size := by rw [uv_size]; exact size147
theorem size_ws (B : List UInt8) : (Try.prog.info? 216).map (·.size) = some (uv (Sha.ws B 64)).size := by rw [uv_size, Sha.length_ws]; exact size147

theorem size78 : (Try.prog.info? 105).map (·.size) = some 1 := by kernel_rfl
theorem r6 : 1 ≤ 6 ∧ 6 ≤ 31 := by decide
theorem r11 : 1 ≤ 11 ∧ 11 ≤ 31 := by decide
theorem r25 : 1 ≤ 25 ∧ 25 ≤ 31 := by decide
theorem r2 : 1 ≤ 2 ∧ 2 ≤ 31 := by decide
theorem r13 : 1 ≤ 13 ∧ 13 ≤ 31 := by decide
theorem r22 : 1 ≤ 22 ∧ 22 ≤ 31 := by decide
theorem only_drewN {a w : World} {row : Option Nat} (h : a.grownBy w row) (n : Nat) : a.grownBy (w.drewN n) row := ⟨h.os, h.tape, h.output, h.size, h.block⟩
theorem only_setCell {a w : World} {g : Nat} (h : a.grownBy w (some g)) {p : Addr} (hp : p.block = g ∨ a.heap.size ≤ p.block) (u : Value) : a.grownBy (w.setCell p u) (some g) :=
  ⟨h.os, h.tape, h.output, by simpa [World.setCell] using h.size, fun i hi hne => (Below.heap_setCell w p u i (by
    rintro rfl
    rcases hp with hp | hp
    · exact hne (by rw [hp])
    · omega)).trans (h.block i hi hne)⟩
theorem grown_chain {w w4 w6 w7 : World} {g : Nat} (h1 : Below w.heap.size w w4) (h2 : Below w4.heap.size w4 w6) (h3 : w6.grownBy w7 (some g)) : w.grownBy w7 (some g) := by
  have h4 := h1.trans (h2.mono h1.size)
  exact ⟨h3.os.trans h4.os, h3.tape.trans h4.tape, h3.output.trans h4.output, Nat.le_trans h4.size h3.size, fun k hk hne => (h3.block k (Nat.lt_of_lt_of_le hk h4.size) hne).trans (h4.block k hk)⟩
theorem sp_cells {w : World} {g T m : Nat} {s : Sha.St} {B : List UInt8} (h : Blk w g T (sp s.list B m)) :
    w.cell? ⟨g, 0, none⟩ = some (.int .u32 (U s.a)) ∧ w.cell? ⟨g, 1, none⟩ = some (.int .u32 (U s.b)) ∧ w.cell? ⟨g, 2, none⟩ = some (.int .u32 (U s.c)) ∧ w.cell? ⟨g, 3, none⟩ = some (.int .u32 (U s.d)) ∧
    w.cell? ⟨g, 4, none⟩ = some (.int .u32 (U s.e)) ∧ w.cell? ⟨g, 5, none⟩ = some (.int .u32 (U s.f)) ∧ w.cell? ⟨g, 6, none⟩ = some (.int .u32 (U s.g)) ∧ w.cell? ⟨g, 7, none⟩ = some (.int .u32 (U s.h)) :=
  ⟨(h.cell 0).trans (sp_word _ _ _ 0 rfl (by omega)), (h.cell 1).trans (sp_word _ _ _ 1 rfl (by omega)), (h.cell 2).trans (sp_word _ _ _ 2 rfl (by omega)), (h.cell 3).trans (sp_word _ _ _ 3 rfl (by omega)),
   (h.cell 4).trans (sp_word _ _ _ 4 rfl (by omega)), (h.cell 5).trans (sp_word _ _ _ 5 rfl (by omega)), (h.cell 6).trans (sp_word _ _ _ 6 rfl (by omega)), (h.cell 7).trans (sp_word _ _ _ 7 rfl (by omega))⟩
theorem keep_blk {w w1 w2 w3 w4 : World} {g T : Nat} {cs : Array Value} {a b : Obj} (h0 : Blk w g T cs) (hb1 : Below w.heap.size w w1) (hb2 : Below w1.heap.size w1 w2)
    (hg3 : ((w2.alloc a).alloc b).grownBy w3 (some w2.heap.size)) (hg4 : w3.grownBy w4 (some (w2.heap.size + 1))) : Blk w4 g T cs ∧ Below w.heap.size w w4 ∧ w2.heap.size + 2 ≤ w4.heap.size := by
  have l0 := h0.lt
  have s1 := hb1.size
  have s2 := hb2.size
  have s3 := hg3.size
  have s4 := hg4.size
  simp only [size_alloc] at s3
  refine ⟨((((((h0.below hb1 l0).below hb2 (by omega)).alloc _).alloc _).grown hg3 ?_).grown hg4 ?_), ?_, by omega⟩
  · intro h; injection h with h; omega
  · intro h; injection h with h; omega
  · refine Below.grown (Below.grown (((hb1.trans (hb2.mono s1)).alloc (by omega) a).alloc (by simp only [size_alloc]; omega) b) hg3 (by simp only [size_alloc]; omega) ?_) hg4 (by omega) ?_
    · intro k hk; injection hk with hk; omega
    · intro k hk; injection hk with hk; omega

/-- eight words, the first i of them added to eight others -/
def addN (s t : List Sha.W) (i : Nat) : List Sha.W := (List.range 8).map fun j => if j < i then s.getD j 0 + t.getD j 0 else s.getD j 0
theorem length_addN (s t : List Sha.W) (i : Nat) : (addN s t i).length = 8 := by simp [addN]
theorem idx8_0 (s : Sha.St) (w : World) : (Instr.index 107 (.agg (x8 s)) (.int .i64 ((0 : Nat) : Int))).run Try.prog w = .ok (.int .u32 (U s.a)) w := by kernel_rfl
theorem idx8_1 (s : Sha.St) (w : World) : (Instr.index 107 (.agg (x8 s)) (.int .i64 ((1 : Nat) : Int))).run Try.prog w = .ok (.int .u32 (U s.b)) w := by kernel_rfl
theorem idx8_2 (s : Sha.St) (w : World) : (Instr.index 107 (.agg (x8 s)) (.int .i64 ((2 : Nat) : Int))).run Try.prog w = .ok (.int .u32 (U s.c)) w := by kernel_rfl
theorem idx8_3 (s : Sha.St) (w : World) : (Instr.index 107 (.agg (x8 s)) (.int .i64 ((3 : Nat) : Int))).run Try.prog w = .ok (.int .u32 (U s.d)) w := by kernel_rfl
theorem idx8_4 (s : Sha.St) (w : World) : (Instr.index 107 (.agg (x8 s)) (.int .i64 ((4 : Nat) : Int))).run Try.prog w = .ok (.int .u32 (U s.e)) w := by kernel_rfl
theorem idx8_5 (s : Sha.St) (w : World) : (Instr.index 107 (.agg (x8 s)) (.int .i64 ((5 : Nat) : Int))).run Try.prog w = .ok (.int .u32 (U s.f)) w := by kernel_rfl
theorem idx8_6 (s : Sha.St) (w : World) : (Instr.index 107 (.agg (x8 s)) (.int .i64 ((6 : Nat) : Int))).run Try.prog w = .ok (.int .u32 (U s.g)) w := by kernel_rfl
theorem idx8_7 (s : Sha.St) (w : World) : (Instr.index 107 (.agg (x8 s)) (.int .i64 ((7 : Nat) : Int))).run Try.prog w = .ok (.int .u32 (U s.h)) w := by kernel_rfl
theorem idx8 (s : Sha.St) (k : Nat) (hk : k < 8) (w : World) : (Instr.index 107 (.agg (x8 s)) (.int .i64 (k : Int))).run Try.prog w = .ok (.int .u32 (U (s.list.getD k 0))) w := by
  match k, hk with
  | 0, _ => exact idx8_0 s w
  | 1, _ => exact idx8_1 s w
  | 2, _ => exact idx8_2 s w
  | 3, _ => exact idx8_3 s w
  | 4, _ => exact idx8_4 s w
  | 5, _ => exact idx8_5 s w
  | 6, _ => exact idx8_6 s w
  | 7, _ => exact idx8_7 s w
theorem addN_step (s t : List Sha.W) (k : Nat) (hk : k < 8) : (addN s t k).set k ((addN s t k).getD k 0 + t.getD k 0) = addN s t (k + 1) := by
  have e : (addN s t k).getD k 0 = s.getD k 0 := by simp [addN, List.getD, hk]
  rw [e]
  apply List.ext_getElem?
  intro j
  simp only [addN, List.getElem?_set, List.length_map, List.length_range, List.getElem?_map]
  by_cases h1 : k = j
  · subst h1
    simp [hk]
  · by_cases h2 : j < 8
    · simp only [h1, if_false, List.getElem?_range h2, Option.map_some]
      by_cases h3 : j < k
      · rw [if_pos h3, if_pos (by omega)]
      · rw [if_neg h3, if_neg (by omega)]
    · simp [h1, h2]

set_option maxRecDepth 100000 in
set_option maxHeartbeats 1000000 in
theorem block_any (s : Sha.St) (B : List UInt8) (hB : B.length = 64) (m g T : Nat) (w : World) (hg : Blk w g T (sp s.list B m)) :
    Calls Try.prog 88 #[.pointer (some ⟨g, 0, none⟩), .pointer (some ⟨g, 8, none⟩)] w fun e w' => e = .returned (.tuple #[]) ∧ Blk w' g T (sp (Sha.comp s B).list B m) ∧ w.grownBy w' (some g) := by
  have hlt := hg.lt
  have hB0 : ∀ j, j < 64 → w.cell? ⟨g, 8 + j, none⟩ = some (.int .u8 ((B.getD j 0).toNat : Int)) := fun j hj => by rw [hg.cell, sp_byte _ _ _ _ rfl hB hj]
  have HG := hide hg
  have HB0 := hide hB0
  clear hg hB0
  go_enter Try.func88, Try.ntmps88
  go_wp2_with (first
    | (go_at_call 116; refine (rounds_any _).mono ?_; rintro e w1 ⟨rfl, hb1⟩; have HC1 : Hid (∀ j, j < 64 → w1.cell? ⟨g, 8 + j, none⟩ = some (.int .u8 ((B.getD j 0).toNat : Int))) := hide (fun j hj => (hb1.cell (p := ⟨g, 8 + j, none⟩) hlt).trans (HB0.out j hj))))
  refine (spread_any B hB g 8 _ HC1.out).mono ?_
  rintro e w2 ⟨rfl, hb2⟩
  dsimp only
  go_step
  refine wpList_alloc64 ?_
  refine wpList_alloc64 ?_
  dsimp only [Act.put, List.setIfInBounds_toArray, List.set_cons_zero, List.set_cons_succ]
  refine wpList_store_blkA (o := ⟨none, .store 216 (.tmp 4) (.tmp 14), _, _, _, _⟩) rfl 216 (.tmp 4) (.tmp 14) rfl w2.heap.size uz (uv Sha.ks) 216 ((Blk.new w2 216 uz).alloc (.cells uz 216)) size_ks uz_ks (uv_one _) rfl rfl ?_
  intro w3 h4 hg3
  refine wpList_store_blkA (o := ⟨none, .store 216 (.tmp 5) (.tmp 16), _, _, _, _⟩) rfl 216 (.tmp 5) (.tmp 16) rfl (w2.heap.size + 1) uz (uv (Sha.ws B 64)) 216 ((Blk.new1 w2 (.cells uz 216) 216 uz).grown hg3 (by simp)) (size_ws B) (uz_ws B) (uv_one _) (by rw [← size_alloc w2 (.cells uz 216)]; rfl) rfl ?_
  intro w4 h5 hg4
  dsimp only [Act.put]
  obtain ⟨hgw4, hbl4, hsz4⟩ := keep_blk HG.out hb1 hb2 hg3 hg4
  obtain ⟨c0, c1, c2, c3, c4, c5, c6, c7⟩ := sp_cells hgw4
  go_wp2_with fail
  obtain ⟨X, hX⟩ : ∃ X, X = w4.heap.size := ⟨_, rfl⟩
  obtain ⟨Nk, hNk⟩ : ∃ Nk, Nk = w2.heap.size := ⟨_, rfl⟩
  have hgX : g < X := by have := hgw4.lt; omega
  have hkX : Nk + 1 < X := by omega
  have hk4 : Blk w4 Nk 216 (uv Sha.ks) := by rw [hNk]; exact h4.grown hg4 (by simp)
  have hw4 : Blk w4 (Nk + 1) 216 (uv (Sha.ws B 64)) := by rw [hNk]; exact h5
  have hx0 : Blk (w4.alloc (.cells (x8 s) 107)) X 107 (x8 s) := by rw [hX]; exact Blk.new _ _ _
  have hbX : Below X w4 (w4.alloc (.cells (x8 s) 107)) := (Below.refl _ _).alloc (by omega) _
  have HK4 := hide hk4
  have HW4 := hide hw4
  have HGW := hide hgw4
  have HX0 := hide hx0
  have HNK := hide hNk
  have HX := hide hX
  rw [← hX, ← hNk]
  clear hk4 hw4 hgw4 hx0 hNk hX c0 c1 c2 c3 c4 c5 c6 c7 h4 h5
  go_loopw [20] (fun i wr => ∃ t : Nat, t ≤ 64 ∧ i = .int .i64 t ∧ Blk wr X 107 (x8 (Sha.rnds s B t)) ∧ Below X w4 wr) (fun i _ => 64 - (intOf i).toNat)
  case atStart => exact ⟨0, by omega, rfl, HX0.out, hbX⟩
  case round =>
    obtain ⟨t, ht, rfl, hbk, hbel⟩ := hrel
    clear hbX
    by_cases h64 : t < 64
    · obtain ⟨st, hst⟩ : ∃ st, st = Sha.rnds s B t := ⟨_, rfl⟩
      rw [← hst] at hbk
      have HST := hide hst
      clear hst
      obtain ⟨kt, hkt⟩ : ∃ kt, kt = Sha.ks.getD t 0 := ⟨_, rfl⟩
      obtain ⟨wt, hwt⟩ : ∃ wt, wt = (Sha.ws B 64).getD t 0 := ⟨_, rfl⟩
      have ck : wr.cell? ⟨Nk, t, none⟩ = some (.int .u32 (U kt)) := by
        rw [((HK4.out.below hbel (by omega)).cell t), uv_get _ _ (by exact h64), hkt]
      have cw : wr.cell? ⟨Nk + 1, t, none⟩ = some (.int .u32 (U wt)) := by
        rw [((HW4.out.below hbel (by omega)).cell t), uv_get _ _ (by rw [Sha.length_ws]; exact h64), hwt]
      have HKT := hide (And.intro hkt hwt)
      clear hkt hwt
      have c0 : wr.cell? ⟨X, 0, none⟩ = some (.int .u32 (U st.a)) := hbk.cell 0
      have c1 : wr.cell? ⟨X, 1, none⟩ = some (.int .u32 (U st.b)) := hbk.cell 1
      have c2 : wr.cell? ⟨X, 2, none⟩ = some (.int .u32 (U st.c)) := hbk.cell 2
      have c4 : wr.cell? ⟨X, 4, none⟩ = some (.int .u32 (U st.e)) := hbk.cell 4
      have c5 : wr.cell? ⟨X, 5, none⟩ = some (.int .u32 (U st.f)) := hbk.cell 5
      have c6 : wr.cell? ⟨X, 6, none⟩ = some (.int .u32 (U st.g)) := hbk.cell 6
      have c7 : wr.cell? ⟨X, 7, none⟩ = some (.int .u32 (U st.h)) := hbk.cell 7
      have HBK := hide hbk
      have hXw : X < wr.heap.size := hbk.lt
      clear hbk
      have e1 := U_xor st.f st.g
      have e2 := U_and st.e (st.f ^^^ st.g)
      have e3 := U_xor st.g (st.e &&& (st.f ^^^ st.g))
      have e4 := U_or st.b st.c
      have e5 := U_and st.a (st.b ||| st.c)
      have e6 := U_and st.b st.c
      have e7 := U_or (st.a &&& (st.b ||| st.c)) (st.b &&& st.c)
      have n0 : (0 : Int) ≤ (t : Int) := by omega
      have n1 : (t : Int) < 64 := by omega
      go_wp2_with fail
      go_region_held3 (fun w' => w'.cell? ⟨X, 7, none⟩ = some (.int .u32 (U st.h)) ∧ w'.cell? ⟨X, 4, none⟩ = some (.int .u32 (U st.e)) ∧ w'.cell? ⟨Nk, t, none⟩ = some (.int .u32 (U kt)) ∧ w'.cell? ⟨Nk + 1, t, none⟩ = some (.int .u32 (U wt))) (go_keep)
        (first
          | (go_at_call 118; (with_reducible refine (mixed3_any st.e 6 11 25 r6 r11 r25 _ _ _ ?_ ?_ ?_).mono ?_); (focus (simp [cell_alloc])); (focus (simp [cell_alloc])); (focus (simp [cell_alloc])); rintro e w' ⟨rfl, rfl⟩))
      go_wp2_with (go_at_call 118; (with_reducible refine (mixed3_any st.a 2 13 22 r2 r13 r22 _ _ _ ?_ ?_ ?_).mono ?_); (focus (simp [cell_alloc])); (focus (simp [cell_alloc])); (focus (simp [cell_alloc])); rintro e w' ⟨rfl, rfl⟩)
      simp only [U_add, U_add']
      refine wp_quiet_tail_drewN 2 (by kernel_rfl) (by kernel_rfl) ?_
      simp only [List.take_succ_cons, List.take_zero, List.drop_succ_cons, List.drop_zero]
      repeat (go_big_quiet_step (fail))
      refine wpQuiet_nil ?_
      intro nq
      have hX1 : X ≤ wr.heap.size := by omega
      have hX2 : X ≤ wr.heap.size + 1 := by omega
      refine wpList_copy_splice rfl (.tmp 71) (.tmp 72) 141 141 rfl 105 Try.underlying141 size78 _ _ 7 7 7 8 rfl rfl X 1
        [.int .u32 (U st.a), .int .u32 (U st.b), .int .u32 (U st.c), .int .u32 (U st.d), .int .u32 (U st.e), .int .u32 (U st.f), .int .u32 (U st.g), .int .u32 (U st.h)] 107
        (((HBK.out.alloc _).alloc _).drew.drewN nq)
        [.int .u32 (U st.a), .int .u32 (U st.b), .int .u32 (U st.c), .int .u32 (U st.d), .int .u32 (U st.e), .int .u32 (U st.f), .int .u32 (U st.g)] rfl
        (fun _ => ⟨rfl, _, rfl, ?_⟩) (by simp) (by simp [Value.oneCell']) X w4 (below_drewN ((hbel.alloc hX1 _).alloc (by rw [size_alloc]; exact hX2) _).drew nq) (Nat.le_refl _) ?_
      · intro j v hj
        have hb9 := ((HBK.out.alloc (.cells #[.int .i64 6, .int .i64 11, .int .i64 25] 3)).alloc (.cells #[.int .i64 2, .int .i64 13, .int .i64 22] 3)).drew.drewN nq
        have hj7 : j < 7 := (List.getElem?_eq_some_iff.1 hj).1
        have e : (⟨X, 0, none⟩ : Addr).add j = ⟨X, j, none⟩ := by unfold Addr.add; split <;> simp_all
        rw [e, hb9.cell j, ← hj]
        match j, hj7 with
        | 0, _ => rfl
        | 1, _ => rfl
        | 2, _ => rfl
        | 3, _ => rfl
        | 4, _ => rfl
        | 5, _ => rfl
        | 6, _ => rfl
      · intro w5 hs5 hb5
        have hs5 : Blk w5 X 107 #[.int .u32 (U st.a), .int .u32 (U st.a), .int .u32 (U st.b), .int .u32 (U st.c), .int .u32 (U st.d), .int .u32 (U st.e), .int .u32 (U st.f), .int .u32 (U st.g)] := hs5.out
        have d0 : w5.cell? ⟨X, 0, none⟩ = some (.int .u32 (U st.a)) := hs5.cell 0
        have d4 : w5.cell? ⟨X, 4, none⟩ = some (.int .u32 (U st.d)) := hs5.cell 4
        have f0 := hs5.frozen 0
        have f4 := hs5.frozen 4
        have HS5 := hide hs5
        clear hs5 c0 c1 c2 c4 c5 c6 c7 ck cw e1 e2 e3 e4 e5 e6 e7
        dsimp only [Act.put]
        go_wp2_with fail
        go_roundw
        case rel =>
          refine ⟨t + 1, by omega, by go_num, ?_, (hb5.setCell (Nat.le_refl _) _).setCell (Nat.le_refl _) _⟩
          have e : Sha.rnds s B (t + 1) = Sha.rnd st kt wt := by rw [Sha.rnds, ← HST.out, ← HKT.out.1, ← HKT.out.2]
          rw [e, U_add', U_add']
          exact (HS5.out.set_ 0 _).set_ 4 _
        case measure => simp [intOf]; omega
    · obtain rfl : t = 64 := by omega
      obtain ⟨st, hst⟩ : ∃ st, st = Sha.rnds s B 64 := ⟨_, rfl⟩
      rw [← hst] at hbk
      have HST := hide hst
      clear hst
      have c0 : wr.cell? ⟨X, 0, none⟩ = some (.int .u32 (U st.a)) := hbk.cell 0
      have c1 : wr.cell? ⟨X, 1, none⟩ = some (.int .u32 (U st.b)) := hbk.cell 1
      have c2 : wr.cell? ⟨X, 2, none⟩ = some (.int .u32 (U st.c)) := hbk.cell 2
      have c3 : wr.cell? ⟨X, 3, none⟩ = some (.int .u32 (U st.d)) := hbk.cell 3
      have c4 : wr.cell? ⟨X, 4, none⟩ = some (.int .u32 (U st.e)) := hbk.cell 4
      have c5 : wr.cell? ⟨X, 5, none⟩ = some (.int .u32 (U st.f)) := hbk.cell 5
      have c6 : wr.cell? ⟨X, 6, none⟩ = some (.int .u32 (U st.g)) := hbk.cell 6
      have c7 : wr.cell? ⟨X, 7, none⟩ = some (.int .u32 (U st.h)) := hbk.cell 7
      have hgr : Blk wr g T (sp s.list B m) := HGW.out.below hbel hgX
      have HGR := hide hgr
      clear hgr hbk
      go_wp2_with fail
      clear c0 c1 c2 c3 c4 c5 c6 c7
      go_loopw [85] (fun i wq => ∃ k : Nat, k ≤ 8 ∧ i = .int .i64 k ∧ Blk wq g T (sp (addN s.list st.list k) B m) ∧ wr.grownBy wq (some g)) (fun i _ => 8 - (intOf i).toNat)
      case atStart => exact ⟨0, by omega, rfl, HGR.out, World.grownBy.refl _ _⟩
      case round =>
        obtain ⟨k, hk, rfl, hgk, hgrw⟩ := hrel
        by_cases h8 : k < 8
        · have hix := idx8 st k h8
          obtain ⟨y, hy⟩ : ∃ y, y = st.list.getD k 0 := ⟨_, rfl⟩
          rw [← hy] at hix
          have HY := hide hy
          clear hy
          have ck := (hgk.cell k).trans (sp_word _ _ _ k (length_addN _ _ _) h8)
          obtain ⟨z, hz⟩ : ∃ z, z = (addN s.list st.list k).getD k 0 := ⟨_, rfl⟩
          rw [← hz] at ck
          have HZ := hide hz
          have fk := hgk.frozen k
          have HGK := hide hgk
          clear hz hgk
          have n0 : (0 : Int) ≤ (k : Int) := by omega
          have n1 : (k : Int) < 8 := by omega
          unfold x8 at hix
          go_wp2_with fail
          refine wp_quiet_tail_drewN 9 (by kernel_rfl) (by kernel_rfl) ?_
          simp only [List.take_succ_cons, List.take_zero, List.drop_succ_cons, List.drop_zero]
          repeat (go_big_quiet_step (fail))
          refine wpQuiet_nil ?_
          intro nq
          go_wp2
          go_roundw
          case rel =>
            refine ⟨k + 1, by omega, by go_num, ?_, ?_⟩
            · first | rw [U_add'] | rw [U_add]
              have h3 := (HGK.out.drewN nq).set_ k (.int .u32 (U (z + y)))
              rw [sp_setWord _ _ _ _ _ (length_addN _ _ _) h8, HZ.out, HY.out, addN_step _ _ _ h8] at h3
              rw [HZ.out, HY.out]
              exact h3
            · exact only_setCell (only_drewN hgrw nq) (.inl rfl) _
          case measure => simp [intOf]; omega
        · obtain rfl : k = 8 := by omega
          go_wp2_with fail
          go_end0
          refine ⟨rfl, ?_, ?_⟩
          · have e : (Sha.comp s B).list = addN s.list st.list 8 := by rw [Sha.comp, ← HST.out]; rfl
            rw [e]
            exact hgk
          · exact grown_chain hbl4 (by rw [HX.out] at hbel; exact hbel) hgrw

end Go.Proofs.Ytjmenaplgndnnaa
