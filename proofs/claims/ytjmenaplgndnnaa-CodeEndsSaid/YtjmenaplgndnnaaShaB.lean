/- The walks of the program's package hash: the first state, the constants of the rounds, the words of a block. -/
import Derived.Test.YtjmenaplgndnnaaShaA
import Derived.Test.YtjmenaplgndnnaaQuietTail
import Derived.Deep.RegionHeld3
import Derived.Deep.QuietTactic
import Derived.BigQuiet
namespace Go.Proofs.Ytjmenaplgndnnaa
open Go.RowKit
def uv (l : List Sha.W) : Array Value := (l.map fun x => Value.int .u32 (U x)).toArray
theorem uv_one (l : List Sha.W) : (uv l).all (·.oneCell') = true := by
  rw [Array.all_eq_true_iff_forall_mem]; intro v hv; simp [uv] at hv; obtain ⟨x, _, rfl⟩ := hv; rfl
theorem uv_get (l : List Sha.W) (i : Nat) (h : i < l.length) : (uv l)[i]? = some (.int .u32 (U (l.getD i 0))) := by
  simp [uv, h, List.getD]
theorem uv_set (l : List Sha.W) (i : Nat) (x : Sha.W) : (uv l).setIfInBounds i (.int .u32 (U x)) = uv (l.set i x) := by
  simp [uv, List.map_set]
theorem uv_size (l : List Sha.W) : (uv l).size = l.length := by simp [uv]
def uz : Array Value := uv (List.replicate 64 0)
theorem size147 : (Try.prog.info? 216).map (·.size) = some 64 := by kernel_rfl

set_option maxHeartbeats 400000 in
theorem first_any (w : World) : Calls Try.prog 58 #[] w fun e w' => e = .returned (.agg (uv Sha.first.list)) ∧ Below w.heap.size w w' := by
  go_enter Try.func58, Try.ntmps58
  go_wp2
  exact bodyPost_ret (results_cell_row rfl _ _ w.heap.size 107 _ (0,0) _ rfl (heap_alloc_new _ _) Try.underlying107 rfl (by kernel_rfl)) rfl ⟨rfl, (Below.refl _ _).alloc (Nat.le_refl _) _⟩

set_option maxHeartbeats 400000 in
theorem rounds_any (w : World) : Calls Try.prog 116 #[] w fun e w' => e = .returned (.agg (uv Sha.ks)) ∧ Below w.heap.size w w' := by
  go_enter Try.func116, Try.ntmps116
  go_step
  go_step
  apply wp_region_lit
  refine wpList_value (o := ⟨some 0, _, _, _, _, _⟩) rfl (.pointer (some ⟨w.heap.size, 0, none⟩)) (w.alloc (.cells uz 216)) ?ha ?_
  case ha => kernel_rfl
  dsimp only [Act.put, List.setIfInBounds_toArray, List.set_cons_zero, List.set_cons_succ]
  go_step
  go_step
  go_step
  go_step
  apply wp_region_lit
  refine wpList_value (o := ⟨some 1, _, _, _, _, _⟩) rfl (.agg (uv Sha.ks)) (w.alloc (.cells uz 216)) ?hb ?_
  case hb => kernel_rfl
  dsimp only [Act.put, List.setIfInBounds_toArray, List.set_cons_zero, List.set_cons_succ]
  refine wpList_store_blk (o := ⟨none, _, _, _, _, _⟩) rfl 216 _ _ rfl w.heap.size uz (uv Sha.ks) 216 (Blk.new _ _ _) (by rw [uv_size]; exact size147) (by rw [uv_size, uz, uv_size, List.length_replicate]; rfl) (uv_one _) rfl rfl ?_
  rw [World.setRow_alloc_new]
  dsimp only [Act.put]
  go_wp2
  exact bodyPost_ret (results_cell_row rfl _ _ w.heap.size 216 _ (0,0) _ rfl (heap_alloc_new _ _) Try.underlying216 rfl size147) rfl ⟨rfl, (Below.refl _ _).alloc (Nat.le_refl _) _⟩
/-- the words of a block so far, and noughts -/
def wz (B : List UInt8) (t : Nat) : List Sha.W := Sha.ws B t ++ List.replicate (64 - t) 0
theorem length_wz (B : List UInt8) (t : Nat) (h : t ≤ 64) : (wz B t).length = 64 := by simp [wz, Sha.length_ws]; omega

theorem wz_get (B : List UInt8) (t i : Nat) (h : i < t) : (wz B t).getD i 0 = (Sha.ws B t).getD i 0 := by
  simp [wz, List.getD, List.getElem?_append, Sha.length_ws, h]
theorem wz_step (B : List UInt8) (t : Nat) (x : Sha.W) (ht : t < 64) (hx : Sha.ws B (t + 1) = Sha.ws B t ++ [x]) : (wz B t).set t x = wz B (t + 1) := by
  unfold wz
  rw [hx, List.set_append_right _ _ (by rw [Sha.length_ws]; exact Nat.le_refl _), Sha.length_ws, Nat.sub_self, show 64 - t = (64 - (t + 1)) + 1 by omega, List.replicate_succ, List.set_cons_zero, List.append_assoc]
  rfl
theorem r17 : 1 ≤ 17 ∧ 17 ≤ 31 := by decide
theorem r19 : 1 ≤ 19 ∧ 19 ≤ 31 := by decide
theorem r7 : 1 ≤ 7 ∧ 7 ≤ 31 := by decide
theorem r18 : 1 ≤ 18 ∧ 18 ≤ 31 := by decide
theorem U_shr10' (x : Sha.W) : U x / (1024 : Int) = U (x >>> 10) := U_shr x 10
theorem U_shr3' (x : Sha.W) : U x / (8 : Int) = U (x >>> 3) := U_shr x 3
theorem byte_word (b : UInt8) : (b.toNat : Int) % 4294967296 = U (Sha.bw b) := by
  rw [U_bw]; have := b.toNat_lt; omega
theorem word_eq (B : List UInt8) (t : Nat) (x0 x1 x2 x3 : UInt8) (h : B.getD (4 * t) 0 = x0 ∧ B.getD (4 * t + 1) 0 = x1 ∧ B.getD (4 * t + 2) 0 = x2 ∧ B.getD (4 * t + 3) 0 = x3) :
    bits BinOp.or IntKind.u32 (bits BinOp.or IntKind.u32 (bits BinOp.or IntKind.u32 ((x0.toNat : Int) % 4294967296 * 16777216 % 4294967296) ((x1.toNat : Int) % 4294967296 * 65536 % 4294967296))
      ((x2.toNat : Int) % 4294967296 * 256 % 4294967296)) ((x3.toNat : Int) % 4294967296) = U (Sha.word B t) := by
  obtain ⟨rfl, rfl, rfl, rfl⟩ := h
  simp only [byte_word]
  rw [show (16777216 : Int) = 2 ^ 24 from rfl, show (65536 : Int) = 2 ^ 16 from rfl, show (256 : Int) = 2 ^ 8 from rfl, U_shl, U_shl, U_shl, U_or, U_or, U_or]
  rfl

set_option maxRecDepth 100000 in
set_option maxHeartbeats 1000000 in
theorem spread_any (B : List UInt8) (_hB : B.length = 64) (g off : Nat) (w : World)
    (hc : ∀ j, j < 64 → w.cell? ⟨g, off + j, none⟩ = some (.int .u8 ((B.getD j 0).toNat : Int))) :
    Calls Try.prog 117 #[.pointer (some ⟨g, off, none⟩)] w fun e w' => e = .returned (.agg (uv (Sha.ws B 64))) ∧ Below w.heap.size w w' := by
  have hg : g < w.heap.size := World.block_lt_of_cell? w _ (hc 0 (by omega))
  have HC := hide hc
  clear hc
  obtain ⟨N, hN⟩ : ∃ N, N = w.heap.size := ⟨_, rfl⟩
  have HN := hide hN
  clear hN
  go_enter Try.func117, Try.ntmps117
  go_step
  go_step
  apply wp_region_lit
  refine wpList_value (o := ⟨some 2, _, _, _, _, _⟩) rfl (.pointer (some ⟨N, 0, none⟩)) (w.alloc (.cells uz 216)) (by rw [HN.out]; kernel_rfl) ?_
  dsimp only [Act.put, List.setIfInBounds_toArray, List.set_cons_zero, List.set_cons_succ]
  obtain ⟨w1, hw1⟩ : ∃ w1, w1 = w.alloc (.cells uz 216) := ⟨_, rfl⟩
  rw [← hw1]
  have hb0 : Blk w1 N 216 (uv (wz B 0)) := by rw [hw1, HN.out]; exact Blk.new _ _ _
  have hb1 : Below N w w1 := by rw [hw1, HN.out]; exact (Below.refl _ _).alloc (Nat.le_refl _) _
  clear hw1
  go_wp2
  go_loopw [7] (fun i wr => ∃ t : Nat, t ≤ 64 ∧ i = .int .i64 t ∧ Blk wr N 216 (uv (wz B t)) ∧ Below N w wr) (fun i _ => 64 - (intOf i).toNat)
  case atStart => exact ⟨0, by omega, rfl, hb0, hb1⟩
  case round =>
    obtain ⟨t, ht, rfl, hbk, hbel⟩ := hrel
    clear hb0 hb1
    by_cases h64 : t < 64
    · by_cases h16 : t < 16
      · have hcell : ∀ j, j < 64 → wr.cell? ⟨g, off + j, none⟩ = some (.int .u8 ((B.getD j 0).toNat : Int)) := fun j hj => (hbel.cell (by rw [HN.out]; exact hg)).trans (HC.out j hj)
        have c0 := hcell (4 * t) (by omega)
        have c1 := hcell (4 * t + 1) (by omega)
        have c2 := hcell (4 * t + 2) (by omega)
        have c3 := hcell (4 * t + 3) (by omega)
        clear hcell
        have cN := hbk.cell t
        rw [uv_get _ _ (by rw [length_wz _ _ ht]; omega)] at cN
        have fN := hbk.frozen t
        generalize hx0 : B.getD (4 * t) 0 = x0 at *
        generalize hx1 : B.getD (4 * t + 1) 0 = x1 at *
        generalize hx2 : B.getD (4 * t + 2) 0 = x2 at *
        generalize hx3 : B.getD (4 * t + 3) 0 = x3 at *
        have HX := hide (And.intro hx0 (And.intro hx1 (And.intro hx2 hx3)))
        clear hx0 hx1 hx2 hx3
        have HB := hide hbk
        clear hbk
        go_wp2_with fail
        refine wp_quiet_tail_drewN 35 (by kernel_rfl) (by kernel_rfl) ?_
        simp only [List.take_succ_cons, List.take_zero, List.drop_succ_cons, List.drop_zero]
        repeat (go_big_quiet_step (fail))
        refine wpQuiet_nil ?_
        intro nq
        go_wp2
        go_roundw
        case rel =>
          refine ⟨t + 1, by omega, by go_num, ?_, ?_⟩
          · rw [word_eq B t x0 x1 x2 x3 HX.out]
            have := (HB.out.drewN nq).set_ t (.int .u32 (U (Sha.word B t)))
            rwa [uv_set, wz_step B t _ h64 (by simp [Sha.ws, h16])] at this
          · exact (below_drewN hbel nq).setCell (Nat.le_refl _) _
        case measure => simp [intOf]; omega
      · have hl := length_wz B t ht
        have hcell : ∀ j, j < t → wr.cell? ⟨N, j, none⟩ = some (.int .u32 (U ((Sha.ws B t).getD j 0))) := fun j hj => by
          rw [hbk.cell, uv_get _ _ (by omega), wz_get _ _ _ hj]
        have c2 := hcell (t - 2) (by omega)
        have c15 := hcell (t - 15) (by omega)
        have c7 := hcell (t - 7) (by omega)
        have c16 := hcell (t - 16) (by omega)
        clear hcell
        obtain ⟨v0, hv0⟩ : ∃ v0, v0 = Value.int .u32 (U ((wz B t).getD t 0)) := ⟨_, rfl⟩
        have cN := hbk.cell t
        rw [uv_get _ _ (by rw [hl]; omega), ← hv0] at cN
        clear hv0
        have fN := hbk.frozen t
        have hsz : N < wr.heap.size := hbk.lt
        generalize hx2 : (Sha.ws B t).getD (t - 2) 0 = x2 at *
        generalize hx15 : (Sha.ws B t).getD (t - 15) 0 = x15 at *
        generalize hx7 : (Sha.ws B t).getD (t - 7) 0 = x7 at *
        generalize hx16 : (Sha.ws B t).getD (t - 16) 0 = x16 at *
        have HX := hide (And.intro hx2 (And.intro hx15 (And.intro hx7 hx16)))
        clear hx2 hx15 hx7 hx16 hl
        have HB := hide hbk
        clear hbk
        go_wp2_with fail
        go_quiet (fail)
        have n1 : (0 : Int) ≤ (t : Int) := by omega
        have n2 : (t : Int) < 64 := by omega
        have n3 : (0 : Int) ≤ (t : Int) - 7 := by omega
        have n4 : (t : Int) - 7 < 64 := by omega
        have n5 : (0 : Int) ≤ (t : Int) - 16 := by omega
        have n6 : (t : Int) - 16 < 64 := by omega
        have m7 : IntKind.i64.wrap ((t : Int) - 7) = (t : Int) - 7 := IntWalk.i64_in _ (by omega)
        have m16 : IntKind.i64.wrap ((t : Int) - 16) = (t : Int) - 16 := IntWalk.i64_in _ (by omega)
        have o7 : ((t : Int) - 7).toNat = t - 7 := by omega
        have o16 : ((t : Int) - 16).toNat = t - 16 := by omega
        have n7 : (7 : Int) ≤ (t : Int) := by omega
        have n8 : (16 : Int) ≤ (t : Int) := by omega
        have hfr : ∀ (W : World) (c : Array Value) (ty : TypeId) (p : Addr), (W.alloc (.cells c ty)).frozen? p = W.frozen? p := frozen?_alloc_cells
        have hcl : ∀ (k : Nat) (c : Array Value) (ty : TypeId), ((wr.drewN k).alloc (.cells c ty)).cell? ⟨N, t, none⟩ = some v0 := fun k c ty => (World.cell?_alloc_lt _ _ _ hsz).trans cN
        have hsz1 : N < wr.heap.size + 1 := by omega
        have hz1 : ∀ k, N < (wr.drewN k).heap.size := fun _ => hsz
        have hz2 : ∀ k, N < (wr.drewN k).heap.size + 1 := fun _ => hsz1
        have hk : ∀ (j k : Nat) (c c' : Array Value) (ty ty' : TypeId) (v u : Value), j ≠ t → wr.cell? ⟨N, j, none⟩ = some u → ((((wr.drewN k).alloc (.cells c ty)).setCell ⟨N, t, none⟩ v).alloc (.cells c' ty')).cell? ⟨N, j, none⟩ = some u := by
          intro j k c c' ty ty' v u hj hu
          rw [World.cell?_alloc_lt _ _ _ (by simp [World.setCell]; omega), World.cell?_setCell_other _ _ _ _ (by intro h; injection h with _ h2; exact hj h2.symm), World.cell?_alloc_lt _ _ _ hsz]
          exact hu
        have hk7 := fun k c c' ty ty' v => hk (t - 7) k c c' ty ty' v _ (by omega) c7
        have hk16 := fun k c c' ty ty' v => hk (t - 16) k c c' ty ty' v _ (by omega) c16
        clear hk
        have a1 := U_xor (Sha.mix x2 [17, 19]) (x2 >>> 10)
        have a2 := U_xor (Sha.mix x15 [7, 18]) (x15 >>> 3)
        have a3 := U_shr10' x2
        have a4 := U_shr3' x15
        go_wp2_with fail
        go_region_held3 (fun w' => w'.cell? ⟨N, t - 7, none⟩ = some (.int .u32 (U x7)) ∧ w'.cell? ⟨N, t - 16, none⟩ = some (.int .u32 (U x16))) (go_keep)
          (first
            | (go_at_call 118; (with_reducible refine (mixed2_any x2 17 19 r17 r19 _ _ _ ?_ ?_).mono ?_); (focus (simp [cell_alloc])); (focus (simp [cell_alloc])); rintro e w' ⟨rfl, rfl⟩)
            | (go_at_call 118; (with_reducible refine (mixed2_any x15 7 18 r7 r18 _ _ _ ?_ ?_).mono ?_); (focus (simp [cell_alloc])); (focus (simp [cell_alloc])); rintro e w' ⟨rfl, rfl⟩))
        go_wp2
        all_goals
          go_roundw
          case rel =>
            obtain ⟨g2, g15, g7, g16⟩ := HX.out
            refine ⟨t + 1, by omega, by go_num, ?_, ?_⟩
            · rw [U_add', U_add', U_add']
              rw [← wz_step B t _ h64 (by rw [Sha.ws, if_neg h16, g2, g15, g7, g16]), ← uv_set]
              exact Blk.alloc (((HB.out.drewN _).alloc _).set_ t _) _
            · refine Below.alloc (Below.setCell (Below.alloc (below_drewN hbel _) ?_ _) (Nat.le_refl _) _) ?_ _
              · simp; omega
              · simp [World.setCell]; omega
          case measure => simp [intOf]; omega
    · obtain rfl : t = 64 := by omega
      have hsz : (Try.prog.info? 216).map (·.size) = some (uv (wz B 64)).size := by rw [uv_size, length_wz B 64 (Nat.le_refl _)]; exact size147
      have HK := hide hbk
      clear hbk
      go_wp2_with (first
        | ((with_reducible refine wpList_load_blk (o := ⟨some 83, _, _, _, _, _⟩) rfl 216 (.tmp 2) rfl N 216 (uv (wz B 64)) _ _ HK.out Try.underlying216 hsz ?_ ?_); rfl; dsimp only [Act.put, List.setIfInBounds_toArray, List.set_cons_zero, List.set_cons_succ])
        | ((with_reducible refine wpList_store_blk (o := ⟨none, _, _, _, _, _⟩) rfl 216 (.tmp 2) (.tmp 83) rfl N (uv (wz B 64)) (uv (wz B 64)) 216 HK.out hsz rfl (uv_one _) ?_ ?_ ?_); rfl; rfl; dsimp only [Act.put]))
      have e : wz B 64 = Sha.ws B 64 := by simp [wz]
      refine bodyPost_ret (results_cell_blk rfl _ _ N 216 (uv (wz B 64)) _ _ rfl (Blk.setRow_ HK.out _) Try.underlying216 hsz) rfl ⟨by rw [e], ?_⟩
      have h2 := below_setRow' hbel (Nat.le_refl _) (uv (wz B 64))
      have e2 := HN.out
      rw [← e2]
      exact h2
end Go.Proofs.Ytjmenaplgndnnaa
