/- The walk of a digest's fold. -/
import Derived.Test.YtjmenaplgndnnaaShaF
import Derived.Test.YtjmenaplgndnnaaBase3
namespace Go.Proofs.Ytjmenaplgndnnaa
open Go.RowKit
theorem size34 : (Try.prog.info? 57).map (·.size) = some 20 := by kernel_rfl
/-- a digest, folded: of its first i bytes -/
def fold (l : List UInt8) : Nat → List UInt8
  | 0 => List.replicate 20 0
  | i + 1 => (fold l i).set (i % 20) ((fold l i).getD (i % 20) 0 ^^^ l.getD i 0)
theorem length_fold (l : List UInt8) (i : Nat) : (fold l i).length = 20 := by induction i with | zero => rfl | succ i ih => simp [fold, ih]

theorem bv_get (l : List UInt8) (i : Nat) (h : i < l.length) : (bv l).toArray[i]? = some (.int .u8 ((l.getD i 0).toNat : Int)) := by
  simp [bv, List.getD, h]
theorem bv_set (l : List UInt8) (i : Nat) (x : UInt8) : (bv l).toArray.setIfInBounds i (.int .u8 (x.toNat : Int)) = (bv (l.set i x)).toArray := by
  simp [bv, List.map_set]
set_option maxRecDepth 100000 in
set_option maxHeartbeats 1000000 in
theorem fold_any (l : List UInt8) (hl : l.length = 32) (w : World) :
    Calls Try.prog 29 #[.agg (bv l).toArray] w fun e w' => e = .returned (.agg (bv (fold l 32)).toArray) ∧ Below w.heap.size w w' := by
  have h0 : Blk (w.alloc (.cells (bv l).toArray 53)) w.heap.size 53 (bv l).toArray := Blk.new _ _ _
  have hsl : (Try.prog.info? 53).map (·.size) = some (bv l).toArray.size := by rw [List.size_toArray, bv, List.length_map, hl]; kernel_rfl
  obtain ⟨L, hL⟩ : ∃ L, L = (bv l).toArray := ⟨_, rfl⟩
  rw [← hL] at h0 hsl ⊢
  have HL := hide hL
  have H0 := hide h0
  clear hL h0
  go_enter Try.func29, Try.ntmps29
  go_wp2_with (with_reducible refine wpList_load_blk (o := ⟨some 5, _, _, _, _, _⟩) rfl 53 (.tmp 1) rfl w.heap.size 53 L _ _ (H0.out.alloc _) Try.underlying53 hsl ?_ ?_); rfl
  obtain ⟨R, hR⟩ : ∃ R, R = w.heap.size + 1 := ⟨_, rfl⟩
  have hz : Blk ((w.alloc (.cells L 53)).alloc (.cells (bv (fold l 0)).toArray 57)) R 57 (bv (fold l 0)).toArray := by rw [hR]; exact Blk.new1 _ _ _ _
  have hbz : Below w.heap.size w ((w.alloc (.cells L 53)).alloc (.cells (bv (fold l 0)).toArray 57)) := ((Below.refl _ _).alloc (Nat.le_refl _) _).alloc (by rw [size_alloc]; omega) _
  rw [← hR]
  have HZ := hide hz
  have HR := hide hR
  have HBZ := hide hbz
  clear hz hR hbz
  go_loopw [6] (fun v wr => ∃ i : Nat, i ≤ 32 ∧ v = .int .i64 (i : Int) ∧ Blk wr R 57 (bv (fold l i)).toArray ∧ Below w.heap.size w wr) (fun v _ => (32 - intOf v).toNat)
  case atStart => exact ⟨0, by omega, rfl, HZ.out, HBZ.out⟩
  case round =>
    obtain ⟨i, hi, rfl, hb, hbl⟩ := hrel
    have hRw : w.heap.size ≤ R := by have := HR.out; omega
    by_cases h32 : i < 32
    · obtain ⟨q, hq⟩ : ∃ q, q = i % 20 := ⟨_, rfl⟩
      have hqi : (i : Int) % 20 = (q : Int) := by omega
      have hq2 : q < 20 := by omega
      obtain ⟨x, hx⟩ : ∃ x, x = l.getD i 0 := ⟨_, rfl⟩
      obtain ⟨y, hy⟩ : ∃ y, y = (fold l i).getD q 0 := ⟨_, rfl⟩
      have hix : ∀ W, (Instr.index 53 (.agg L) (.int .i64 (i : Int))).run Try.prog W = .ok (.int .u8 (x.toNat : Int)) W :=
        run_index_int 53 5 32 .u8 Try.underlying53 Try.underlying5 size5 L i h32 _ (by rw [HL.out, hx, bv_get _ _ (by omega)])
      have cq : wr.cell? ⟨R, q, none⟩ = some (.int .u8 (y.toNat : Int)) := by rw [hb.cell, bv_get _ _ (by rw [length_fold]; omega), hy]
      have fq := hb.frozen q
      have hxy : bits .xor .u8 (y.toNat : Int) (x.toNat : Int) = ((y ^^^ x).toNat : Int) := by
        rw [u8_xor_nat _ _ y.toNat_lt x.toNat_lt, UInt8.toNat_xor]
      have HB := hide hb
      have HQ := hide (And.intro hq (And.intro hx hy))
      clear hb hq hx hy
      obtain ⟨z, hz⟩ : ∃ z, z = y ^^^ x := ⟨_, rfl⟩
      rw [← hz] at hxy
      have HZ2 := hide hz
      clear hz
      go_wp2_with fail
      go_roundw
      case rel =>
        refine ⟨i + 1, by omega, by go_num, ?_, hbl.setCell hRw _⟩
        have h3 := HB.out.set_ q (.int .u8 (z.toNat : Int))
        rw [bv_set] at h3
        have e : fold l (i + 1) = (fold l i).set q z := by rw [fold, HZ2.out, HQ.out.1, HQ.out.2.1, HQ.out.2.2, HQ.out.1]
        rw [e]
        exact h3
      case measure => simp [intOf]; omega
    · obtain rfl : i = 32 := by omega
      have hsz : (Try.prog.info? 57).map (·.size) = some (bv (fold l 32)).toArray.size := by rw [List.size_toArray, bv, List.length_map, length_fold]; exact size34
      have HK := hide hb
      clear hb
      go_wp2_with (first
        | ((with_reducible refine wpList_load_blk (o := ⟨some 18, _, _, _, _, _⟩) rfl 57 (.tmp 2) rfl R 57 (bv (fold l 32)).toArray _ _ HK.out Try.underlying57 hsz ?_ ?_); rfl; dsimp only [Act.put, List.setIfInBounds_toArray, List.set_cons_zero, List.set_cons_succ])
        | ((with_reducible refine wpList_store_blkA (o := ⟨none, _, _, _, _, _⟩) rfl 57 (.tmp 2) (.tmp 18) rfl R (bv (fold l 32)).toArray (bv (fold l 32)).toArray 57 HK.out hsz rfl (bv_one _) ?_ ?_ ?_); rfl; rfl; intro w9 h9 hg9; dsimp only [Act.put]))
      refine bodyPost_ret (results_cell_blk rfl _ _ R 57 (bv (fold l 32)).toArray _ _ rfl h9 Try.underlying57 hsz) rfl ⟨rfl, ?_⟩
      refine hbl.grown hg9 hbl.size ?_
      intro k hk; injection hk with hk; omega
end Go.Proofs.Ytjmenaplgndnnaa
