/- The walk of a sponge's end: what stands behind the bytes, and the digest. -/
import Derived.Test.YtjmenaplgndnnaaShaD
namespace Go.Proofs.Ytjmenaplgndnnaa
open Go.RowKit
theorem size27 : (Try.prog.info? 53).map (·.size) = some 32 := by kernel_rfl
def z32 : Array Value := (bv (List.replicate 32 0)).toArray

theorem Spg.many {w : World} {g T : Nat} {c : List UInt8} (h : Spg w g T c) : w.cell? ⟨g, 72, none⟩ = some (.int .u64 ((c.length : Nat) : Int)) := by
  obtain ⟨s, B, hsp, hb⟩ := h
  exact (hb.cell 72).trans (sp_many _ _ _ rfl hsp.len)
theorem Spg.lt {w : World} {g T : Nat} {c : List UInt8} (h : Spg w g T c) : g < w.heap.size := by
  obtain ⟨s, B, hsp, hb⟩ := h
  exact hb.lt
theorem Spg.alloc {w : World} {g T : Nat} {c : List UInt8} (h : Spg w g T c) (o : Obj) : Spg (w.alloc o) g T c := by
  obtain ⟨s, B, hsp, hb⟩ := h
  exact ⟨s, B, hsp, hb.alloc o⟩
/-- one byte of the call's own, taken -/
theorem take_one (x : UInt8) (c : List UInt8) (hcl : c.length + 1 ≤ 1099511627776) (g T : Nat) (w : World) (hg : Spg w g T c) (z : Int) (hz : z = (x.toNat : Int)) :
    Calls Try.prog 59 #[.pointer (some ⟨g, 0, none⟩), .slice (some ⟨w.heap.size, 0, none⟩) 1 1] (w.alloc (.cells #[.int .u8 z] 5)) fun e w' => e = .returned (.tuple #[]) ∧ Spg w' g T (c ++ [x]) ∧ w.grownBy w' (some g) := by
  subst hz
  refine (take_any [x] c hcl g T _ w.heap.size 0 1 (by simp) (fun _ => rfl) (by have := hg.lt; omega) _ (fun j hj => ?_) (hg.alloc _)).mono ?_
  · have : j = 0 := by simp at hj; omega
    subst this
    exact (Blk.new w 5 _).cell 0
  · rintro e w' ⟨rfl, h1, h2⟩
    exact ⟨rfl, h1, only_trans (World.grownBy_alloc w _ _) h2⟩

theorem be_byte (m i : Nat) : (m : Int) * 8 / 2 ^ (56 - 8 * i) % 256 = ((UInt8.ofNat (8 * m / 2 ^ (56 - 8 * i))).toNat : Int) := by
  have e : (UInt8.ofNat (8 * m / 2 ^ (56 - 8 * i))).toNat = 8 * m / 2 ^ (56 - 8 * i) % 256 := by simp
  rw [e, Int.natCast_emod, Int.natCast_ediv, Int.natCast_mul, Int.natCast_pow, Int.mul_comm]
  rfl
theorem be_step (n i : Nat) (h : i < 8) : (Sha.be n).take (i + 1) = (Sha.be n).take i ++ [UInt8.ofNat (n / 2 ^ (56 - 8 * i))] := by
  match i, h with
  | 0, _ => rfl
  | 1, _ => rfl
  | 2, _ => rfl
  | 3, _ => rfl
  | 4, _ => rfl
  | 5, _ => rfl
  | 6, _ => rfl
  | 7, _ => simp [Sha.be]
/-- the digest's bytes so far, and noughts -/
def ov (st : Sha.St) (i : Nat) : Array Value := (bv ((Sha.out st).take i ++ List.replicate (32 - i) 0)).toArray
theorem length_out (st : Sha.St) : (Sha.out st).length = 32 := by simp [Sha.out]
theorem ov_get (st : Sha.St) (i : Nat) (h : i < 32) : (ov st i)[i]? = some (.int .u8 0) := by
  have h2 : ((Sha.out st).take i).length = i := by rw [List.length_take, length_out]; omega
  simp only [ov, bv, List.getElem?_toArray, List.getElem?_map]
  rw [List.getElem?_append_right (by omega), h2, Nat.sub_self, show 32 - i = (31 - i) + 1 by omega, List.replicate_succ]
  rfl
theorem ov_set (st : Sha.St) (i : Nat) (h : i < 32) : (ov st i).setIfInBounds i (.int .u8 (((Sha.out st).getD i 0).toNat : Int)) = ov st (i + 1) := by
  have h2 : ((Sha.out st).take i).length = i := by rw [List.length_take, length_out]; omega
  have h3 : i < (Sha.out st).length := by rw [length_out]; exact h
  have e : (bv ((Sha.out st).take i ++ List.replicate (32 - i) 0)).set i (.int .u8 (((Sha.out st).getD i 0).toNat : Int)) = bv (((Sha.out st).take i ++ List.replicate (32 - i) 0).set i ((Sha.out st).getD i 0)) := by
    simp only [bv, List.map_set]
  simp only [ov, List.setIfInBounds_toArray]
  rw [e, List.set_append_right _ _ (by omega), h2, Nat.sub_self, show 32 - i = (32 - (i + 1)) + 1 by omega, List.replicate_succ, List.set_cons_zero, List.take_succ_eq_append_getElem h3, List.append_assoc]
  simp [List.getD, h3]
theorem and3 (i : Nat) (h : i < 32) : bits .and .i64 (i : Int) 3 = ((i % 4 : Nat) : Int) := by
  have h1 : ∀ j : Nat, j < 32 → bits .and .i64 (j : Int) 3 = ((j % 4 : Nat) : Int) := by decide +kernel
  exact h1 i h
theorem out_byte (st : Sha.St) (i : Nat) (x : Sha.W) (p r : Nat) (h : i < 32) (hx : x = st.list.getD p 0 ∧ p = i / 4 ∧ r = i % 4) : U x / 2 ^ (24 - r * 8) % 256 = (((Sha.out st).getD i 0).toNat : Int) := by
  obtain ⟨rfl, rfl, rfl⟩ := hx
  rw [U_shr]
  have e : (Sha.out st).getD i 0 = UInt8.ofNat (((st.list.getD (i / 4) 0) >>> (24 - i % 4 * 8)).toNat % 256) := by simp [Sha.out, List.getD, h]
  rw [e]
  generalize (st.list.getD (i / 4) 0) >>> (24 - i % 4 * 8) = y
  unfold U
  have e2 : (UInt8.ofNat (y.toNat % 256)).toNat = y.toNat % 256 := by simp
  rw [e2]
  omega
theorem bv_one (l : List UInt8) : (bv l).toArray.all (·.oneCell') = true := by
  rw [Array.all_eq_true_iff_forall_mem]; intro v hv; simp [bv] at hv; obtain ⟨x, _, rfl⟩ := hv; rfl
theorem only_new {a b c : World} {row : Option Nat} {R : Nat} (h : a.grownBy b row) (k : b.grownBy c (some R)) (hR : a.heap.size ≤ R) : a.grownBy c row :=
  ⟨k.os.trans h.os, k.tape.trans h.tape, k.output.trans h.output, Nat.le_trans h.size k.size, fun i hi hne => (k.block i (Nat.lt_of_lt_of_le hi h.size) (by intro e; injection e with e; omega)).trans (h.block i hi hne)⟩
def manyOf (w : World) (g : Nat) : Nat := match w.cell? ⟨g, 72, none⟩ with | some (.int _ n) => n.toNat | _ => 0
theorem Spg.manyOf {w : World} {g T : Nat} {c : List UInt8} (h : Spg w g T c) : manyOf w g = c.length := by unfold Ytjmenaplgndnnaa.manyOf; rw [h.many]; simp

set_option maxRecDepth 100000 in
set_option maxHeartbeats 1000000 in
theorem end_any (c : List UInt8) (hcl : c.length ≤ 1099511627000) (g T : Nat) (w : World) (hg : Spg w g T c) :
    Calls Try.prog 60 #[.pointer (some ⟨g, 0, none⟩)] w fun e w' => e = .returned (.agg (bv (Sha.sum c)).toArray) ∧ w.grownBy w' (some g) := by
  have hlt := hg.lt
  obtain ⟨R, hR⟩ : ∃ R, R = w.heap.size := ⟨_, rfl⟩
  have HG := hide hg
  have HR := hide hR
  clear hR hg
  go_enter Try.func60, Try.ntmps60
  go_step
  go_step
  apply wp_region_lit
  refine wpList_value (o := ⟨some 2, _, _, _, _, _⟩) rfl (.pointer (some ⟨R, 0, none⟩)) (w.alloc (.cells z32 53)) (by rw [HR.out]; kernel_rfl) ?_
  dsimp only [Act.put, List.setIfInBounds_toArray, List.set_cons_zero, List.set_cons_succ]
  obtain ⟨w1, hw1⟩ : ∃ w1, w1 = w.alloc (.cells z32 53) := ⟨_, rfl⟩
  have hb1 : Blk w1 R 53 z32 := by rw [hw1, HR.out]; exact Blk.new _ _ _
  have hg1 : Spg w1 g T c := by rw [hw1]; exact HG.out.alloc _
  have hgr1 : w.grownBy w1 (some g) := by rw [hw1]; exact World.grownBy_alloc w _ _
  rw [← hw1]
  clear hw1
  have cm := hg1.many
  obtain ⟨m, hm⟩ : ∃ m, m = c.length := ⟨_, rfl⟩
  rw [← hm] at cm
  have hm1 : m ≤ 1099511627000 := by omega
  have HM := hide hm
  have HB1 := hide hb1
  have HG1 := hide hg1
  clear hm hb1 hg1
  go_wp2_with (go_at_call 59; refine (take_one 128 c (by rw [← HM.out]; omega) g T _ HG1.out 128 rfl).mono ?_; rintro e w2 ⟨rfl, hg2, hgr2⟩)
  have HG2 := hide hg2
  clear hg2
  have hR2 : R < w1.heap.size := HB1.out.lt
  have hRg : R ≠ g := by have := HR.out; omega
  have hkR : ∀ W, w1.grownBy W (some g) → Blk W R 53 z32 := fun W h => HB1.out.grown h (by intro e; injection e with e; exact hRg e)
  have HKR := hide hkR
  clear hkR
  go_loopw [14] (fun _ wr => ∃ j : Nat, j ≤ Sha.noughts c.length ∧ Spg wr g T (c ++ [128] ++ List.replicate j 0) ∧ w1.grownBy wr (some g)) (fun _ wr => 1099511627776 - manyOf wr g)
  case atStart => exact ⟨0, by omega, by simpa using HG2.out, hgr2⟩
  case round =>
    obtain ⟨j, hj, hgj, hgrj⟩ := hrel
    have hlen : (c ++ [128] ++ List.replicate j 0).length = m + 1 + j := by have := HM.out; simp; omega
    have hno : Sha.noughts c.length = (119 - m % 64) % 64 := by rw [Sha.noughts, HM.out]
    obtain ⟨q, hq⟩ : ∃ q, q = m + 1 + j := ⟨_, rfl⟩
    have cm2 := hgj.many
    rw [hlen, ← hq] at cm2
    have hmo := hgj.manyOf
    rw [hlen, ← hq] at hmo
    have HMO := hide hmo
    have HLEN := hide hlen
    have HNO := hide hno
    have HGJ := hide hgj
    have HQ := hide hq
    have hqb : q ≤ 1099511627200 := by have := HNO.out; omega
    clear hmo hlen hno hgj hq
    by_cases h56 : q % 64 = 56
    · have h56' : (q : Int) % 64 = 56 := by omega
      go_wp2_with fail
      have hjn : j = Sha.noughts c.length := by have := HNO.out; have := HQ.out; omega
      have HJN := hide hjn
      clear hjn h56' h56
      go_loopw [4] (fun v wq => ∃ i : Nat, i ≤ 8 ∧ v = .int .i64 (56 - 8 * (i : Int)) ∧ Spg wq g T (c ++ [128] ++ List.replicate j 0 ++ (Sha.be (8 * m)).take i) ∧ w1.grownBy wq (some g)) (fun v _ => (intOf v + 8).toNat)
      case atStart => exact ⟨0, by omega, rfl, by simpa using HGJ.out, hgrj⟩
      case round =>
        obtain ⟨i, hi, rfl, hgi, hgri⟩ := hrel
        by_cases h8 : i < 8
        · have n1 : (0 : Int) ≤ 56 - 8 * (i : Int) := by omega
          go_wp2_with (go_at_call 59; refine (take_one (UInt8.ofNat (8 * m / 2 ^ (56 - 8 * i))) _ (by rw [List.length_append, HLEN.out, ← HQ.out, List.length_take]; omega) g T _ hgi _ (be_byte m i)).mono ?_; rintro e w3 ⟨rfl, hg3, hgr3⟩)
          go_roundw
          case rel =>
            refine ⟨i + 1, by omega, by go_num, ?_, only_trans hgri hgr3⟩
            rw [be_step (8 * m) i h8, ← List.append_assoc]
            exact hg3
          case measure => simp [intOf]; omega
        · obtain rfl : i = 8 := by omega
          have n1 : ¬ (0 : Int) ≤ 56 - 8 * ((8 : Nat) : Int) := by omega
          have hpad : c ++ [128] ++ List.replicate j 0 ++ (Sha.be (8 * m)).take 8 = Sha.pad c := by rw [List.take_of_length_le (by simp [Sha.be]), HJN.out, HM.out]; rfl
          rw [hpad] at hgi
          obtain ⟨st, B, hsp, hb⟩ := hgi
          have hst := hsp.st
          have HST := hide hst
          have HB := hide hb
          have hRB := HKR.out _ hgri
          have HRB := hide hRB
          clear hst hb hpad hRB
          go_wp2_with fail
          go_loopw [34] (fun v wz => ∃ i : Nat, i ≤ 32 ∧ v = .int .i64 (i : Int) ∧ Blk wz R 53 (ov st i) ∧ wr.grownBy wz (some R)) (fun v _ => (32 - intOf v).toNat)
          case atStart => exact ⟨0, by omega, rfl, HRB.out, World.grownBy.refl _ _⟩
          case round =>
            obtain ⟨i, hi, rfl, hri, hgz⟩ := hrel
            by_cases h32 : i < 32
            · obtain ⟨p, hp⟩ : ∃ p, p = i / 4 := ⟨_, rfl⟩
              obtain ⟨r, hr⟩ : ∃ r, r = i % 4 := ⟨_, rfl⟩
              have hp4 : (i : Int) / 4 = (p : Int) := by omega
              have hr4 : bits .and .i64 (i : Int) 3 = (r : Int) := by rw [hr]; exact and3 i h32
              have hp8 : p < 8 := by omega
              have hr3 : r ≤ 3 := by omega
              have cp := ((HB.out.grown hgz (by intro e; injection e with e; exact hRg e.symm)).cell p).trans (sp_word _ _ _ p rfl hp8)
              have cR := hri.cell i
              rw [ov_get st i h32] at cR
              have fR := hri.frozen i
              obtain ⟨x, hx⟩ : ∃ x, x = st.list.getD p 0 := ⟨_, rfl⟩
              rw [← hx] at cp
              have HX := hide (And.intro hx (And.intro hp hr))
              have HRI := hide hri
              clear hx hp hr hri
              go_wp2_with fail
              go_roundw
              case rel =>
                refine ⟨i + 1, by omega, by go_num, ?_, only_setCell hgz (.inl rfl) _⟩
                have h3 := HRI.out.set_ i (.int .u8 (((Sha.out st).getD i 0).toNat : Int))
                rw [ov_set st i h32] at h3
                rw [out_byte st i x p r h32 HX.out]
                exact h3
              case measure => simp [intOf]; omega
            · obtain rfl : i = 32 := by omega
              have e32 : ov st 32 = (bv (Sha.out st)).toArray := by unfold ov; rw [List.take_of_length_le (by rw [length_out]; exact Nat.le_refl _)]; simp
              rw [e32] at hri
              have hsz : (Try.prog.info? 53).map (·.size) = some (bv (Sha.out st)).toArray.size := by rw [List.size_toArray, bv, List.length_map, length_out]; exact size27
              have HK := hide hri
              clear hri
              go_wp2_with (first
                | ((with_reducible refine wpList_load_blk (o := ⟨some 53, _, _, _, _, _⟩) rfl 53 (.tmp 2) rfl R 53 (bv (Sha.out st)).toArray _ _ HK.out Try.underlying53 hsz ?_ ?_); rfl; dsimp only [Act.put, List.setIfInBounds_toArray, List.set_cons_zero, List.set_cons_succ])
                | ((with_reducible refine wpList_store_blkA (o := ⟨none, _, _, _, _, _⟩) rfl 53 (.tmp 2) (.tmp 53) rfl R (bv (Sha.out st)).toArray (bv (Sha.out st)).toArray 53 HK.out hsz rfl (bv_one _) ?_ ?_ ?_); rfl; rfl; intro w9 h9 hg9; dsimp only [Act.put]))
              refine bodyPost_ret (results_cell_blk rfl _ _ R 53 (bv (Sha.out st)).toArray _ _ rfl h9 Try.underlying53 hsz) rfl ⟨by rw [Sha.sum, ← HST.out], ?_⟩
              have g1 := only_trans hgr1 hgri
              exact only_new g1 (only_trans hgz hg9) (by rw [HR.out]; exact Nat.le_refl _)
    · have h56' : ¬ (q : Int) % 64 = 56 := by omega
      go_wp2_with (go_at_call 59; refine (take_one 0 _ (by rw [HLEN.out, ← HQ.out]; omega) g T _ HGJ.out 0 rfl).mono ?_; rintro e w3 ⟨rfl, hg3, hgr3⟩)
      go_roundw
      case rel =>
        refine ⟨j + 1, ?_, ?_, only_trans hgrj hgr3⟩
        · have := HNO.out; have := HQ.out; omega
        · rw [List.replicate_succ', ← List.append_assoc]; exact hg3
      case measure =>
        rw [HMO.out, hg3.manyOf, List.length_append, HLEN.out, ← HQ.out]
        simp
        omega
end Go.Proofs.Ytjmenaplgndnnaa
