/- The walk of a sponge's end: what stands behind the bytes, and the digest. The walk of bytes' digest: the program's hash.Sum tells what the plain function tells. The walk of a digest's fold. The walks of code.Maker: numbers, bytes, texts are put one behind the other. The walks of code.Maker: a number is put; what was put is told. The walks of code.Maker: what was put is told. spencekit: lists that are lent, with marks behind them. The walks of hash.length and hash.Of. The walk of hash.Of. class.written. A struct built of any parts, the filling given. spencelaw18.item. A slice built of two parts of many cells; a slice that is read out of a block. spencelaw18.awake. spencelaw18.DrvUsers. spencelaw18.DrvNeeds: the plain law; one item more at the end. -/
import Derived.Test.YtidiepbmbbflhaaAt
import Derived.Test.YtidiepbmbbflhaaBytes
import Derived.Test.YtidiepbmbbflhaaMG3
import Derived.Test.YtidiepbmbbflhaaBase3
import Derived.Test.YtidiepbmbbflhaaApp
import Derived.Test.YtidiepbmbbflhaaFreshTail
import Derived.OwnWalk
import Derived.Laws.AppendOwnNone
import Derived.Test.YtidiepbmbbflhaaMG2
import Derived.Test.YtidiepbmbbflhaaBuild
import Derived.Test.YtidiepbmbbflhaaFlat
import Derived.Test.YtidiepbmbbflhaaGrow
section
namespace Go.Proofs.Ytidiepbmbbflhaa
open Go.RowKit
theorem size27 : (Try.prog.info? 92).map (·.size) = some 32 := by kernel_rfl
def z32 : Array Value := (bv (List.replicate 32 0)).toArray

theorem Spg.many {w : World} {g T : Nat} {c : List UInt8} (h : Spg w g T c) : w.cell? ⟨g, 72, none⟩ = some (.int .u64 ((c.length : Nat) : Int)) := by
  obtain ⟨s, B, hsp, hb⟩ := h
  exact (hb.cell 72).trans (sp_many _ _ _ rfl hsp.len)
theorem Spg.lt {w : World} {g T : Nat} {c : List UInt8} (h : Spg w g T c) : g < w.heap.size := by
  obtain ⟨s, B, hsp, hb⟩ := h
  exact hb.lt
theorem Spg.alloc {w : World} {g T : Nat} {c : List UInt8} (h : Spg w g T c) (o : Obj) : Spg (w.alloc o) g T c := by
  obtain ⟨s, B, hsp, hb⟩ := h
  exact ⟨s, B, hsp, hb.alloc o⟩
/-- one byte of the call's own, taken -/
theorem take_one (x : UInt8) (c : List UInt8) (hcl : c.length + 1 ≤ 1099511627776) (g T : Nat) (w : World) (hg : Spg w g T c) (z : Int) (hz : z = (x.toNat : Int)) :
    Calls Try.prog 59 #[.pointer (some ⟨g, 0, none⟩), .slice (some ⟨w.heap.size, 0, none⟩) 1 1] (w.alloc (.cells #[.int .u8 z] 5)) fun e w' => e = .returned (.tuple #[]) ∧ Spg w' g T (c ++ [x]) ∧ w.grownBy w' (some g) := by
  subst hz
  refine (take_any [x] c hcl g T _ w.heap.size 0 1 (by simp) (fun _ => rfl) (by have := hg.lt; omega) _ (fun j hj => ?_) (hg.alloc _)).mono ?_
  · have : j = 0 := by simp at hj; omega
    subst this
    exact (Blk.new w 5 _).cell 0
  · rintro e w' ⟨rfl, h1, h2⟩
    exact ⟨rfl, h1, only_trans (World.grownBy_alloc w _ _) h2⟩

theorem be_byte (m i : Nat) : (m : Int) * 8 / 2 ^ (56 - 8 * i) % 256 = ((UInt8.ofNat (8 * m / 2 ^ (56 - 8 * i))).toNat : Int) := by
  have e : (UInt8.ofNat (8 * m / 2 ^ (56 - 8 * i))).toNat = 8 * m / 2 ^ (56 - 8 * i) % 256 := by simp
  rw [e, Int.natCast_emod, Int.natCast_ediv, Int.natCast_mul, Int.natCast_pow, Int.mul_comm]
  rfl
theorem be_step (n i : Nat) (h : i < 8) : (Sha.be n).take (i + 1) = (Sha.be n).take i ++ [UInt8.ofNat (n / 2 ^ (56 - 8 * i))] := by
  match i, h with
  | 0, _ => rfl
  | 1, _ => rfl
  | 2, _ => rfl
  | 3, _ => rfl
  | 4, _ => rfl
  | 5, _ => rfl
  | 6, _ => rfl
  | 7, _ => simp [Sha.be]
/-- the digest's bytes so far, and noughts -/
def ov (st : Sha.St) (i : Nat) : Array Value := (bv ((Sha.out st).take i ++ List.replicate (32 - i) 0)).toArray
theorem length_out (st : Sha.St) : (Sha.out st).length = 32 := by simp [Sha.out]
theorem ov_get (st : Sha.St) (i : Nat) (h : i < 32) : (ov st i)[i]? = some (.int .u8 0) := by
  have h2 : ((Sha.out st).take i).length = i := by rw [List.length_take, length_out]; omega
  simp only [ov, bv, List.getElem?_toArray, List.getElem?_map]
  rw [List.getElem?_append_right (by omega), h2, Nat.sub_self, show 32 - i = (31 - i) + 1 by omega, List.replicate_succ]
  rfl
theorem ov_set (st : Sha.St) (i : Nat) (h : i < 32) : (ov st i).setIfInBounds i (.int .u8 (((Sha.out st).getD i 0).toNat : Int)) = ov st (i + 1) := by
  have h2 : ((Sha.out st).take i).length = i := by rw [List.length_take, length_out]; omega
  have h3 : i < (Sha.out st).length := by rw [length_out]; exact h
  have e : (bv ((Sha.out st).take i ++ List.replicate (32 - i) 0)).set i (.int .u8 (((Sha.out st).getD i 0).toNat : Int)) = bv (((Sha.out st).take i ++ List.replicate (32 - i) 0).set i ((Sha.out st).getD i 0)) := by
    simp only [bv, List.map_set]
  simp only [ov, List.setIfInBounds_toArray]
  rw [e, List.set_append_right _ _ (by omega), h2, Nat.sub_self, show 32 - i = (32 - (i + 1)) + 1 by omega, List.replicate_succ, List.set_cons_zero, List.take_succ_eq_append_getElem h3, List.append_assoc]
  simp [List.getD, h3]
theorem and3 (i : Nat) (h : i < 32) : bits .and .i64 (i : Int) 3 = ((i % 4 : Nat) : Int) := by
  have h1 : ∀ j : Nat, j < 32 → bits .and .i64 (j : Int) 3 = ((j % 4 : Nat) : Int) := by decide +kernel
  exact h1 i h
theorem out_byte (st : Sha.St) (i : Nat) (x : Sha.W) (p r : Nat) (h : i < 32) (hx : x = st.list.getD p 0 ∧ p = i / 4 ∧ r = i % 4) : U x / 2 ^ (24 - r * 8) % 256 = (((Sha.out st).getD i 0).toNat : Int) := by
  obtain ⟨rfl, rfl, rfl⟩ := hx
  rw [U_shr]
  have e : (Sha.out st).getD i 0 = UInt8.ofNat (((st.list.getD (i / 4) 0) >>> (24 - i % 4 * 8)).toNat % 256) := by simp [Sha.out, List.getD, h]
  rw [e]
  generalize (st.list.getD (i / 4) 0) >>> (24 - i % 4 * 8) = y
  unfold U
  have e2 : (UInt8.ofNat (y.toNat % 256)).toNat = y.toNat % 256 := by simp
  rw [e2]
  omega
theorem only_new {a b c : World} {row : Option Nat} {R : Nat} (h : a.grownBy b row) (k : b.grownBy c (some R)) (hR : a.heap.size ≤ R) : a.grownBy c row :=
  ⟨k.os.trans h.os, k.tape.trans h.tape, k.output.trans h.output, Nat.le_trans h.size k.size, fun i hi hne => (k.block i (Nat.lt_of_lt_of_le hi h.size) (by intro e; injection e with e; omega)).trans (h.block i hi hne)⟩
def manyOf (w : World) (g : Nat) : Nat := match w.cell? ⟨g, 72, none⟩ with | some (.int _ n) => n.toNat | _ => 0
theorem Spg.manyOf {w : World} {g T : Nat} {c : List UInt8} (h : Spg w g T c) : manyOf w g = c.length := by unfold Ytidiepbmbbflhaa.manyOf; rw [h.many]; simp

set_option maxRecDepth 100000 in
set_option maxHeartbeats 1000000 in
theorem end_any (c : List UInt8) (hcl : c.length ≤ 1099511627000) (g T : Nat) (w : World) (hg : Spg w g T c) :
    Calls Try.prog 60 #[.pointer (some ⟨g, 0, none⟩)] w fun e w' => e = .returned (.agg (bv (Sha.sum c)).toArray) ∧ w.grownBy w' (some g) := by
  have hlt := hg.lt
  obtain ⟨R, hR⟩ : ∃ R, R = w.heap.size := ⟨_, rfl⟩
  have HG := hide hg
  have HR := hide hR
  clear hR hg
  go_enter Try.func60, Try.ntmps60
  go_step
  go_step
  apply wp_region_lit
  refine wpList_value (o := ⟨some 2, _, _, _, _, _⟩) rfl (.pointer (some ⟨R, 0, none⟩)) (w.alloc (.cells z32 92)) (by rw [HR.out]; kernel_rfl) ?_
  dsimp only [Act.put, List.setIfInBounds_toArray, List.set_cons_zero, List.set_cons_succ]
  obtain ⟨w1, hw1⟩ : ∃ w1, w1 = w.alloc (.cells z32 92) := ⟨_, rfl⟩
  have hb1 : Blk w1 R 92 z32 := by rw [hw1, HR.out]; exact Blk.new _ _ _
  have hg1 : Spg w1 g T c := by rw [hw1]; exact HG.out.alloc _
  have hgr1 : w.grownBy w1 (some g) := by rw [hw1]; exact World.grownBy_alloc w _ _
  rw [← hw1]
  clear hw1
  have cm := hg1.many
  obtain ⟨m, hm⟩ : ∃ m, m = c.length := ⟨_, rfl⟩
  rw [← hm] at cm
  have hm1 : m ≤ 1099511627000 := by omega
  have HM := hide hm
  have HB1 := hide hb1
  have HG1 := hide hg1
  clear hm hb1 hg1
  go_wp2_with (go_at_call 59; refine (take_one 128 c (by rw [← HM.out]; omega) g T _ HG1.out 128 rfl).mono ?_; rintro e w2 ⟨rfl, hg2, hgr2⟩)
  have HG2 := hide hg2
  clear hg2
  have hR2 : R < w1.heap.size := HB1.out.lt
  have hRg : R ≠ g := by have := HR.out; omega
  have hkR : ∀ W, w1.grownBy W (some g) → Blk W R 92 z32 := fun W h => HB1.out.grown h (by intro e; injection e with e; exact hRg e)
  have HKR := hide hkR
  clear hkR
  go_loopw [14] (fun _ wr => ∃ j : Nat, j ≤ Sha.noughts c.length ∧ Spg wr g T (c ++ [128] ++ List.replicate j 0) ∧ w1.grownBy wr (some g)) (fun _ wr => 1099511627776 - manyOf wr g)
  case atStart => exact ⟨0, by omega, by simpa using HG2.out, hgr2⟩
  case round =>
    obtain ⟨j, hj, hgj, hgrj⟩ := hrel
    have hlen : (c ++ [128] ++ List.replicate j 0).length = m + 1 + j := by have := HM.out; simp; omega
    have hno : Sha.noughts c.length = (119 - m % 64) % 64 := by rw [Sha.noughts, HM.out]
    obtain ⟨q, hq⟩ : ∃ q, q = m + 1 + j := ⟨_, rfl⟩
    have cm2 := hgj.many
    rw [hlen, ← hq] at cm2
    have hmo := hgj.manyOf
    rw [hlen, ← hq] at hmo
    have HMO := hide hmo
    have HLEN := hide hlen
    have HNO := hide hno
    have HGJ := hide hgj
    have HQ := hide hq
    have hqb : q ≤ 1099511627200 := by have := HNO.out; omega
    clear hmo hlen hno hgj hq
    by_cases h56 : q % 64 = 56
    · have h56' : (q : Int) % 64 = 56 := by omega
      go_wp2_with fail
      have hjn : j = Sha.noughts c.length := by have := HNO.out; have := HQ.out; omega
      have HJN := hide hjn
      clear hjn h56' h56
      go_loopw [4] (fun v wq => ∃ i : Nat, i ≤ 8 ∧ v = .int .i64 (56 - 8 * (i : Int)) ∧ Spg wq g T (c ++ [128] ++ List.replicate j 0 ++ (Sha.be (8 * m)).take i) ∧ w1.grownBy wq (some g)) (fun v _ => (intOf v + 8).toNat)
      case atStart => exact ⟨0, by omega, rfl, by simpa using HGJ.out, hgrj⟩
      case round =>
        obtain ⟨i, hi, rfl, hgi, hgri⟩ := hrel
        by_cases h8 : i < 8
        · have n1 : (0 : Int) ≤ 56 - 8 * (i : Int) := by omega
          go_wp2_with (go_at_call 59; refine (take_one (UInt8.ofNat (8 * m / 2 ^ (56 - 8 * i))) _ (by rw [List.length_append, HLEN.out, ← HQ.out, List.length_take]; omega) g T _ hgi _ (be_byte m i)).mono ?_; rintro e w3 ⟨rfl, hg3, hgr3⟩)
          go_roundw
          case rel =>
            refine ⟨i + 1, by omega, by go_num, ?_, only_trans hgri hgr3⟩
            rw [be_step (8 * m) i h8, ← List.append_assoc]
            exact hg3
          case measure => simp [intOf]; omega
        · obtain rfl : i = 8 := by omega
          have n1 : ¬ (0 : Int) ≤ 56 - 8 * ((8 : Nat) : Int) := by omega
          have hpad : c ++ [128] ++ List.replicate j 0 ++ (Sha.be (8 * m)).take 8 = Sha.pad c := by rw [List.take_of_length_le (by simp [Sha.be]), HJN.out, HM.out]; rfl
          rw [hpad] at hgi
          obtain ⟨st, B, hsp, hb⟩ := hgi
          have hst := hsp.st
          have HST := hide hst
          have HB := hide hb
          have hRB := HKR.out _ hgri
          have HRB := hide hRB
          clear hst hb hpad hRB
          go_wp2_with fail
          go_loopw [34] (fun v wz => ∃ i : Nat, i ≤ 32 ∧ v = .int .i64 (i : Int) ∧ Blk wz R 92 (ov st i) ∧ wr.grownBy wz (some R)) (fun v _ => (32 - intOf v).toNat)
          case atStart => exact ⟨0, by omega, rfl, HRB.out, World.grownBy.refl _ _⟩
          case round =>
            obtain ⟨i, hi, rfl, hri, hgz⟩ := hrel
            by_cases h32 : i < 32
            · obtain ⟨p, hp⟩ : ∃ p, p = i / 4 := ⟨_, rfl⟩
              obtain ⟨r, hr⟩ : ∃ r, r = i % 4 := ⟨_, rfl⟩
              have hp4 : (i : Int) / 4 = (p : Int) := by omega
              have hr4 : bits .and .i64 (i : Int) 3 = (r : Int) := by rw [hr]; exact and3 i h32
              have hp8 : p < 8 := by omega
              have hr3 : r ≤ 3 := by omega
              have cp := ((HB.out.grown hgz (by intro e; injection e with e; exact hRg e.symm)).cell p).trans (sp_word _ _ _ p rfl hp8)
              have cR := hri.cell i
              rw [ov_get st i h32] at cR
              have fR := hri.frozen i
              obtain ⟨x, hx⟩ : ∃ x, x = st.list.getD p 0 := ⟨_, rfl⟩
              rw [← hx] at cp
              have HX := hide (And.intro hx (And.intro hp hr))
              have HRI := hide hri
              clear hx hp hr hri
              go_wp2_with fail
              go_roundw
              case rel =>
                refine ⟨i + 1, by omega, by go_num, ?_, only_setCell hgz (.inl rfl) _⟩
                have h3 := HRI.out.set_ i (.int .u8 (((Sha.out st).getD i 0).toNat : Int))
                rw [ov_set st i h32] at h3
                rw [out_byte st i x p r h32 HX.out]
                exact h3
              case measure => simp [intOf]; omega
            · obtain rfl : i = 32 := by omega
              have e32 : ov st 32 = (bv (Sha.out st)).toArray := by unfold ov; rw [List.take_of_length_le (by rw [length_out]; exact Nat.le_refl _)]; simp
              rw [e32] at hri
              have hsz : (Try.prog.info? 92).map (·.size) = some (bv (Sha.out st)).toArray.size := by rw [List.size_toArray, bv, List.length_map, length_out]; exact size27
              have HK := hide hri
              clear hri
              go_wp2_with (first
                | ((with_reducible refine at_slot 53 ?_); (with_reducible refine wpList_load_blk (o := ⟨some 53, _, _, _, _, _⟩) rfl 92 (.tmp 2) rfl R 92 (bv (Sha.out st)).toArray _ _ HK.out Try.underlying92 hsz ?_ ?_); rfl; dsimp only [Act.put, List.setIfInBounds_toArray, List.set_cons_zero, List.set_cons_succ])
                | ((with_reducible refine wpList_store_blkA (o := ⟨none, _, _, _, _, _⟩) rfl 92 (.tmp 2) (.tmp 53) rfl R (bv (Sha.out st)).toArray (bv (Sha.out st)).toArray 92 HK.out hsz rfl (bv_one _) ?_ ?_ ?_); rfl; rfl; intro w9 h9 hg9; dsimp only [Act.put]))
              refine bodyPost_ret (results_cell_blk rfl _ _ R 92 (bv (Sha.out st)).toArray _ _ rfl h9 Try.underlying92 hsz) rfl ⟨by rw [Sha.sum, ← HST.out], ?_⟩
              have g1 := only_trans hgr1 hgri
              exact only_new g1 (only_trans hgz hg9) (by rw [HR.out]; exact Nat.le_refl _)
    · have h56' : ¬ (q : Int) % 64 = 56 := by omega
      go_wp2_with (go_at_call 59; refine (take_one 0 _ (by rw [HLEN.out, ← HQ.out]; omega) g T _ HGJ.out 0 rfl).mono ?_; rintro e w3 ⟨rfl, hg3, hgr3⟩)
      go_roundw
      case rel =>
        refine ⟨j + 1, ?_, ?_, only_trans hgrj hgr3⟩
        · have := HNO.out; have := HQ.out; omega
        · rw [List.replicate_succ', ← List.append_assoc]; exact hg3
      case measure =>
        rw [HMO.out, hg3.manyOf, List.length_append, HLEN.out, ← HQ.out]
        simp
        omega
end Go.Proofs.Ytidiepbmbbflhaa
end
section
namespace Go.Proofs.Ytidiepbmbbflhaa
open Go.RowKit
theorem BytesAt.open_ {w : World} {B g : Nat} {v : Value} {l : List UInt8} (h : BytesAt w B v l) (hg : B ≤ g) :
    ∃ A cap b off, v = .slice A l.length cap ∧ l.length ≤ cap ∧ b ≠ g ∧ (0 < l.length → A = some ⟨b, off, none⟩) ∧ ∀ j, j < l.length → w.cell? ⟨b, off + j, none⟩ = some (.int .u8 ((l.getD j 0).toNat : Int)) := by
  obtain ⟨A, cap, hv, hc, hA⟩ := h
  by_cases h0 : 0 < l.length
  · obtain ⟨b, off, h1, h2, h3⟩ := hA h0
    exact ⟨A, cap, b, off, hv, hc, by omega, fun _ => h1, h3⟩
  · exact ⟨A, cap, g + 1, 0, hv, hc, by omega, fun h => absurd h h0, fun j hj => by omega⟩

set_option maxRecDepth 100000 in
set_option maxHeartbeats 1000000 in
theorem sum_any (ls : List (List UInt8)) (hl : ls.flatten.length ≤ 1099511627000) (hn : ls.length ≤ 1099511627000) (v : Value) (w : World) (B : Nat) (hB : B ≤ w.heap.size) (hp : PartsAt w B v ls) :
    Calls Try.prog 48 #[v] w fun e w' => e = .returned (.agg (bv (Sha.sum ls.flatten)).toArray) ∧ Below w.heap.size w w' := by
  obtain ⟨A, cap, rfl, hcap, hA⟩ := hp
  have HA := hide hA
  clear hA
  obtain ⟨R, hR⟩ : ∃ R, R = w.heap.size := ⟨_, rfl⟩
  have HR := hide hR
  clear hR
  go_enter Try.func48, Try.ntmps48
  go_step
  go_step
  apply wp_region_lit
  refine wpList_value (o := ⟨some 2, _, _, _, _, _⟩) rfl (.pointer (some ⟨R, 0, none⟩)) (w.alloc (.cells z32 92)) (by rw [HR.out]; kernel_rfl) ?_
  dsimp only [Act.put, List.setIfInBounds_toArray, List.set_cons_zero, List.set_cons_succ]
  obtain ⟨w1, hw1⟩ : ∃ w1, w1 = w.alloc (.cells z32 92) := ⟨_, rfl⟩
  have hb1 : Blk w1 R 92 z32 := by rw [hw1, HR.out]; exact Blk.new _ _ _
  have hbl1 : Below w.heap.size w w1 := by rw [hw1]; exact (Below.refl _ _).alloc (Nat.le_refl _) _
  rw [← hw1]
  clear hw1
  have HB1 := hide hb1
  clear hb1
  go_step
  go_step
  go_step
  go_step
  apply wp_region_lit
  go_step
  go_step
  refine (first_any _).mono ?_
  rintro e w2 ⟨rfl, hb2⟩
  dsimp only
  go_step
  refine wpList_value (o := ⟨some 7, _, _, _, _, _⟩) rfl (.agg (sp Sha.first.list (List.replicate 64 0) 0)) w2 (by kernel_rfl) ?_
  dsimp only [Act.put, List.setIfInBounds_toArray, List.set_cons_zero, List.set_cons_succ]
  refine wpList_value (o := ⟨some 8, _, _, _, _, _⟩) rfl (.pointer (some ⟨w2.heap.size, 0, none⟩)) (w2.alloc (.cells (sp Sha.first.list (List.replicate 64 0) 0) 120)) (by kernel_rfl) ?_
  dsimp only [Act.put, List.setIfInBounds_toArray, List.set_cons_zero, List.set_cons_succ]
  obtain ⟨g, hg⟩ : ∃ g, g = w2.heap.size := ⟨_, rfl⟩
  obtain ⟨w3, hw3⟩ : ∃ w3, w3 = w2.alloc (.cells (sp Sha.first.list (List.replicate 64 0) 0) 120) := ⟨_, rfl⟩
  have hs3 : Spg w3 g 120 [] := ⟨_, _, Sha.Sponge.nil, by rw [hw3, hg]; exact Blk.new _ _ _⟩
  have hR2 : R < w1.heap.size := HB1.out.lt
  have hgR : R < g := by have := hb2.size; omega
  have hk3 : Blk w3 R 92 z32 := by rw [hw3]; exact (HB1.out.below hb2 hR2).alloc _
  have hal3 : Below w.heap.size w w3 := by rw [hw3]; exact (hbl1.trans (hb2.mono hbl1.size)).alloc (Nat.le_trans hbl1.size hb2.size) _
  have hBg : B ≤ g := by have := hb2.size; have := hbl1.size; omega
  rw [← hw3, ← hg]
  have HS3 := hide hs3
  have HK3 := hide hk3
  clear hw3 hg hs3 hk3 hb2
  have hls0 : (0 : Int) ≤ (ls.length : Int) := by omega
  go_wp2_with fail
  go_loopw [11] (fun i wr => ∃ k : Nat, k ≤ ls.length ∧ i = .int .i64 (k : Int) ∧ Spg wr g 120 (ls.take k).flatten ∧ w3.grownBy wr (some g)) (fun i _ => ls.length - (intOf i).toNat)
  case atStart => exact ⟨0, by omega, rfl, HS3.out, World.grownBy.refl _ _⟩
  case round =>
    obtain ⟨k, hk, rfl, hsk, hgk⟩ := hrel
    by_cases hlt : k < ls.length
    · obtain ⟨b, off, rfl, hbB, hcells⟩ := HA.out (by omega)
      obtain ⟨u, hu, hby⟩ := hcells k hlt
      have ha : Alike B w wr := (alike_of_below (hal3.mono hB)).trans (alike_of_grown hgk hBg (by have := hal3.size; omega))
      have cu : wr.cell? ⟨b, off + k, none⟩ = some u := (ha.cell (p := ⟨b, off + k, none⟩) hbB).trans hu
      obtain ⟨l, hl'⟩ : ∃ l, l = ls.getD k [] := ⟨_, rfl⟩
      rw [← hl'] at hby
      obtain ⟨Aj, cj, bj, oj, rfl, hcj, hbj, hAj, hcell⟩ := (hby.alike ha).open_ hBg
      have hfl : (ls.take (k + 1)).flatten = (ls.take k).flatten ++ l := by
        rw [List.take_succ_eq_append_getElem hlt, List.flatten_append, hl']; simp [List.getD, hlt]
      have hbd : (ls.take k).flatten.length + l.length ≤ 1099511627776 := by
        have h1 : (ls.take (k + 1)).flatten.length ≤ ls.flatten.length := by
          have h2 : ls.flatten = (ls.take (k + 1)).flatten ++ (ls.drop (k + 1)).flatten := by rw [← List.flatten_append, List.take_append_drop]
          rw [h2, List.length_append]; omega
        rw [hfl, List.length_append] at h1
        omega
      have HFL := hide hfl
      have HCELL := hide hcell
      have HAJ := hide hAj
      have i1 : (0 : Int) ≤ (k : Int) := by omega
      have i2 : (k : Int) < (ls.length : Int) := by omega
      clear hu hby hcells hl' hfl hcell hAj
      go_wp2_with (go_at_call 59; refine (take_any l _ hbd g 120 Aj bj oj cj hcj HAJ.out hbj _ HCELL.out hsk).mono ?_; rintro e w5 ⟨rfl, hs5, hg5⟩)
      go_roundw
      case rel => exact ⟨k + 1, by omega, by go_num, by rw [HFL.out]; exact hs5, only_trans hgk hg5⟩
      case measure => simp [intOf]; omega
    · obtain rfl : k = ls.length := by omega
      have hfl : (ls.take ls.length).flatten = ls.flatten := by rw [List.take_of_length_le (Nat.le_refl _)]
      rw [hfl] at hsk
      have hkR : Blk wr R 92 z32 := HK3.out.grown hgk (by intro e; injection e with e; omega)
      have HKR := hide hkR
      have hsz : (Try.prog.info? 92).map (·.size) = some (bv (Sha.sum ls.flatten)).toArray.size := by rw [List.size_toArray, bv, List.length_map, Sha.sum, length_out]; exact size27
      have hzs : z32.size = (bv (Sha.sum ls.flatten)).toArray.size := by
        have e : z32.size = 32 := by simp [z32, bv]
        rw [e, List.size_toArray, bv, List.length_map, Sha.sum, length_out]
      clear hkR hfl
      go_wp2_with (first
        | (go_at_call 60; refine (end_any _ hl g 120 _ hsk).mono ?_; rintro e w6 ⟨rfl, hg6⟩; have HK6 := hide (HKR.out.grown hg6 (fun e => absurd (Option.some.inj e) (Nat.ne_of_lt hgR))))
        | ((with_reducible refine wpList_store_blkA (o := ⟨none, _, _, _, _, _⟩) rfl 92 (.tmp 2) (.tmp 20) rfl R z32 (bv (Sha.sum ls.flatten)).toArray 92 HK6.out hsz hzs (bv_one _) ?_ ?_ ?_); rfl; rfl; intro w9 h9 hg9; dsimp only [Act.put]))
      refine bodyPost_ret (results_cell_blk rfl _ _ R 92 (bv (Sha.sum ls.flatten)).toArray _ _ rfl h9 Try.underlying92 hsz) rfl ⟨rfl, ?_⟩
      have hw := HR.out
      refine Below.grown (Below.grown (Below.grown hal3 hgk ?_ ?_) hg6 ?_ ?_) hg9 ?_ ?_
      · have := hal3.size; omega
      · intro x hx; injection hx with hx; omega
      · have := hal3.size; have := hgk.size; omega
      · intro x hx; injection hx with hx; omega
      · have := hal3.size; have := hgk.size; have := hg6.size; omega
      · intro x hx; injection hx with hx; omega
end Go.Proofs.Ytidiepbmbbflhaa
end
section
namespace Go.Proofs.Ytidiepbmbbflhaa
open Go.RowKit
theorem size34 : (Try.prog.info? 27).map (·.size) = some 20 := by kernel_rfl
/-- a digest, folded: of its first i bytes -/
def fold (l : List UInt8) : Nat → List UInt8
  | 0 => List.replicate 20 0
  | i + 1 => (fold l i).set (i % 20) ((fold l i).getD (i % 20) 0 ^^^ l.getD i 0)
theorem length_fold (l : List UInt8) (i : Nat) : (fold l i).length = 20 := by induction i with | zero => rfl | succ i ih => simp [fold, ih]

set_option maxRecDepth 100000 in
set_option maxHeartbeats 1000000 in
theorem fold_any (l : List UInt8) (hl : l.length = 32) (w : World) :
    Calls Try.prog 47 #[.agg (bv l).toArray] w fun e w' => e = .returned (.agg (bv (fold l 32)).toArray) ∧ Below w.heap.size w w' := by
  have h0 : Blk (w.alloc (.cells (bv l).toArray 92)) w.heap.size 92 (bv l).toArray := Blk.new _ _ _
  have hsl : (Try.prog.info? 92).map (·.size) = some (bv l).toArray.size := by rw [List.size_toArray, bv, List.length_map, hl]; kernel_rfl
  obtain ⟨L, hL⟩ : ∃ L, L = (bv l).toArray := ⟨_, rfl⟩
  rw [← hL] at h0 hsl ⊢
  have HL := hide hL
  have H0 := hide h0
  clear hL h0
  go_enter Try.func47, Try.ntmps47
  go_wp2_with (with_reducible refine wpList_load_blk (o := ⟨some 5, _, _, _, _, _⟩) rfl 92 (.tmp 1) rfl w.heap.size 92 L _ _ (H0.out.alloc _) Try.underlying92 hsl ?_ ?_); rfl
  obtain ⟨R, hR⟩ : ∃ R, R = w.heap.size + 1 := ⟨_, rfl⟩
  have hz : Blk ((w.alloc (.cells L 92)).alloc (.cells (bv (fold l 0)).toArray 27)) R 27 (bv (fold l 0)).toArray := by rw [hR]; exact Blk.new1 _ _ _ _
  have hbz : Below w.heap.size w ((w.alloc (.cells L 92)).alloc (.cells (bv (fold l 0)).toArray 27)) := ((Below.refl _ _).alloc (Nat.le_refl _) _).alloc (by rw [size_alloc]; omega) _
  rw [← hR]
  have HZ := hide hz
  have HR := hide hR
  have HBZ := hide hbz
  clear hz hR hbz
  go_loopw [6] (fun v wr => ∃ i : Nat, i ≤ 32 ∧ v = .int .i64 (i : Int) ∧ Blk wr R 27 (bv (fold l i)).toArray ∧ Below w.heap.size w wr) (fun v _ => (32 - intOf v).toNat)
  case atStart => exact ⟨0, by omega, rfl, HZ.out, HBZ.out⟩
  case round =>
    obtain ⟨i, hi, rfl, hb, hbl⟩ := hrel
    have hRw : w.heap.size ≤ R := by have := HR.out; omega
    by_cases h32 : i < 32
    · obtain ⟨q, hq⟩ : ∃ q, q = i % 20 := ⟨_, rfl⟩
      have hqi : (i : Int) % 20 = (q : Int) := by omega
      have hq2 : q < 20 := by omega
      obtain ⟨x, hx⟩ : ∃ x, x = l.getD i 0 := ⟨_, rfl⟩
      obtain ⟨y, hy⟩ : ∃ y, y = (fold l i).getD q 0 := ⟨_, rfl⟩
      have hix : ∀ W, (Instr.index 92 (.agg L) (.int .i64 (i : Int))).run Try.prog W = .ok (.int .u8 (x.toNat : Int)) W :=
        run_index_int 92 5 32 .u8 Try.underlying92 Try.underlying5 size5 L i h32 _ (by rw [HL.out, hx, bv_get _ _ (by omega)])
      have cq : wr.cell? ⟨R, q, none⟩ = some (.int .u8 (y.toNat : Int)) := by rw [hb.cell, bv_get _ _ (by rw [length_fold]; omega), hy]
      have fq := hb.frozen q
      have hxy : bits .xor .u8 (y.toNat : Int) (x.toNat : Int) = ((y ^^^ x).toNat : Int) := by
        rw [u8_xor_nat _ _ y.toNat_lt x.toNat_lt, UInt8.toNat_xor]
      have HB := hide hb
      have HQ := hide (And.intro hq (And.intro hx hy))
      clear hb hq hx hy
      obtain ⟨z, hz⟩ : ∃ z, z = y ^^^ x := ⟨_, rfl⟩
      rw [← hz] at hxy
      have HZ2 := hide hz
      clear hz
      go_wp2_with fail
      go_roundw
      case rel =>
        refine ⟨i + 1, by omega, by go_num, ?_, hbl.setCell hRw _⟩
        have h3 := HB.out.set_ q (.int .u8 (z.toNat : Int))
        rw [bv_set] at h3
        have e : fold l (i + 1) = (fold l i).set q z := by rw [fold, HZ2.out, HQ.out.1, HQ.out.2.1, HQ.out.2.2, HQ.out.1]
        rw [e]
        exact h3
      case measure => simp [intOf]; omega
    · obtain rfl : i = 32 := by omega
      have hsz : (Try.prog.info? 27).map (·.size) = some (bv (fold l 32)).toArray.size := by rw [List.size_toArray, bv, List.length_map, length_fold]; exact size34
      have HK := hide hb
      clear hb
      go_wp2_with (first
        | ((with_reducible refine at_slot 18 ?_); (with_reducible refine wpList_load_blk (o := ⟨some 18, _, _, _, _, _⟩) rfl 27 (.tmp 2) rfl R 27 (bv (fold l 32)).toArray _ _ HK.out Try.underlying27 hsz ?_ ?_); rfl; dsimp only [Act.put, List.setIfInBounds_toArray, List.set_cons_zero, List.set_cons_succ])
        | ((with_reducible refine wpList_store_blkA (o := ⟨none, _, _, _, _, _⟩) rfl 27 (.tmp 2) (.tmp 18) rfl R (bv (fold l 32)).toArray (bv (fold l 32)).toArray 27 HK.out hsz rfl (bv_one _) ?_ ?_ ?_); rfl; rfl; intro w9 h9 hg9; dsimp only [Act.put]))
      refine bodyPost_ret (results_cell_blk rfl _ _ R 27 (bv (fold l 32)).toArray _ _ rfl h9 Try.underlying27 hsz) rfl ⟨rfl, ?_⟩
      refine hbl.grown hg9 hbl.size ?_
      intro k hk; injection hk with hk; omega
end Go.Proofs.Ytidiepbmbbflhaa
end
section
namespace Go.Proofs.Ytidiepbmbbflhaa
open Go.RowKit
theorem or128 (m : Nat) : bits .or .u8 ((m : Int) % 256) 128 = ((UInt8.ofNat (m % 128 + 128)).toNat : Int) := by
  have h1 : (m : Int) % 256 = ((m % 256 : Nat) : Int) := by omega
  have h2 : bits .or .u8 ((m % 256 : Nat) : Int) ((128 : Nat) : Int) = ((m % 256 ||| 128 : Nat) : Int) := by
    have := u8_or_nat (m % 256) 128 (by omega) (by omega)
    exact this
  rw [h1]
  refine h2.trans ?_
  rw [UInt8.toNat_ofNat']
  have h3 : m % 256 ||| 128 = m % 128 + 128 := by
    have h4 : m % 256 < 256 := Nat.mod_lt _ (by omega)
    have h5 : m % 128 = (m % 256) % 128 := by omega
    rw [h5]
    generalize m % 256 = q at h4
    clear h1 h2 h5
    revert h4
    revert q
    decide +kernel
  rw [h3]
  congr 1
  omega
/-- the row that a maker has, and its mark -/
structure MkAt (w : World) (base g T : Nat) (l : List UInt8) (bad : Bool) (v : Value) : Prop where
  blk : Blk w g T #[v, .bool bad]
  own : w.ownsRow base 5 1 v l.length (bv l)
/-- where a maker's row lies behind some steps -/
def Moved (w : World) (v v' : Value) : Prop := v'.ownBlock = v.ownBlock ∨ ∃ r, v'.ownBlock = some r ∧ w.heap.size ≤ r
theorem Moved.refl (w : World) (v : Value) : Moved w v v := .inl rfl
theorem Moved.trans {w w' : World} {a b c : Value} (h : Moved w a b) (k : Moved w' b c) (hw : w.heap.size ≤ w'.heap.size) : Moved w a c := by
  rcases k with k | ⟨r, k, hr⟩
  · rcases h with h | ⟨q, h, hq⟩
    · exact .inl (k.trans h)
    · exact .inr ⟨q, k.trans h, hq⟩
  · exact .inr ⟨r, k, by omega⟩
/-- a maker's own blocks -/
def MkS (g : Nat) (v : Value) (k : Nat) : Prop := k = g ∨ v.ownBlock = some k

set_option maxRecDepth 100000 in
set_option maxHeartbeats 1000000 in
theorem number_any (n : Nat) (hn : n < 18446744073709551616) (l : List UInt8) (hl : l.length ≤ 1099511627776) (bad : Bool) (base g T : Nat) (hT : 5 ≠ T) (v : Value) (w : World) (hbase : base ≤ w.heap.size) (hm : MkAt w base g T l bad v) :
    Calls Try.prog 70 #[.pointer (some ⟨g, 0, none⟩), .int .u64 (n : Int)] w fun e w' => e = .returned (.tuple #[]) ∧ ∃ v', MkAt w' base g T (l ++ num n) bad v' ∧ Turned (MkS g v) w w' ∧ Moved w v v' := by
  obtain ⟨i, hi, hz0, hz1, hz2⟩ := info_parts info_u8
  have hN := num_len n hn
  have HM := hide hm
  have HT := hide hT
  clear hm hT
  go_enter Try.func70, Try.ntmps70
  go_wp2_with fail
  go_loopw [1] (fun s wr => ∃ (m : Nat) (dn : List UInt8) (v' : Value), s = .int .u64 (m : Int) ∧ m < 18446744073709551616 ∧ dn ++ num m = num n ∧ MkAt wr base g T (l ++ dn) bad v' ∧ Turned (MkS g v) w wr ∧ Moved w v v') (fun s _ => (intOf s).toNat)
  case atStart => exact ⟨n, [], v, rfl, hn, rfl, by simpa using HM.out, Turned.refl _ _, Moved.refl _ _⟩
  case round =>
    obtain ⟨m, dn, v', rfl, hm, hdn, ⟨hb, ho⟩, ht, hmv⟩ := hrel
    have hlen : dn.length + (num m).length ≤ 10 := by rw [← List.length_append, hdn]; exact hN
    have c0 := hb.cell 0
    have f0 := hb.frozen 0
    simp only [List.getElem?_toArray, List.getElem?_cons_zero] at c0
    have hlt := hb.lt
    have hne := owned_ne ho hb HT.out
    have hsz := ht.size
    have HD := hide hdn
    have HB := hide hb
    have HO := hide ho
    have HTU := hide (And.intro ht hmv)
    have HL := hide hlen
    have HNE := hide hne
    clear hdn hb ho ht hmv hlen hne
    by_cases hge : 128 ≤ m
    · have hor := or128 m
      obtain ⟨x, hx⟩ : ∃ x, x = UInt8.ofNat (m % 128 + 128) := ⟨_, rfl⟩
      rw [← hx] at hor
      have HX := hide hx
      clear hx
      obtain ⟨X, hX⟩ : ∃ X, X = wr.heap.size := ⟨_, rfl⟩
      have hsrc := src_one wr (.int .u8 (x.toNat : Int)) 5 rfl
      rw [← hX] at hsrc
      have HSR := hide hsrc
      have HXX := hide hX
      clear hsrc hX
      go_wp2_with (at_builtin; (refine wpList_app rfl _ _ 32 rfl base 5 i (.int .u8 0) 1 Try.underlying32 hi hz0 hz1 hz2 rfl v' (l ++ dn).length (bv (l ++ dn)) (HO.out.alloc _) _ 1 1 [.int .u8 (x.toNat : Int)] (src_one _ _ _ rfl) ?h1 ?h2 ?h3 rfl rfl ?_))
      case h1 => have := HL.out; simp only [List.length_append, maxLen]; omega
      case h2 => have := HL.out; simp only [List.length_append]; omega
      case h3 => rw [size_alloc]; omega
      intro v2 w2 own2 gr2 mv2 _
      have hb2 := (HB.out.alloc _).grown gr2 (fun e => HNE.out e.symm)
      have c2 := hb2.cell 0
      have f2 := hb2.frozen 0
      simp only [List.getElem?_toArray, List.getElem?_cons_zero] at c2
      have hlt2 := hb2.lt
      have hT2 : Turned (MkS g v) w w2 := by
        refine (HTU.out.1.alloc _).then_ (Turned.of_grown (S := fun k => v'.ownBlock = some k) gr2 (fun k h _ => h)) ?_
        intro k hk hv
        rcases HTU.out.2 with h | ⟨r, h, hr⟩
        · exact .inr (h ▸ hv)
        · rw [h] at hv; injection hv with hv; omega
      have hM2 : Moved w v v2 := HTU.out.2.trans (w' := wr.alloc (.cells #[.int .u8 (x.toNat : Int)] 5)) (by rcases mv2 with h | h; exact .inl h; exact .inr ⟨_, h, by rw [size_alloc]; omega⟩) (by rw [size_alloc]; omega)
      have hd2 : (dn ++ [x]) ++ num (m / 128) = num n := by rw [← HD.out, num_hi (n := m) (by omega), HX.out]; simp
      obtain ⟨A2, k2, rfl⟩ := owned_slice own2
      have hq : l.length + dn.length + 1 = (l ++ (dn ++ [x])).length := by simp; omega
      have HB2 := hide hb2
      have HT2 := hide (And.intro hT2 hM2)
      have HO2 := hide own2
      have HD2 := hide hd2
      clear hb2 own2 gr2 mv2 hT2 hM2 hd2 c0 f0
      go_wp2_with fail
      go_roundw
      case rel =>
        refine ⟨m / 128, dn ++ [x], .slice A2 (l.length + dn.length + 1) k2, by go_num, by omega, HD2.out, ⟨?_, ?_⟩, HT2.out.1.setCell (fun _ => .inl rfl) _, HT2.out.2⟩
        · exact HB2.out.set_ 0 _
        · rw [← hq]
          have h := owned_keep (w' := w2.setCell ⟨g, 0, none⟩ (.slice A2 (l.length + dn.length + 1) k2)) HO2.out (fun q hqv hql => Below.heap_setCell w2 _ _ q (by rintro rfl; exact owned_ne HO2.out HB2.out HT.out hqv))
          rw [← List.append_assoc, bvA]
          exact h
      case measure => simp [intOf]; omega
    · have hdn2 : dn ++ [UInt8.ofNat m] = num n := by rw [← HD.out, num_lo (n := m) (by omega)]
      obtain ⟨x, hx⟩ : ∃ x, x = UInt8.ofNat m := ⟨_, rfl⟩
      have hxm : (m : Int) % 256 = (x.toNat : Int) := by rw [hx, UInt8.toNat_ofNat']; omega
      have hxm2 : (m : Int) = (x.toNat : Int) := by rw [← hxm]; omega
      rw [← hx] at hdn2
      have HD2 := hide hdn2
      clear hdn2 hx
      go_wp2_with (at_builtin; (refine wpList_app rfl _ _ 32 rfl base 5 i (.int .u8 0) 1 Try.underlying32 hi hz0 hz1 hz2 rfl v' (l ++ dn).length (bv (l ++ dn)) (HO.out.alloc _) _ 1 1 [.int .u8 (x.toNat : Int)] (src_one _ _ _ rfl) ?h1 ?h2 ?h3 rfl rfl ?_))
      case h1 => have := HL.out; simp only [List.length_append, maxLen]; omega
      case h2 => have := HL.out; simp only [List.length_append]; omega
      case h3 => rw [size_alloc]; omega
      intro v2 w2 own2 gr2 mv2 _
      have hb2 := (HB.out.alloc _).grown gr2 (fun e => HNE.out e.symm)
      have c2 := hb2.cell 0
      have f2 := hb2.frozen 0
      simp only [List.getElem?_toArray, List.getElem?_cons_zero] at c2
      have hlt2 := hb2.lt
      have hT2 : Turned (MkS g v) w w2 := by
        refine (HTU.out.1.alloc _).then_ (Turned.of_grown (S := fun k => v'.ownBlock = some k) gr2 (fun k h _ => h)) ?_
        intro k hk hv
        rcases HTU.out.2 with h | ⟨r, h, hr⟩
        · exact .inr (h ▸ hv)
        · rw [h] at hv; injection hv with hv; omega
      have hM2 : Moved w v v2 := HTU.out.2.trans (w' := wr.alloc (.cells #[.int .u8 (x.toNat : Int)] 5)) (by rcases mv2 with h | h; exact .inl h; exact .inr ⟨_, h, by rw [size_alloc]; omega⟩) (by rw [size_alloc]; omega)
      obtain ⟨A2, k2, rfl⟩ := owned_slice own2
      have hq : l.length + dn.length + 1 = (l ++ (dn ++ [x])).length := by simp; omega
      have HB2 := hide hb2
      have HT2 := hide (And.intro hT2 hM2)
      have HO2 := hide own2
      clear hb2 own2 gr2 mv2 hT2 hM2 c0 f0
      go_wp2_with fail
      go_end0
      refine ⟨rfl, .slice A2 (l.length + dn.length + 1) k2, ⟨?_, ?_⟩, HT2.out.1.setCell (fun _ => .inl rfl) _, HT2.out.2⟩
      · exact HB2.out.set_ 0 _
      · rw [← HD2.out, ← hq]
        have h := owned_keep (w' := w2.setCell ⟨g, 0, none⟩ (.slice A2 (l.length + dn.length + 1) k2)) HO2.out (fun q hqv hql => Below.heap_setCell w2 _ _ q (by rintro rfl; exact owned_ne HO2.out HB2.out HT.out hqv))
        rw [← List.append_assoc, bvA]
        exact h
end Go.Proofs.Ytidiepbmbbflhaa
end
section
namespace Go.Proofs.Ytidiepbmbbflhaa
open Go.RowKit
set_option maxRecDepth 100000 in
set_option maxHeartbeats 400000 in
theorem allow_yes (n most : Int) (hn : 0 ≤ n ∧ n ≤ most) (hm : most ≤ 1099511627776) (g T : Nat) (v : Value) (bad : Bool) (w : World) (hb : Blk w g T #[v, .bool bad]) :
    Calls Try.prog 69 #[.pointer (some ⟨g, 0, none⟩), .int .i64 n, .int .i64 most] w fun e w' => e = .returned (.bool !bad) ∧ w = w' := by
  have c1 := hb.cell 1
  simp only [List.getElem?_toArray, List.getElem?_cons_succ, List.getElem?_cons_zero] at c1
  have hlt := hb.lt
  have h0 := hn.1
  have h1 := hn.2
  have h2 : ¬ most < n := by omega
  have h3 : decide (most < n) = false := decide_eq_false h2
  have h4 : 0 ≤ most := by omega
  have HB := hide hb
  clear hb hn
  go_enter Try.func69, Try.ntmps69
  go_wp2
  go_ret
  exact ⟨rfl, rfl⟩
set_option maxRecDepth 100000 in
set_option maxHeartbeats 400000 in
theorem allow_no (n most : Int) (hn : n < 0 ∨ most < n) (hn2 : -9223372036854775808 ≤ n ∧ n ≤ 9223372036854775807) (hm : 0 ≤ most ∧ most ≤ 1099511627776) (g T : Nat) (v : Value) (bad : Bool) (w : World) (hb : Blk w g T #[v, .bool bad]) :
    Calls Try.prog 69 #[.pointer (some ⟨g, 0, none⟩), .int .i64 n, .int .i64 most] w fun e w' => e = .returned (.bool false) ∧ Blk w' g T #[v, .bool true] ∧ w.grownBy w' (some g) := by
  have c1 := hb.cell 1
  have f1 := hb.frozen 1
  simp only [List.getElem?_toArray, List.getElem?_cons_succ, List.getElem?_cons_zero] at c1
  have hlt := hb.lt
  have h4 := hm.1
  have h5 := hm.2
  have h6 := hn2.1
  have h7 := hn2.2
  have hu : n < 0 → most < IntKind.u64.wrap n := fun h => by simp [IntKind.wrap, IntKind.signed, IntKind.bits]; omega
  have HB := hide hb
  clear hb hm hn2
  rcases Int.lt_or_le n 0 with hneg | hpos
  · have hu2 := hu hneg
    clear hu hn
    go_enter Try.func69, Try.ntmps69
    go_wp2
    go_ret
    exact ⟨rfl, HB.out.set_ 1 _, only_setCell (World.grownBy.refl w _) (.inl rfl) _⟩
  · have hlt2 : most < n := by omega
    clear hu hn
    go_enter Try.func69, Try.ntmps69
    go_wp2
    go_ret
    exact ⟨rfl, HB.out.set_ 1 _, only_setCell (World.grownBy.refl w _) (.inl rfl) _⟩
/-- one number more -/
def mkNum (l : List UInt8) (bad : Bool) (n : Int) : List UInt8 × Bool := if 0 ≤ n ∧ n ≤ 1099511627776 then (if bad then (l, true) else (l ++ num n.toNat, false)) else (l, true)
set_option maxRecDepth 100000 in
set_option maxHeartbeats 1000000 in
theorem mnum_any (n : Int) (hn : -9223372036854775808 ≤ n ∧ n ≤ 9223372036854775807) (l : List UInt8) (hl : l.length ≤ 1099511627776) (bad : Bool) (base g T : Nat) (hT : 5 ≠ T) (v : Value) (A : Nat) (w : World) (hbase : base ≤ w.heap.size)
    (hm : MkAt w base g T l bad v) (hA : w.cell? ⟨A, 0, none⟩ = some (.int .i64 n)) :
    Calls Try.prog 56 #[.pointer (some ⟨g, 0, none⟩), .slice (some ⟨A, 0, none⟩) 1 1] w fun e w' => e = .returned (.pointer (some ⟨g, 0, none⟩)) ∧
      ∃ v', MkAt w' base g T (mkNum l bad n).1 (mkNum l bad n).2 v' ∧ Turned (MkS g v) w w' ∧ Moved w v v' := by
  have HM := hide hm
  have HT := hide hT
  have HA := hide hA
  clear hm hT hA
  go_enter Try.func56, Try.ntmps56
  go_wp2_with fail
  go_loopw [11] (fun i wr => ∃ k : Nat, k ≤ 1 ∧ i = .int .i64 (k : Int) ∧ (k = 0 → wr = w) ∧ (k = 1 → ∃ v', MkAt wr base g T (mkNum l bad n).1 (mkNum l bad n).2 v' ∧ Turned (MkS g v) w wr ∧ Moved w v v')) (fun i _ => (1 - intOf i).toNat)
  case atStart => exact ⟨0, by omega, rfl, fun _ => rfl, fun h => absurd h (by omega)⟩
  case round =>
    obtain ⟨k, hk, rfl, hk0, hk1⟩ := hrel
    have HK1 := hide hk1
    clear hk1
    by_cases h0 : k = 0
    · obtain rfl := hk0 h0
      subst h0
      have ca := HA.out
      have b1 := hn.1
      have b2 := hn.2
      by_cases hin : 0 ≤ n ∧ n ≤ 1099511627776
      · obtain ⟨m, rfl⟩ : ∃ m : Nat, n = (m : Int) := ⟨n.toNat, by omega⟩
        have hm64 : m < 18446744073709551616 := by omega
        cases hbad : bad with
        | true =>
          rw [hbad] at HM
          clear hk0 HK1 hbad
          go_wp2_with (go_at_call 69; refine (allow_yes _ _ hin (by omega) g T v true _ HM.out.blk).mono ?_; rintro e w1 ⟨rfl, rfl⟩)
          go_roundw
          case rel =>
            refine ⟨1, by omega, by go_num, fun h => absurd h (by omega), fun _ => ⟨v, ?_, Turned.refl _ _, Moved.refl _ _⟩⟩
            rw [mkNum, if_pos hin, if_pos rfl]
            exact HM.out
          case measure => simp [intOf]
        | false =>
          rw [hbad] at HM
          clear hk0 HK1 hbad
          go_wp2_with (first
            | (go_at_call 69; refine (allow_yes _ _ hin (by omega) g T v false _ HM.out.blk).mono ?_; rintro e w1 ⟨rfl, rfl⟩)
            | (go_at_call 70; refine (number_any m hm64 l hl false base g T HT.out v _ hbase HM.out).mono ?_; rintro e w1 ⟨rfl, v1, hm1, ht1, hmv1⟩))
          have HM1 := hide (And.intro hm1 (And.intro ht1 hmv1))
          clear hm1 ht1 hmv1
          go_roundw
          case rel =>
            obtain ⟨hm1, ht1, hmv1⟩ := HM1.out
            refine ⟨1, by omega, by go_num, fun h => absurd h (by omega), fun _ => ⟨v1, ?_, ht1, hmv1⟩⟩
            rw [mkNum, if_pos hin, if_neg (by simp)]
            exact hm1
          case measure => simp [intOf]
      · have hin2 : n < 0 ∨ 1099511627776 < n := by omega
        clear hk0 HK1
        go_wp2_with (go_at_call 69; refine (allow_no _ _ hin2 hn (by omega) g T v bad _ HM.out.blk).mono ?_; rintro e w1 ⟨rfl, hb1, hg1⟩)
        have HM1 := hide (And.intro hb1 hg1)
        clear hb1 hg1
        go_roundw
        case rel =>
          obtain ⟨hb1, hg1⟩ := HM1.out
          refine ⟨1, by omega, by go_num, fun h => absurd h (by omega), fun _ => ⟨v, ?_, Turned.of_grown hg1 (fun k h _ => by injection h with h; exact .inl h.symm), Moved.refl _ _⟩⟩
          rw [mkNum, if_neg hin]
          exact ⟨hb1, owned_keep HM.out.own (fun q hq hlt => hg1.block q hlt (by intro e; injection e with e; subst e; exact owned_ne HM.out.own HM.out.blk HT.out hq))⟩
        case measure => simp [intOf]
    · obtain rfl : k = 1 := by omega
      have H := HK1.out rfl
      have HH := hide H
      clear H hk0
      go_wp2_with fail
      go_ret
      exact ⟨rfl, HH.out⟩
end Go.Proofs.Ytidiepbmbbflhaa
end
section
namespace Go.Proofs.Ytidiepbmbbflhaa
open Go.RowKit
set_option maxRecDepth 100000 in
set_option maxHeartbeats 400000 in
theorem clone_nil (w : World) : Calls Try.prog 71 #[.slice none 0 0] w fun e w' => e = .returned (.slice none 0 0) ∧ w = w' := by
  have hq := fun (w : World) (a : Option Addr) (n c : Nat) => Lib.run_eql_slice_nil (P := Try.prog) w 32 5 a n c 0 0 Try.underlying32
  go_enter Try.func71, Try.ntmps71
  go_wp2
  go_ret
  exact ⟨rfl, rfl⟩
set_option maxRecDepth 100000 in
set_option maxHeartbeats 400000 in
theorem clone_some (l : List UInt8) (hl : l.length ≤ 1099511627776) (ad : Addr) (cap : Nat) (w : World) (hs : Src w (some ad) l.length cap (bv l)) :
    Calls Try.prog 71 #[.slice (some ad) l.length cap] w fun e w' => ∃ v', e = .returned v' ∧ w'.ownsRow w.heap.size 5 1 v' l.length (bv l) ∧ Below w.heap.size w w' := by
  obtain ⟨i, hi, hz0, hz1, hz2⟩ := info_parts info_u8
  have HS := hide hs
  clear hs
  have hq := fun (w : World) (a : Option Addr) (n c : Nat) => Lib.run_eql_slice_nil (P := Try.prog) w 32 5 a n c 0 0 Try.underlying32
  go_enter Try.func71, Try.ntmps71
  have hown := owned_new w 5
  have HO := hide hown
  clear hown
  go_wp2_with (at_builtin; (refine wpList_app rfl _ _ 32 rfl w.heap.size 5 i (.int .u8 0) 1 Try.underlying32 hi hz0 hz1 hz2 rfl _ 0 [] HO.out (some ad) l.length cap (bv l) ?h0 ?h1 ?h2 ?h3 rfl rfl ?_))
  case h0 => exact HS.out.alloc _
  case h1 => simp only [maxLen]; omega
  case h2 => omega
  case h3 => rw [size_alloc]; omega
  intro v' w1 own1 gr1 _ _
  go_wp2_with fail
  go_ret
  refine ⟨v', rfl, by simpa using own1, ((Below.refl _ _).alloc (Nat.le_refl _) _).grown gr1 (by rw [size_alloc]; omega) ?_⟩
  intro k hk
  injection hk with hk
  change w.heap.size = k at hk
  omega
/-- a copy of bytes that can be read -/
theorem clone_any (l : List UInt8) (hl : l.length ≤ 1099511627776) (A : Option Addr) (n cap : Nat) (B : Nat) (w : World) (hv : BytesAt w B (.slice A n cap) l) (hnil : A = none → cap = 0) :
    Calls Try.prog 71 #[.slice A n cap] w fun e w' => ∃ v', e = .returned v' ∧ w'.ownsRow w.heap.size 5 1 v' l.length (bv l) ∧ Below w.heap.size w w' := by
  have hnl : n = l.length := by obtain ⟨_, _, h, _⟩ := hv; injection h
  subst hnl
  cases A with
  | none =>
    obtain rfl := hnil rfl
    have h0 : l = [] := by
      obtain ⟨A', c', h, hc, _⟩ := hv
      injection h with _ _ h
      exact List.eq_nil_of_length_eq_zero (by omega)
    subst h0
    exact (clone_nil w).mono fun e w' ⟨he, hw⟩ => by
      subst hw
      exact ⟨_, he, ⟨rfl, .inl ⟨rfl, rfl⟩⟩, Below.refl _ _⟩
  | some ad => exact clone_some l hl ad cap w (bv_src hv (by simp))
set_option maxRecDepth 100000 in
set_option maxHeartbeats 400000 in
theorem done_bad (l : List UInt8) (base g T : Nat) (v : Value) (w : World) (hm : MkAt w base g T l true v) :
    Calls Try.prog 57 #[.pointer (some ⟨g, 0, none⟩)] w fun e w' => e = .returned (.tuple #[.slice none 0 0, .int .i64 2]) ∧ w = w' := by
  have c1 := hm.blk.cell 1
  simp only [List.getElem?_toArray, List.getElem?_cons_succ, List.getElem?_cons_zero] at c1
  have hlt := hm.blk.lt
  clear hm
  go_enter Try.func57, Try.ntmps57
  go_wp2
  go_ret2
  exact ⟨rfl, rfl⟩
set_option maxRecDepth 100000 in
set_option maxHeartbeats 400000 in
theorem done_ok (l : List UInt8) (hl : l.length ≤ 1099511627776) (base g T : Nat) (v : Value) (w : World) (hm : MkAt w base g T l false v) :
    Calls Try.prog 57 #[.pointer (some ⟨g, 0, none⟩)] w fun e w' => ∃ v', e = .returned (.tuple #[v', .int .i64 0]) ∧ w'.ownsRow w.heap.size 5 1 v' l.length (bv l) ∧ Below w.heap.size w w' := by
  obtain ⟨A, cap, rfl⟩ := owned_slice hm.own
  have hA : A = none → cap = 0 := by
    intro h
    rcases owned_form hm.own with ⟨h2, _⟩ | ⟨_, _, _, h2, _⟩
    · injection h2
    · injection h2 with h2; rw [h] at h2; cases h2
  have c0 := hm.blk.cell 0
  have c1 := hm.blk.cell 1
  simp only [List.getElem?_toArray, List.getElem?_cons_succ, List.getElem?_cons_zero] at c0 c1
  have hlt := hm.blk.lt
  have HB := hide (bytesAt_owned hm.own)
  have HA := hide hA
  clear hm hA
  go_enter Try.func57, Try.ntmps57
  go_wp2_with (go_at_call 71; refine (clone_any l hl A l.length cap w.heap.size _ HB.out HA.out).mono ?_; rintro e w1 ⟨v1, rfl, own1, hb1⟩)
  go_ret2
  exact ⟨v1, rfl, own1, hb1⟩
end Go.Proofs.Ytidiepbmbbflhaa
end
section
namespace Go.Proofs.Ytidiepbmbbflhaa
open Go.RowKit
/-- the mark of a place in a list of bytes -/
def mk (k i : Nat) : UInt8 := UInt8.ofNat ((1000003 * (k + 7) + i) * 11400714819323198485 % 18446744073709551616 / 72057594037927936)
theorem wrap_u64 (n : Nat) : IntKind.u64.wrap (n : Int) = ((n % 18446744073709551616 : Nat) : Int) := by simp [IntKind.wrap, IntKind.signed, IntKind.bits]
theorem mark_val (m : Nat) : IntKind.u64.wrap (IntKind.u64.wrap (m : Int) * 11400714819323198485) / 72057594037927936 % 256 = ((UInt8.ofNat (m * 11400714819323198485 % 18446744073709551616 / 72057594037927936)).toNat : Int) := by
  have h1 : ((m % 18446744073709551616 : Nat) : Int) * 11400714819323198485 = ((m % 18446744073709551616 * 11400714819323198485 : Nat) : Int) := by omega
  rw [wrap_u64, h1, wrap_u64]
  have h2 : ((m % 18446744073709551616 * 11400714819323198485 % 18446744073709551616 : Nat) : Int) / 72057594037927936 = ((m % 18446744073709551616 * 11400714819323198485 % 18446744073709551616 / 72057594037927936 : Nat) : Int) := by omega
  rw [h2, UInt8.toNat_ofNat', Nat.mod_mul_mod]
  rfl
def marks : List UInt8 := (List.range 12).map (mk 1)
theorem marks_take (i : Nat) (h : i < 12) : marks.take (i + 1) = marks.take i ++ [mk 1 i] := by
  rw [List.take_add_one, marks, List.getElem?_map, List.getElem?_range h]; rfl
theorem info5 : (Try.prog.info? 5).map (fun i => (i.zero, i.size, i.bytes)) = some (some (.int .u8 0), 1, 1) := by kernel_rfl
theorem bv_append (a b : List UInt8) : bv (a ++ b) = bv a ++ bv b := by simp [bv]
theorem bv_length (a : List UInt8) : (bv a).length = a.length := by simp [bv]
theorem bv_oneCell (a : List UInt8) : ∀ u ∈ bv a, u.oneCell' = true := by
  intro u hu
  obtain ⟨_, _, rfl⟩ := List.mem_map.1 hu
  rfl
theorem owned_blk {w : World} {base g n : Nat} {e : TypeId} {xs : List Value} (h : w.ownsRow base e 1 (.slice (some ⟨g, 0, none⟩) n n) n xs) : Blk w g e xs.toArray := by
  obtain ⟨hl, h⟩ := h
  rcases h with ⟨h, _⟩ | ⟨g', cap, cur, h, _, hb, _, _, hs, ht⟩
  · cases h
  · injection h with e1 e2 e3
    injection e1 with e1
    injection e1 with e1
    subst e1 e3
    have : cur = xs.toArray := by
      rw [← ht, List.take_of_length_le (by simp; omega)]
    rw [← this]
    exact hb
/-- the cells of bytes, as a law on append asks them -/
theorem BytesAt.cells {w : World} {B : Nat} {A : Option Addr} {n cap : Nat} {l : List UInt8} (h : BytesAt w B (.slice A n cap) l) : n = l.length ∧ l.length ≤ cap ∧ ((A = none ∨ l = []) ∨ (0 < l.length ∧ ∃ b off, A = some ⟨b, off, none⟩ ∧ b < B)) ∧ ∀ ad, A = some ad → ∀ j u, (bv l)[j]? = some u → w.cell? (ad.add j) = some u := by
  obtain ⟨A', cap', hv, hc, hA⟩ := h
  injection hv with e1 e2 e3
  subst e1 e2 e3
  refine ⟨rfl, hc, ?_, fun ad had j u hu => ?_⟩
  · rcases Nat.eq_zero_or_pos l.length with h0 | h0
    · exact .inl (.inr (List.eq_nil_of_length_eq_zero h0))
    · obtain ⟨b, off, h1, h2, _⟩ := hA h0
      exact .inr ⟨h0, b, off, h1, h2⟩
  · have hj : j < l.length := by
      have := (List.getElem?_eq_some_iff.1 hu).1
      simpa [bv] using this
    obtain ⟨b, off, h1, _, h3⟩ := hA (by omega)
    rw [h1] at had
    obtain rfl := Option.some.inj had
    have e : (⟨b, off, none⟩ : Addr).add j = ⟨b, off + j, none⟩ := by unfold Addr.add; split <;> simp_all
    rw [e, h3 j hj]
    have e2 : (bv l)[j]? = some (.int .u8 ((l.getD j 0).toNat : Int)) := by simp [bv, List.getD, hj]
    rw [e2] at hu
    exact hu

end Go.Proofs.Ytidiepbmbbflhaa
end
section
namespace Go.Proofs.Ytidiepbmbbflhaa
open Go.RowKit
set_option maxRecDepth 100000 in
set_option maxHeartbeats 400000 in
theorem length_any (n : Nat) (hn : n ≤ 1099511627776) (w : World) :
    Calls Try.prog 46 #[.int .i64 (n : Int)] w fun e w' => ∃ v', e = .returned v' ∧ w'.ownsRow w.heap.size 5 1 v' (num n).length (bv (num n)) ∧ Below w.heap.size w w' := by
  go_enter Try.func46, Try.ntmps46
  go_wp2_with fail
  have hm0 : MkAt ((w.alloc (.cells #[.slice none 0 0, .bool false] 109)).alloc (.cells #[.int .i64 (n : Int)] 3)) w.heap.size w.heap.size 109 [] false (.slice none 0 0) :=
    ⟨(Blk.new w _ _).alloc _, rfl, .inl ⟨rfl, rfl⟩⟩
  have hA0 : ((w.alloc (.cells #[.slice none 0 0, .bool false] 109)).alloc (.cells #[.int .i64 (n : Int)] 3)).cell? ⟨w.heap.size + 1, 0, none⟩ = some (.int .i64 (n : Int)) :=
    (Blk.new1 w (.cells #[.slice none 0 0, .bool false] 109) 3 #[.int .i64 (n : Int)]).cell 0
  have HM := hide hm0
  have HA := hide hA0
  clear hm0 hA0
  refine (mnum_any (n : Int) (by omega) [] (by simp) false w.heap.size w.heap.size 109 (by decide) (.slice none 0 0) (w.heap.size + 1) _ (by rw [size_alloc, size_alloc]; omega) HM.out HA.out).mono ?_
  rintro e w1 ⟨rfl, v1, hm1, ht1, hmv1⟩
  have hmk : mkNum [] false (n : Int) = (num n, false) := by rw [mkNum, if_pos (by omega), if_neg (by simp)]; simp
  rw [hmk] at hm1
  have hN := num_len n (by omega)
  have HM1 := hide hm1
  have HT1 := hide ht1
  clear hm1 ht1 hmv1 hmk
  dsimp only
  go_wp2_with (go_at_call 57; refine (done_ok (num n) (by omega) w.heap.size w.heap.size 109 v1 _ HM1.out).mono ?_; rintro e w2 ⟨v2, rfl, own2, hb2⟩)
  go_ret
  have hs1 := HT1.out.size
  simp only [size_alloc] at hs1
  have hb1 : Below w.heap.size w w1 := HT1.out.below_new (a := w) (((Below.refl _ _).alloc (Nat.le_refl _) _).alloc (by rw [size_alloc]; omega) _) (fun k _ hk => by
    rcases hk with rfl | hk
    · exact Nat.le_refl _
    · cases hk)
  exact ⟨v2, rfl, owned_base own2 (fun g hg => by have := (owned_lt own2 hg).1; omega), hb1.trans (hb2.mono hb1.size)⟩
/-- the cells of a text, in a block of bytes -/
def TextAt (w : World) (e : TypeId) (g : Nat) (s : ByteArray) : Prop := (∃ cs fz, w.heap[g]? = some (.cells cs e fz)) ∧ ∀ j, j < s.size → w.cell? ⟨g, j, none⟩ = some (.int .u8 ((s.data.toList.getD j 0).toNat : Int))
/-- a text as bytes, the world behind it a variable -/
theorem wpList_text {P : Program} {ops : Array Oper} {rest : List Oper} {o : Oper} {a : Act} {w : World} {Q : Exit → Act → World → Prop} (hg : o.guard = none) (src dst e : TypeId) (x : Operand) (ho : o.op = .convert src dst x)
    (hs : P.underlying src = some .string) (hd : P.underlying dst = some (.slice e)) (he : P.underlying e = some (.int .u8)) (s : ByteArray) (hx : a.eval x = .string s)
    (h : ∀ g cap w', TextAt w' e g s → s.size ≤ cap → w.heap.size ≤ g → g < w'.heap.size → Below w.heap.size w w' →
      wpList P ops Q rest (a.put o.dst (.slice (some ⟨g, 0, none⟩) s.size cap)) w') : wpList P ops Q (o :: rest) a w :=
  wpList_plain hg fun K hK => by
    unfold Oper.wp execOp
    simp only [ho, hx, Sem.run_bind, run_bytes_of_string w src dst e s hs hd he, Result.andThen_ok, Sem.run_pure]
    refine hK _ _ (h w.heap.size (grownCap w s.size 0 e) _ ⟨?_, ?_⟩ (grownCap_ge w s.size 0 e) (Nat.le_refl _) ?_ ?_)
    · exact ⟨_, _, heap_alloc_new w.drew _⟩
    · intro j hj
      refine (World.cell?_alloc_mark w.drew _ e _ j).trans ?_
      rw [bytesRow_at s _ j hj]
      have hj' : j < s.data.size := hj
      simp [List.getD, Array.getElem?_eq_getElem hj']
    · show _ < (w.heap.push _).size
      simp
    · exact ((Below.refl _ _).drew).alloc (Nat.le_refl _) _
/-- bytes that can be read, and that lie ahead of a block, or in a block of bytes -/
def TB (w : World) (base : Nat) (u : Value) (l : List UInt8) : Prop :=
  ∃ A cap, u = .slice A l.length cap ∧ l.length ≤ cap ∧ (0 < l.length → ∃ b off, A = some ⟨b, off, none⟩ ∧ b < w.heap.size ∧ (b < base ∨ ∃ cs fz, w.heap[b]? = some (.cells cs 5 fz)) ∧ ∀ j, j < l.length → w.cell? ⟨b, off + j, none⟩ = some (.int .u8 ((l.getD j 0).toNat : Int)))
theorem TB.bytes {w : World} {base : Nat} {u : Value} {l : List UInt8} (h : TB w base u l) : BytesAt w w.heap.size u l := by
  obtain ⟨A, cap, hu, hc, hA⟩ := h
  exact ⟨A, cap, hu, hc, fun h0 => by obtain ⟨b, off, h1, h2, _, h3⟩ := hA h0; exact ⟨b, off, h1, h2, h3⟩⟩
theorem TB.keep {w w' : World} {base : Nat} {u : Value} {l : List UInt8} (h : TB w base u l) (hs : w.heap.size ≤ w'.heap.size) (hk : ∀ b, b < w.heap.size → (b < base ∨ ∃ cs fz, w.heap[b]? = some (.cells cs 5 fz)) → w'.heap[b]? = w.heap[b]?) : TB w' base u l := by
  obtain ⟨A, cap, hu, hc, hA⟩ := h
  refine ⟨A, cap, hu, hc, fun h0 => ?_⟩
  obtain ⟨b, off, h1, h2, h3, h4⟩ := hA h0
  have e := hk b h2 h3
  refine ⟨b, off, h1, by omega, ?_, fun j hj => (World.cell?_of_block e).trans (h4 j hj)⟩
  rcases h3 with h3 | ⟨cs, fz, h3⟩
  · exact .inl h3
  · exact .inr ⟨cs, fz, e.trans h3⟩
theorem TB.below {w w' : World} {base : Nat} {u : Value} {l : List UInt8} (h : TB w base u l) (hb : Below w.heap.size w w') : TB w' base u l := h.keep hb.size fun b hb' _ => hb.block b hb'
theorem TB.of_bytes {w : World} {B base : Nat} {u : Value} {l : List UInt8} (h : BytesAt w B u l) (hB : B ≤ base) (hw : B ≤ w.heap.size) : TB w base u l := by
  obtain ⟨A, cap, hu, hc, hA⟩ := h
  exact ⟨A, cap, hu, hc, fun h0 => by obtain ⟨b, off, h1, h2, h3⟩ := hA h0; exact ⟨b, off, h1, by omega, .inl (by omega), h3⟩⟩
theorem TB.of_owned {w : World} {base base' : Nat} {u : Value} {l : List UInt8} (h : w.ownsRow base' 5 1 u l.length (bv l)) : TB w base u l := by
  obtain ⟨A, cap, hu, hc, hA⟩ := bytesAt_owned h
  refine ⟨A, cap, hu, hc, fun h0 => ?_⟩
  obtain ⟨b, off, h1, h2, h3⟩ := hA h0
  refine ⟨b, off, h1, h2, .inr ?_, h3⟩
  subst h1
  rcases owned_form h with ⟨e, _⟩ | ⟨g, cp, cur, e, _, _, _, hb, _⟩
  · rw [hu] at e; injection e with e; cases e
  · rw [hu] at e
    injection e with e
    injection e with e
    injection e with e
    subst e
    exact ⟨cur, (0, 0), hb⟩
theorem TB.of_text {w : World} {base g cap : Nat} {s : ByteArray} (hc : s.size ≤ cap) (hg : g < w.heap.size) (h : TextAt w 5 g s) :
    TB w base (.slice (some ⟨g, 0, none⟩) s.size cap) s.data.toList :=
  ⟨_, cap, by simp, by simpa using hc, fun _ => ⟨g, 0, rfl, hg, .inr h.1, fun j hj => by rw [Nat.zero_add]; exact h.2 j (by simpa using hj)⟩⟩
theorem TB.one {w : World} {base : Nat} {u : Value} {l : List UInt8} (h : TB w base u l) : u.oneCell' = true := by
  obtain ⟨_, _, rfl, _⟩ := h
  rfl
/-- a row of texts that one owns -/
structure TRow (w : World) (base : Nat) (v : Value) (us : List Value) (ls : List (List UInt8)) : Prop where
  own : w.ownsRow base 32 1 v us.length us
  len : us.length = ls.length
  at_ : ∀ j, j < ls.length → TB w base (us.getD j undef) (ls.getD j [])
theorem TRow.keep {w w' : World} {base : Nat} {v : Value} {us : List Value} {ls : List (List UInt8)} (h : TRow w base v us ls) (hb : Below w.heap.size w w') : TRow w' base v us ls :=
  ⟨owned_keep h.own fun g _ hlt => hb.block g hlt, h.len, fun j hj => (h.at_ j hj).below hb⟩
theorem TRow.one {w : World} {base : Nat} {v : Value} {us : List Value} {ls : List (List UInt8)} (h : TRow w base v us ls) : ∀ u ∈ us, u.oneCell' = true := by
  intro u hu
  obtain ⟨j, hj⟩ := List.getElem?_of_mem hu
  have hjl : j < us.length := (List.getElem?_eq_some_iff.1 hj).1
  have := (h.at_ j (by rw [← h.len]; exact hjl)).one
  rwa [List.getD_eq_getElem?_getD, hj] at this
theorem TRow.parts {w : World} {base : Nat} {v : Value} {us : List Value} {ls : List (List UInt8)} (h : TRow w base v us ls) : PartsAt w w.heap.size v ls := by
  have hl := h.len
  rcases owned_form h.own with ⟨rfl, h0, _⟩ | ⟨g, cap, cur, rfl, _, hc, _, hb, _, ht, hlt⟩
  · exact ⟨none, 0, by rw [← hl, h0], by omega, fun h => by omega⟩
  · refine ⟨_, cap, by rw [hl], by omega, fun _ => ⟨g, 0, rfl, hlt, fun j hj => ⟨us.getD j undef, ?_, (h.at_ j hj).bytes⟩⟩⟩
    rw [Nat.zero_add, hb.cell]
    have h1 : cur.toList[j]? = us[j]? := by
      rw [← ht, List.getElem?_take_of_lt (by omega)]
    rw [← Array.getElem?_toList, h1, List.getD_eq_getElem?_getD, List.getElem?_eq_getElem (by omega)]
    rfl
/-- the row grown by texts that are there -/
theorem TRow.grow {w w' : World} {base : Nat} {v v' : Value} {us ns : List Value} {ls ms : List (List UInt8)} (h : TRow w base v us ls) (hv : ∀ g, v.ownBlock = some g → base ≤ g) (ho : w'.ownsRow base 32 1 v' (us.length + ns.length) (us ++ ns)) (hg : w.grownBy w' v.ownBlock)
    (hn : ns.length = ms.length) (hm : ∀ j, j < ms.length → TB w base (ns.getD j undef) (ms.getD j [])) : TRow w' base v' (us ++ ns) (ls ++ ms) := by
  have hk : ∀ (u : Value) (l : List UInt8), TB w base u l → TB w' base u l := fun u l ht => ht.keep hg.size fun b hb hor => by
    refine hg.block b hb fun e => ?_
    rcases hor with hlt | ⟨cs, fz, hh⟩
    · have := hv b e.symm; omega
    · rcases owned_form h.own with ⟨rfl, _⟩ | ⟨q, cap, cur, rfl, _, _, _, hq, _⟩
      · cases e
      · injection e with e
        change b = q at e
        subst e
        unfold Blk at hq
        rw [hq] at hh
        injection hh with hh
        injection hh with _ hh
        exact absurd hh (by decide)
  have hl := h.len
  refine ⟨by rw [List.length_append]; exact ho, by rw [List.length_append, List.length_append, hl, hn], fun j hj => ?_⟩
  rw [List.length_append] at hj
  by_cases hjl : j < ls.length
  · have := hk _ _ (h.at_ j hjl)
    rw [List.getD_eq_getElem?_getD, List.getD_eq_getElem?_getD, List.getElem?_append_left (by omega), List.getElem?_append_left (by omega), ← List.getD_eq_getElem?_getD, ← List.getD_eq_getElem?_getD]
    exact this
  · have := hk _ _ (hm (j - ls.length) (by omega))
    rw [List.getD_eq_getElem?_getD, List.getD_eq_getElem?_getD, List.getElem?_append_right (by omega), List.getElem?_append_right (by omega), hl, ← List.getD_eq_getElem?_getD, ← List.getD_eq_getElem?_getD]
    exact this
theorem size_hash : (Try.prog.info? 27).map (·.size) = some 20 := by kernel_rfl
def z20 : Array Value := (bv (List.replicate 20 0)).toArray
/-- a tag and parts, each with its length ahead -/
def tx (t : List UInt8) (ls : List (List UInt8)) : List (List UInt8) := [num t.length, t] ++ ls.flatMap fun l => [num l.length, l]
theorem tx_snoc (t : List UInt8) (ls : List (List UInt8)) (l : List UInt8) : tx t (ls ++ [l]) = tx t ls ++ [num l.length, l] := by simp [tx]
theorem length_tx (t : List UInt8) (ls : List (List UInt8)) : (tx t ls).length = 2 + 2 * ls.length := by
  induction ls with
  | nil => rfl
  | cons l ls ih => simp only [tx, List.flatMap_cons, List.length_append, List.length_cons, List.length_nil] at ih ⊢; omega
theorem flat_tx (t : List UInt8) (ls : List (List UInt8)) (ht : t.length < 18446744073709551616) (hl : ∀ l ∈ ls, l.length < 18446744073709551616) : (tx t ls).flatten.length ≤ 10 + t.length + 10 * ls.length + ls.flatten.length := by
  induction ls with
  | nil => have := num_len t.length ht; simp [tx]; omega
  | cons l ls ih =>
    have := ih (fun x hx => hl x (by simp [hx]))
    have h2 := num_len l.length (hl l (by simp))
    simp only [tx, List.flatMap_cons, List.flatten_append, List.flatten_cons, List.flatten_nil, List.length_append, List.length_cons, List.length_nil] at this ⊢
    omega
/-- the folded digest of a tag and parts -/
def ofB (t : List UInt8) (ls : List (List UInt8)) : List UInt8 := fold (Sha.sum (tx t ls).flatten) 32
theorem sum_len (l : List UInt8) : (Sha.sum l).length = 32 := by rw [Sha.sum, length_out]
theorem info_row : (Try.prog.info? 32).map (fun i => (i.zero, i.size, i.bytes)) = some (some (.slice none 0 0), 1, 24) := by kernel_rfl
theorem two_own (w : World) (e : TypeId) (a b : Value) : (w.alloc (.cells #[a, b] e)).ownsRow w.heap.size e 1 (.slice (some ⟨w.heap.size, 0, none⟩) 2 2) 2 [a, b] :=
  ⟨rfl, .inr ⟨w.heap.size, 2, #[a, b], rfl, Nat.le_refl _, Blk.new w e _, Nat.le_refl _, by simp only [maxLen]; omega, rfl, rfl⟩⟩
theorem two_src (w : World) (e : TypeId) (a b : Value) (ha : a.oneCell' = true) (hb : b.oneCell' = true) : Src (w.alloc (.cells #[a, b] e)) (some ⟨w.heap.size, 0, none⟩) 2 2 [a, b] :=
  ⟨rfl, (by intro h; cases h), (by
    intro u hu
    simp only [List.mem_cons, List.not_mem_nil, or_false] at hu
    rcases hu with rfl | rfl
    · exact ha
    · exact hb), (by
    intro ad had j u hu
    injection had with had
    subst had
    have h := (Blk.new w e #[a, b]).cell j
    have e2 : (⟨w.heap.size, 0, none⟩ : Addr).add j = ⟨w.heap.size, j, none⟩ := by unfold Addr.add; split <;> simp_all
    rw [e2, h, ← hu]
    simp)⟩
end Go.Proofs.Ytidiepbmbbflhaa
end
section
namespace Go.Proofs.Ytidiepbmbbflhaa
open Go.RowKit
theorem tx_take (t : List UInt8) (ls : List (List UInt8)) (k : Nat) (h : k < ls.length) : tx t (ls.take (k + 1)) = tx t (ls.take k) ++ [num (ls.getD k []).length, ls.getD k []] := by
  rw [List.take_succ_eq_append_getElem h, tx_snoc]
  simp [List.getD, h]
theorem mem_flat_le {ls : List (List UInt8)} {l : List UInt8} (h : l ∈ ls) : l.length ≤ ls.flatten.length := by
  induction ls with
  | nil => cases h
  | cons x xs ih =>
    rw [List.flatten_cons, List.length_append]
    rcases List.mem_cons.1 h with rfl | h
    · omega
    · have := ih h; omega
set_option maxRecDepth 100000 in
set_option maxHeartbeats 1000000 in
theorem of_any (tag : ByteArray) (t : List UInt8) (ht : t = tag.data.toList) (htl : tag.size ≤ 1000000000) (ls : List (List UInt8)) (hl : ls.flatten.length ≤ 1000000000) (hn : ls.length ≤ 1000000000) (v : Value) (w : World) (B : Nat) (hB : B ≤ w.heap.size) (hp : PartsAt w B v ls) :
    Calls Try.prog 38 #[.string tag, v] w fun e w' => e = .returned (.agg (bv (ofB t ls)).toArray) ∧ Below w.heap.size w w' := by
  obtain ⟨A, cap, rfl, hcap, hA⟩ := hp
  have htn : t.length = tag.size := by rw [ht]; simp
  obtain ⟨i, hi, hz0, hz1, hz2⟩ := info_parts info_row
  have hll : ∀ l ∈ ls, l.length < 18446744073709551616 := fun l h => by have := mem_flat_le h; omega
  have hsum : (tx t ls).flatten.length ≤ 1099511627000 := by have := flat_tx t ls (by omega) hll; omega
  have HSUM := hide hsum
  have HA := hide hA
  have HT := hide ht
  have HTN := hide htn
  clear hA ht htn hll hsum
  obtain ⟨R, hR⟩ : ∃ R, R = w.heap.size := ⟨_, rfl⟩
  have HR := hide hR
  clear hR
  go_enter Try.func38, Try.ntmps38
  go_step
  go_step
  apply wp_region_lit
  refine wpList_value (o := ⟨some 4, _, _, _, _, _⟩) rfl (.pointer (some ⟨R, 0, none⟩)) (w.alloc (.cells z20 27)) (by rw [HR.out]; kernel_rfl) ?_
  dsimp only [Act.put, List.setIfInBounds_toArray, List.set_cons_zero, List.set_cons_succ]
  obtain ⟨w0, hw0⟩ : ∃ w0, w0 = w.alloc (.cells z20 27) := ⟨_, rfl⟩
  have hb0 : Blk w0 R 27 z20 := by rw [hw0, HR.out]; exact Blk.new _ _ _
  have hbl0 : Below w.heap.size w w0 := by rw [hw0]; exact (Below.refl _ _).alloc (Nat.le_refl _) _
  rw [← hw0]
  clear hw0
  have HB0 := hide (And.intro hb0 hbl0)
  clear hb0 hbl0
  go_wp2_with (first
    | (go_at_call 46; refine (length_any tag.size (by omega) _).mono ?_; rintro e w1 ⟨v1, rfl, own1, hb1⟩; obtain ⟨A1, k1, rfl⟩ := owned_slice own1; have HX1 := hide (And.intro own1 hb1); clear own1 hb1)
    | ((with_reducible refine at_slot 12 ?_); (with_reducible refine wpList_text (o := ⟨some 12, _, _, _, _, _⟩) rfl 9 32 5 (.tmp 11) rfl Try.underlying9 Try.underlying32 Try.underlying5 tag rfl ?_); intro g2 k2 w2 ht2 hc2 hg2 hl2 hb2; have HX2 := hide (And.intro ht2 (And.intro hc2 (And.intro hg2 (And.intro hl2 hb2)))); clear ht2 hc2 hg2 hl2 hb2))
  obtain ⟨b0, hb0⟩ : ∃ b0, b0 = w0.heap.size := ⟨_, rfl⟩
  have HB00 := hide hb0
  have hrow0 : TRow (w2.alloc (.cells #[.slice A1 (num tag.size).length k1, .slice (some ⟨g2, 0, none⟩) tag.size k2] 32)) b0 (.slice (some ⟨w2.heap.size, 0, none⟩) 2 2) [.slice A1 (num tag.size).length k1, .slice (some ⟨g2, 0, none⟩) tag.size k2] (tx t []) := by
    obtain ⟨own1, hb1⟩ := HX1.out
    obtain ⟨ht2, hc2, hg2, hl2, hb2⟩ := HX2.out
    have q1 : TB w1 b0 (.slice A1 (num tag.size).length k1) (num tag.size) := TB.of_owned own1
    have q2 : TB w2 b0 (.slice (some ⟨g2, 0, none⟩) tag.size k2) t := by
      have h := TB.of_text (base := b0) hc2 hl2 ht2
      rwa [← HT.out] at h
    have al : Below w2.heap.size w2 (w2.alloc (.cells #[.slice A1 (num tag.size).length k1, .slice (some ⟨g2, 0, none⟩) tag.size k2] 32)) := (Below.refl _ _).alloc (Nat.le_refl _) _
    refine ⟨owned_base (two_own _ _ _ _) (fun g hg => ?_), rfl, fun j hj => ?_⟩
    · injection hg with hg
      change w2.heap.size = g at hg
      have := hb1.size; have := hb2.size; omega
    · have hj2 : j < 2 := hj
      match j, hj2 with
      | 0, _ => rw [show (tx t []).getD 0 [] = num tag.size by rw [← HTN.out]; rfl]; exact (q1.below hb2).below al
      | 1, _ => exact q2.below al
  have hbl0 : Blk (w2.alloc (.cells #[.slice A1 (num tag.size).length k1, .slice (some ⟨g2, 0, none⟩) tag.size k2] 32)) R 27 z20 ∧ Below w.heap.size w (w2.alloc (.cells #[.slice A1 (num tag.size).length k1, .slice (some ⟨g2, 0, none⟩) tag.size k2] 32)) ∧ b0 ≤ (w2.alloc (.cells #[.slice A1 (num tag.size).length k1, .slice (some ⟨g2, 0, none⟩) tag.size k2] 32)).heap.size := by
    obtain ⟨own1, hb1⟩ := HX1.out
    obtain ⟨ht2, hc2, hg2, hl2, hb2⟩ := HX2.out
    obtain ⟨c0, c1⟩ := HB0.out
    have s1 := hb1.size
    have s2 := hb2.size
    have l0 := c0.lt
    have l1 := c1.size
    refine ⟨((c0.below hb1 l0).below hb2 (by omega)).alloc _, ((c1.trans (hb1.mono l1)).trans (hb2.mono (by omega))).alloc (by omega) _, ?_⟩
    rw [size_alloc]; omega
  have hRb : R < b0 := by have := HB0.out.1.lt; omega
  have HROW := hide hrow0
  have HBL := hide hbl0
  clear hrow0 hbl0 hb0
  go_loopw [5, 16] (fun v5 i wr => ∃ (k : Nat) (us : List Value), k ≤ ls.length ∧ i = .int .i64 (k : Int) ∧ TRow wr b0 v5 us (tx t (ls.take k)) ∧ Blk wr R 27 z20 ∧ Below w.heap.size w wr ∧ b0 ≤ wr.heap.size) (fun _ i _ => ls.length - (intOf i).toNat)
  case atStart => exact ⟨0, _, by omega, rfl, HROW.out, HBL.out.1, HBL.out.2.1, HBL.out.2.2⟩
  case round =>
    obtain ⟨k, us, hk, rfl, hrow, hbR, hbw, hbs⟩ := hrel
    by_cases hlt : k < ls.length
    · obtain ⟨b, off, rfl, hbB, hcells⟩ := HA.out (by omega)
      obtain ⟨u, hu, hby⟩ := hcells k hlt
      have ha : Alike B w wr := alike_of_below (hbw.mono hB)
      have cu : wr.cell? ⟨b, off + k, none⟩ = some u := (ha.cell (p := ⟨b, off + k, none⟩) hbB).trans hu
      obtain ⟨l, hl'⟩ : ∃ l, l = ls.getD k [] := ⟨_, rfl⟩
      have hll : l.length ≤ ls.flatten.length := mem_flat_le (by rw [hl']; simp [List.getD, hlt])
      rw [← hl'] at hby
      have htb : TB wr b0 u l := TB.of_bytes (hby.alike ha) (by have := HB0.out.2.size; have := HB00.out; omega) (by have := hbw.size; omega)
      obtain ⟨Aj, cj, rfl, hcj, _⟩ := id hby
      have HU := hide (And.intro htb hl')
      have hus : us.length = 2 + 2 * k := by rw [hrow.len, length_tx, List.length_take]; omega
      obtain ⟨A5, k5, rfl⟩ := owned_slice hrow.own
      have HRO := hide hrow
      have HK := hide (And.intro hbR (And.intro hbw hbs))
      have i1 : (0 : Int) ≤ (k : Int) := by omega
      have i2 : (k : Int) < (ls.length : Int) := by omega
      have HUS := hide hus
      clear hu hby hcells hl' htb hrow hbR hbw hus
      go_wp2_with (first
        | (go_at_call 46; refine (length_any l.length (by omega) _).mono ?_; rintro e w3 ⟨v3, rfl, own3, hb3⟩; obtain ⟨A3, k3, rfl⟩ := owned_slice own3; have HX3 := hide (And.intro own3 hb3); clear own3 hb3)
        | (at_builtin; (refine wpList_app rfl _ _ 88 rfl b0 32 i (.slice none 0 0) 24 Try.underlying88 hi hz0 hz1 hz2 rfl (.slice A5 us.length k5) us.length us ?h0 _ 2 2 [.slice A3 (num l.length).length k3, .slice Aj l.length cj] (two_src _ _ _ _ rfl rfl) ?h1 ?h2 ?h3 rfl rfl ?_)))
      case h0 => exact owned_keep HRO.out.own fun q _ hq => (Below.heap_alloc w3 _ q (by have := HX3.out.2.size; omega)).trans (HX3.out.2.block q hq)
      case h1 => have := HUS.out; simp only [maxLen]; omega
      case h2 => have := HUS.out; omega
      case h3 => have := HX3.out.2.size; have := HK.out.2.2; rw [size_alloc]; omega
      intro v5 w5 own5 gr5 _ _
      have hwr3 : Below wr.heap.size wr (w3.alloc (.cells #[.slice A3 (num l.length).length k3, .slice Aj l.length cj] 32)) := HX3.out.2.alloc HX3.out.2.size _
      have hgrow : TRow w5 b0 v5 (us ++ [.slice A3 (num l.length).length k3, .slice Aj l.length cj]) (tx t (ls.take k) ++ [num l.length, l]) := by
        refine (HRO.out.keep hwr3).grow (fun g hg => (owned_lt HRO.out.own hg).1) own5 gr5 rfl fun j hj => ?_
        have hj2 : j < 2 := hj
        match j, hj2 with
        | 0, _ => exact (TB.of_owned HX3.out.1).below ((Below.refl _ _).alloc (Nat.le_refl _) _)
        | 1, _ => exact HU.out.1.below hwr3
      have hfr : Blk w5 R 27 z20 ∧ Below w.heap.size w w5 ∧ b0 ≤ w5.heap.size := by
        obtain ⟨c0, c1, c2⟩ := HK.out
        have s3 := hwr3.size
        refine ⟨((c0.below hwr3 c0.lt)).grown gr5 (fun e => ?_), ((c1.trans (hwr3.mono c1.size)).grown gr5 (by have := c1.size; omega) (fun q hq => ?_)), by have := gr5.size; omega⟩
        · have := (owned_lt HRO.out.own e.symm).1; omega
        · have := (owned_lt HRO.out.own hq).1; have := HB00.out; have := HB0.out.2.size; omega
      obtain ⟨A6, k6, rfl⟩ := owned_slice own5
      have HG := hide (And.intro hgrow hfr)
      clear own5 gr5 hwr3 hgrow hfr
      go_wp2_with fail
      go_roundw
      case rel =>
        obtain ⟨hgrow, h1, h2, h3⟩ := HG.out
        refine ⟨k + 1, us ++ [.slice A3 (num l.length).length k3, .slice Aj l.length cj], by omega, by go_num, ?_, h1, h2, h3⟩
        rw [tx_take t ls k hlt, ← HU.out.2]
        exact hgrow
      case measure => simp [intOf]; omega
    · obtain rfl : k = ls.length := by omega
      rw [List.take_of_length_le (Nat.le_refl _)] at hrow
      have hpar := hrow.parts
      have hlen : (tx t ls).length = 2 + 2 * ls.length := length_tx t ls
      obtain ⟨D, hD⟩ : ∃ D, D = Sha.sum (tx t ls).flatten := ⟨_, rfl⟩
      have hDl : D.length = 32 := by rw [hD]; exact sum_len _
      have hsz : (Try.prog.info? 27).map (·.size) = some (bv (fold D 32)).toArray.size := by rw [List.size_toArray, bv, List.length_map, length_fold]; exact size_hash
      have hzs : z20.size = (bv (fold D 32)).toArray.size := by
        have e : (bv (fold D 32)).toArray.size = 20 := by rw [List.size_toArray, bv, List.length_map, length_fold]
        rw [e]; rfl
      have HP := hide hpar
      have HK := hide (And.intro hbR (And.intro hbw hbs))
      have HDD := hide hD
      have HDL := hide hDl
      have HLE := hide hlen
      clear hrow hpar hbR hbw hbs hDl hlen hD
      go_wp2_with (first
        | (go_at_call 48; refine (sum_any (tx t ls) HSUM.out (by rw [HLE.out]; omega) _ _ wr.heap.size (Nat.le_refl _) HP.out).mono ?_; rintro e w6 ⟨rfl, hb6⟩; rw [← HDD.out]; have HX6 := hide hb6; clear hb6)
        | (go_at_call 47; refine (fold_any D HDL.out _).mono ?_; rintro e w7 ⟨rfl, hb7⟩; have HX7 := hide hb7; clear hb7; have HR7 := hide ((HK.out.1.below HX6.out HK.out.1.lt).below HX7.out (Nat.lt_of_lt_of_le HK.out.1.lt HX6.out.size)))
        | ((with_reducible refine wpList_store_blkA (o := ⟨none, _, _, _, _, _⟩) rfl 27 (.tmp 4) (.tmp 30) rfl R z20 (bv (fold D 32)).toArray 27 HR7.out hsz hzs (bv_one _) ?_ ?_ ?_); rfl; rfl; intro w9 h9 hg9; dsimp only [Act.put]))
      refine bodyPost_ret (results_cell_blk rfl _ _ R 27 (bv (fold D 32)).toArray _ _ rfl h9 Try.underlying27 hsz) rfl ⟨by rw [ofB, ← HDD.out], ?_⟩
      obtain ⟨c0, c1, c2⟩ := HK.out
      have s6 := HX6.out.size
      have s7 := HX7.out.size
      have s1 := c1.size
      have hRw := HR.out
      refine (((c1.trans (HX6.out.mono s1)).trans (HX7.out.mono (by omega)))).grown hg9 (by omega) ?_
      intro x hx; injection hx with hx; omega
end Go.Proofs.Ytidiepbmbbflhaa
end
section
namespace Go.Proofs.Ytidiepbmbbflhaa
open Go Go.RowKit Go.Maps
set_option maxRecDepth 100000
set_option maxHeartbeats 1000000 in
theorem written_ok (w : World) (d : Drv) (v1 v2 : Value) (h : DrvAt w w.heap.size d v1 v2) (hp : putE d = 0) :
    Calls Try.prog 37 #[.agg (dC d v1 v2).toArray] w fun e w' => ∃ g cap, e = .returned (.slice (some ⟨g, 0, none⟩) (textP d).size cap) ∧ BytesOf w' g (textP d) ∧ (textP d).size ≤ cap ∧ w.heap.size ≤ g ∧ g < w'.heap.size ∧ Below w.heap.size w w' := by
  go_enter Try.func37, Try.ntmps37
  go_wp2_with (first | ((with_reducible refine at_slot 1 ?_); (refine wpList_boxA (o := ⟨some 1, _, _, _, _, _⟩) rfl 34 (.tmp 0) rfl (dC d v1 v2).toArray rfl ?_); intro w1 hn; have H1 := hide hn; clear hn; simp only [Act.put, List.setIfInBounds_toArray, List.set_cons_zero, List.set_cons_succ]) | ((with_reducible refine at_slot 6 ?_); (refine wpList_value (o := ⟨some 6, _, _, _, _, _⟩) rfl (.agg ((dC d v1 v2).toArray)) w1 (exec_load_blk (o := ⟨some 6, _, _, _, _, _⟩) 34 (.tmp 1) rfl w.heap.size rfl 34 _ _ w1 H1.out.blk Try.underlying34 rfl (by kernel_rfl)) ?_)))
  refine (put_any w1 d v1 v2 (h.alike9 H1.out.below)).mono ?_
  rintro e w2 ⟨v, rfl, hv, hb⟩
  dsimp only
  obtain ⟨g, cap, rfl, k1, k2, k3, k4⟩ := hv hp
  rw [hp]
  have H2 := hide (And.intro k1 (And.intro k2 (And.intro (Nat.le_trans H1.out.below.size k3) (And.intro k4 (H1.out.below.trans (Below.mono hb H1.out.below.size))))))
  clear k1 k2 k3 k4 hb hv
  go_wp2_with fail
  refine (must_ok 0 w2).mono ?_
  rintro e w3 ⟨rfl, rfl⟩
  dsimp only
  go_wp2_with fail
  go_ret
  exact ⟨g, cap, rfl, H2.out⟩
set_option maxHeartbeats 1000000 in
theorem written_no (w : World) (d : Drv) (v1 v2 : Value) (h : DrvAt w w.heap.size d v1 v2) (hp : ¬ putE d = 0) :
    Calls Try.prog 37 #[.agg (dC d v1 v2).toArray] w fun e w' => e = .panicked [{ v := thrown (putE d), recovered := false }] ∧ Below w.heap.size w w' := by
  go_enter Try.func37, Try.ntmps37
  go_wp2_with (first | ((with_reducible refine at_slot 1 ?_); (refine wpList_boxA (o := ⟨some 1, _, _, _, _, _⟩) rfl 34 (.tmp 0) rfl (dC d v1 v2).toArray rfl ?_); intro w1 hn; have H1 := hide hn; clear hn; simp only [Act.put, List.setIfInBounds_toArray, List.set_cons_zero, List.set_cons_succ]) | ((with_reducible refine at_slot 6 ?_); (refine wpList_value (o := ⟨some 6, _, _, _, _, _⟩) rfl (.agg ((dC d v1 v2).toArray)) w1 (exec_load_blk (o := ⟨some 6, _, _, _, _, _⟩) 34 (.tmp 1) rfl w.heap.size rfl 34 _ _ w1 H1.out.blk Try.underlying34 rfl (by kernel_rfl)) ?_)))
  refine (put_any w1 d v1 v2 (h.alike9 H1.out.below)).mono ?_
  rintro e w2 ⟨v, rfl, hv, hb⟩
  dsimp only
  obtain ⟨pe, hpe⟩ : ∃ pe, pe = putE d := ⟨_, rfl⟩
  rw [← hpe] at hp ⊢
  have H2 := hide (And.intro hpe (H1.out.below.trans (Below.mono hb H1.out.below.size)))
  have hne : (pe == 0) = false := by simpa using hp
  clear hb hv hpe
  go_wp2_with fail
  refine (must_no pe w2).mono ?_
  rintro e w3 ⟨rfl, rfl⟩
  dsimp only
  change bodyPost Try.prog Try.f37 _ _ _ _
  simp only [bodyPost]
  exact ⟨trivial, by rw [H2.out.1], H2.out.2⟩
end Go.Proofs.Ytidiepbmbbflhaa
end
section
namespace Go.Proofs.Ytidiepbmbbflhaa
open Go Go.RowKit
theorem exec_buildN {P : Program} {ρ : Operand → Value} {o : Oper} (t : TypeId) (xs : Array (Nat × Operand)) (ho : o.op = .build t xs) {fields : Array Field} {places : Array (Nat × Nat)} {z : Value} {cells : Array Value} (ht : P.underlying t = some (.struct fields)) (hz : ∀ w, (zeroValue t).run P w = .ok z w)
    (hpl : ∀ w, (fields.mapM fun f => do pure (f.offset, ← sizeOf f.type) : Sem (Array (Nat × Nat))).run P w = .ok places w) (parts : List (Nat × Value)) (hx : (xs.map fun (i, x) => (i, ρ x)) = parts.toArray) (hf : Instr.fill (fun i => places[i]?) z.cells parts = some cells) (w : World) :
    (execOp ρ o).run P w = .ok (.value (.agg cells)) w := by
  have h : (Instr.build t parts.toArray).run P w = .ok (.agg cells) w := by
    unfold Instr.build
    simp only [Sem.run_bind, hz, Result.andThen_ok, run_underlying ht]
    rw [hpl]
    simp only [Result.andThen_ok]
    rw [hf]
    rfl
  unfold execOp
  simp only [ho, hx, Sem.run_bind, h, Result.andThen_ok, Sem.run_pure]
end Go.Proofs.Ytidiepbmbbflhaa
end
section
namespace Go.Proofs.Ytidiepbmbbflhaa
open Go Go.RowKit Go.Maps
set_option maxRecDepth 100000
def namN (j m : Nat) : Nam := (⟨#[UInt8.ofNat (97 + j)]⟩, ((List.replicate 20 0, ⟨#[]⟩), hashN m, true))
/-- what an item of an example needs -/
def nds (ns : List Nat) : List Nam := ns.zipIdx.map fun p => namN p.2 p.1
def itemP (n : Nat) (ns : List Nat) : Itm := (hashN n, (⟨#[100]⟩, nds ns, []))
theorem nds_len (ns : List Nat) : (nds ns).length = ns.length := by simp [nds]
theorem nds_step {ns : List Nat} {j m : Nat} (h : ns[j]? = some m) : nds (ns.take (j + 1)) = nds (ns.take j) ++ [namN j m] := by
  have hj := (List.getElem?_eq_some_iff.1 h).1
  unfold nds
  rw [List.take_add_one, h, List.zipIdx_append, List.map_append, List.length_take, Nat.min_eq_left (by omega)]
  simp
theorem namN_ok (j m : Nat) : okN (namN j m) := ⟨(by show 1 ≤ maxLen; decide), ⟨rfl, Nat.zero_le _⟩, hashN_ok m⟩
theorem nds_ok (ns : List Nat) : ∀ x ∈ nds ns, okN x := fun x hx => by
  obtain ⟨p, _, rfl⟩ := List.mem_map.1 hx
  exact namN_ok _ _
/-- the cells of an example's item -/
def itC (n : Nat) (u : Value) : List Value := bv (hashN n) ++ [.string ⟨#[100]⟩, u, .slice none 0 0]
theorem itC_eq (n : Nat) (ns : List Nat) (u : Value) : itC n u = tC (itemP n ns) u (.slice none 0 0) := rfl
theorem itC_len (n : Nat) (u : Value) : (itC n u).length = 23 := rfl
theorem itC_one (n : Nat) {u : Value} (h : u.oneCell' = true) : (itC n u).toArray.all (·.oneCell') = true := all_oneCell_toArray fun v hv => by
  rcases List.mem_append.1 hv with hv | hv
  · exact bv1 _ v hv
  · simp only [List.mem_cons, List.not_mem_nil, or_false] at hv
    rcases hv with rfl | rfl | rfl
    · rfl
    · exact h
    · rfl
theorem itC_set (n : Nat) (u v : Value) : ((itC n u).toArray).set! 21 v = (itC n v).toArray := rfl
theorem exec_itm {ρ : Operand → Value} {o : Oper} (x y : Operand) (ho : o.op = .build 43 #[(0, x), (1, y)]) (n : Nat) (h1 : ρ x = .agg (bv (hashN n)).toArray) (h2 : ρ y = .agg #[.string ⟨#[100]⟩, .slice none 0 0, .slice none 0 0]) (w : World) :
    (execOp ρ o).run Try.prog w = .ok (.value (.agg (itC n (.slice none 0 0)).toArray)) w := by
  refine Eq.trans (exec_build2 43 x y ho (n1 := 20) (n2 := 3) (z := .agg zcT) h1 h2 Try.underlying43 (fun w => by kernel_rfl) (by kernel_rfl) (fun w => by kernel_rfl) (by kernel_rfl) (by kernel_rfl) w) ?_
  rfl
def zcI : Array Value := ((bv (List.replicate 20 0) ++ [Value.string ByteArray.empty]) ++ (bv (List.replicate 20 0) ++ [Value.bool false])).toArray
theorem exec_inp {ρ : Operand → Value} {o : Oper} (x y : Operand) (ho : o.op = .build 70 #[(1, x), (2, y)]) (m : Nat) (h1 : ρ x = .agg (bv (hashN m)).toArray) (h2 : ρ y = .bool true) (w : World) :
    (execOp ρ o).run Try.prog w = .ok (.value (.agg (iC ((List.replicate 20 0, ⟨#[]⟩), hashN m, true)).toArray)) w :=
  exec_buildN 70 _ ho (z := .agg zcI) (places := #[(0, 21), (21, 20), (41, 1)]) Try.underlying70 (fun w => by kernel_rfl) (fun w => by kernel_rfl) [(1, .agg (bv (hashN m)).toArray), (2, .bool true)] (by simp [h1, h2]) (by kernel_rfl) w
theorem exec_nam {ρ : Operand → Value} {o : Oper} (x y : Operand) (ho : o.op = .build 72 #[(0, x), (1, y)]) (j m : Nat) (h1 : ρ x = .string ⟨#[UInt8.ofNat (97 + j)]⟩) (h2 : ρ y = .agg (iC ((List.replicate 20 0, ⟨#[]⟩), hashN m, true)).toArray) (w : World) :
    (execOp ρ o).run Try.prog w = .ok (.value (.agg (nC (namN j m)).toArray)) w := by
  refine Eq.trans (exec_build2 72 x y ho (n1 := 1) (n2 := 42) (z := .agg zcN) h1 h2 Try.underlying72 (fun w => by kernel_rfl) (by kernel_rfl) (fun w => by kernel_rfl) (by kernel_rfl) (by kernel_rfl) w) ?_
  kernel_rfl
/-- a row of one byte; of one named input -/
def OneB (b : Nat) (u : Value) (w : World) : Prop := ∃ r, u = .slice (some ⟨r, 0, none⟩) 1 1 ∧ Blk w r 5 #[.int .u8 (b : Int)]
def OneN (x : Nam) (u : Value) (w : World) : Prop := ∃ r, u = .slice (some ⟨r, 0, none⟩) 1 1 ∧ Blk w r 72 (nC x).toArray
theorem oneB_ok (b : Nat) : Fre.MadeOk Bel (OneB b) := ⟨fun u w w' ⟨r, h1, h2⟩ hx => ⟨r, h1, h2.below hx h2.lt⟩⟩
theorem oneN_ok (x : Nam) : Fre.MadeOk Bel (OneN x) := ⟨fun u w w' ⟨r, h1, h2⟩ hx => ⟨r, h1, h2.below hx h2.lt⟩⟩
theorem oneB_new {ρ : Operand → Value} {o : Oper} (x : Operand) (ho : o.op = .buildSlice 32 1 #[(0, x)]) (b : Nat) (hx : ρ x = .int .u8 (b : Int)) (W : World) :
    ∃ u w', (execOp ρ o).run Try.prog W = .ok (.value u) w' ∧ Fre.Ext Bel W w' ∧ OneB b u w' :=
  ⟨_, _, exec_buildSliceP (v := .int .u8 (b : Int)) 32 x ho hx Try.underlying32 (e := 5) (n := 1) (by kernel_rfl) (by omega) (by omega) (z := .int .u8 0) (fun w => by kernel_rfl) rfl W, (Below.refl _ W).alloc (Nat.le_refl _) _, _, rfl, Blk.new _ _ _⟩
theorem oneN_new {ρ : Operand → Value} {o : Oper} (x : Operand) (ho : o.op = .buildSlice 31 1 #[(0, x)]) (y : Nam) (hy : okN y) (hx : ρ x = .agg (nC y).toArray) (W : World) :
    ∃ u w', (execOp ρ o).run Try.prog W = .ok (.value u) w' ∧ Fre.Ext Bel W w' ∧ OneN y u w' :=
  ⟨_, _, exec_buildSliceP (v := .agg (nC y).toArray) 31 x ho hx Try.underlying31 (e := 72) (n := 43) sz_namD (by omega) (by omega) (z := .agg zcN) (fun w => by kernel_rfl) (by rw [Value.cells, List.size_toArray]; exact nC_len hy) W, (Below.refl _ W).alloc (Nat.le_refl _) _, _, rfl, Blk.new _ _ _⟩
theorem oneB_text {u : Value} {W : World} {j : Nat} (hj : 97 + j < 256) (h : OneB (97 + j) u W) : (convert 32 9 u).run Try.prog W = .ok (.string ⟨#[UInt8.ofNat (97 + j)]⟩) W := by
  obtain ⟨r, rfl, hb⟩ := h
  have e : ((UInt8.ofNat (97 + j)).toNat : Int) = ((97 + j : Nat) : Int) := by
    rw [UInt8.toNat_ofNat', Nat.mod_eq_of_lt (by omega)]
  refine run_convert_bytes_back (P := Try.prog) W 32 9 5 ⟨r, 0, none⟩ 1 [UInt8.ofNat (97 + j)] Try.underlying32 Try.underlying5 Try.underlying9 fun k hk => ?_
  have hk0 : k = 0 := by simp at hk; omega
  subst hk0
  rw [Addr.add_mid, Nat.zero_add]
  show W.cell? ⟨r, 0, none⟩ = some (.int .u8 ((UInt8.ofNat (97 + j)).toNat : Int))
  rw [e]
  exact hb.cell 0
end Go.Proofs.Ytidiepbmbbflhaa
end
section
namespace Go.Proofs.Ytidiepbmbbflhaa
open Go Go.RowKit
theorem run_buildSlice2 {P : Program} {t e n : Nat} {z v u : Value} (ht : P.underlying t = some (.slice e)) (hs : (P.info? e).map (·.size) = some n) (h24 : 2 * n ≤ 16777216) (hz : ∀ w, (zeroValue e).run P w = .ok z w) (hv : v.cells.size = n) (hu : u.cells.size = n) (w : World) :
    (Instr.buildSlice t 2 #[(0, v), (1, u)]).run P w = .ok (.slice (some ⟨w.heap.size, 0, none⟩) 2 2) (w.alloc (.cells (v.cells ++ u.cells) e)) := by
  have hsz : ∀ w, (sizeOf e).run P w = .ok n w := by
    intro w
    cases hq : P.info? e with
    | none => simp [hq] at hs
    | some i =>
      have h1 : i.size = n := by simpa [hq] using hs
      simp [sizeOf, typeInfo, hq, h1]
  have hfill : ∀ cells : Array Value, cells.size = 2 * n → Instr.fill (fun i => some (i * n, n)) cells [(0, v), (1, u)] = some (v.cells ++ u.cells) := by
    intro cells hc
    have hcl : cells.toList.length = 2 * n := by simpa using hc
    rw [fill_part _ _ 0 v _ 0 (by simp [hv]) (by omega)]
    rw [fill_part _ _ 1 u _ n (by simp [hu]) (by simp only [List.size_toArray, List.length_append, List.length_take, List.length_drop]; simp [hv, hu]; omega)]
    unfold Instr.fill
    congr 1
    apply Array.ext'
    have hvl : v.cells.toList.length = n := by simpa using hv
    simp only [List.take_zero, List.nil_append, Nat.zero_add]
    obtain ⟨d, hd⟩ : ∃ d, d = cells.toList.drop v.cells.size := ⟨_, rfl⟩
    have hdl : d.length = n := by rw [hd, List.length_drop]; omega
    rw [← hd, List.take_left' hvl, List.drop_eq_nil_of_le (by rw [List.length_append]; omega)]
    simp
  have h25 : ¬ 16777216 < 2 * n := by omega
  simp [Instr.buildSlice, run_underlying ht, hsz, h25, hz, hfill, Result.andThen]
  have hr : (newRow e (v.cells ++ u.cells)).run P w = .ok ⟨w.heap.size, 0, none⟩ (w.alloc (.cells (v.cells ++ u.cells) e)) := rfl
  rw [hr]
theorem exec_buildSlice2 {P : Program} {ρ : Operand → Value} {o : Oper} (t : TypeId) (x y : Operand) (ho : o.op = .buildSlice t 2 #[(0, x), (1, y)]) {e n : Nat} {z v u : Value} (hx : ρ x = v) (hy : ρ y = u) (ht : P.underlying t = some (.slice e)) (hs : (P.info? e).map (·.size) = some n) (h24 : 2 * n ≤ 16777216) (hz : ∀ w, (zeroValue e).run P w = .ok z w) (hv : v.cells.size = n) (hu : u.cells.size = n) (w : World) :
    (execOp ρ o).run P w = .ok (.value (.slice (some ⟨w.heap.size, 0, none⟩) 2 2)) (w.alloc (.cells (v.cells ++ u.cells) e)) := by
  have h := run_buildSlice2 (P := P) ht hs h24 hz hv hu w
  unfold execOp
  simp only [ho, List.map_toArray, List.map_cons, List.map_nil, hx, hy, Sem.run_bind, h, Result.andThen_ok, Sem.run_pure]
/-- a slice whose elements' cells lie in a block -/
theorem slice_cells {α : Type} {t e : TypeId} {L : Lay α} (h0 : 0 < L.n) {w : World} {B g : Nat} {cells : List (List Value)} {l : List α} (hb : Blk w g e cells.flatten.toArray) (hg : g < B) (hlen : cells.length = l.length) (hn : l.length ≤ maxLen) (hat : ∀ (j : Nat) x cs, l[j]? = some x → cells[j]? = some cs → L.At w B cs x) :
    (Lay.slice t L).At w B [.slice (some ⟨g, 0, none⟩) l.length l.length] l := by
  have hl : ∀ cs ∈ cells, (id cs).length = L.n := fun cs hcs => by
    obtain ⟨j, hj⟩ := List.getElem?_of_mem hcs
    obtain ⟨x, hx⟩ : ∃ x, l[j]? = some x := ⟨_, List.getElem?_eq_getElem (by have := (List.getElem?_eq_some_iff.1 hj).1; omega)⟩
    exact L.len (hat j x cs hx hj)
  refine ⟨_, l.length, rfl, Nat.le_refl _, hn, (fun h => by cases h), fun _ => ⟨g, 0, rfl, hg, fun j x hj => ?_⟩⟩
  obtain ⟨cs, hcs⟩ : ∃ cs, cells[j]? = some cs := ⟨_, List.getElem?_eq_getElem (by have := (List.getElem?_eq_some_iff.1 hj).1; omega)⟩
  refine ⟨cs, fun i u hu => ?_, hat j x cs hj hcs⟩
  have h2 := flatC_at (f := id) h0 cells hl j cs hcs i u hu
  rw [hb.cell, Nat.zero_add]
  have e : cells.flatMap id = cells.flatten := by simp [List.flatMap]
  rw [e] at h2
  simpa using h2
end Go.Proofs.Ytidiepbmbbflhaa
end
section
namespace Go.Proofs.Ytidiepbmbbflhaa
open Go Go.RowKit Go.Maps
set_option maxRecDepth 100000
theorem wpList_newS {P : Program} {ops : Array Oper} {rest : List Oper} {o : Oper} {a : Act} {w : World} {Q : Exit → Act → World → Prop} (hg : o.guard = none) (k : Nat) (ty : TypeId) (cs : Array Value) (hr : (execOp a.eval o).run P w = .ok (.value (.slice (some ⟨w.heap.size, 0, none⟩) k k)) (w.alloc (.cells cs ty)))
    (h : ∀ w', New1 w w' ty cs → wpList P ops Q rest (a.put o.dst (.slice (some ⟨w.heap.size, 0, none⟩) k k)) w') : wpList P ops Q (o :: rest) a w :=
  wpList_value hg _ _ hr (h _ (new1_alloc w ty cs))
/-- the chapter's example -/
def exIt : List Itm := [itemP 1 [], itemP 2 [1], itemP 3 [1, 2], itemP 4 []]
theorem ex_needs : needsE exIt (hashN 3) = 0 ∧ needsL exIt (hashN 3) = [hashN 1, hashN 2, hashN 3] := by decide +kernel
theorem ex_depth : depthR exIt (hashN 3) = 3 := by decide +kernel
theorem row_needs {w : World} {g : Nat} (ns : List Nat) (hb : Blk w g 3 (ns.map fun n : Nat => Value.int .i64 (n : Int)).toArray) : 0 < ns.length → ∃ b, some (⟨g, 0, none⟩ : Addr) = some ⟨b, 0, none⟩ ∧ b < w.heap.size ∧ ∀ (j m : Nat), ns[j]? = some m → w.cell? ⟨b, j, none⟩ = some (.int .i64 (m : Int)) :=
  fun _ => ⟨g, rfl, hb.lt, fun j m h => by rw [hb.cell]; simp [h]⟩
def exC (u1 u2 u3 u4 : Value) : List (List Value) := [tC (itemP 1 []) u1 (.slice none 0 0), tC (itemP 2 [1]) u2 (.slice none 0 0), tC (itemP 3 [1, 2]) u3 (.slice none 0 0), tC (itemP 4 []) u4 (.slice none 0 0)]
theorem ex_at {w : World} {g N : Nat} {u1 u2 u3 u4 : Value} (hb : Blk w g 43 (exC u1 u2 u3 u4).flatten.toArray) (hN : w.heap.size ≤ N) (h1 : DrvAt w N (itemP 1 []).2 u1 (.slice none 0 0)) (h2 : DrvAt w N (itemP 2 [1]).2 u2 (.slice none 0 0)) (h3 : DrvAt w N (itemP 3 [1, 2]).2 u3 (.slice none 0 0)) (h4 : DrvAt w N (itemP 4 []).2 u4 (.slice none 0 0)) :
    itmsLay.At w N [.slice (some ⟨g, 0, none⟩) 4 4] exIt := by
  refine slice_cells (t := 25) (L := itmLay) (l := exIt) (by decide) hb (Nat.lt_of_lt_of_le hb.lt hN) rfl (by decide) fun j x cs hx hcs => ?_
  match j, hx, hcs with
  | 0, hx, hcs => injection hx with hx; injection hcs with hcs; subst hx hcs; exact itmLay_at.2 ⟨_, _, rfl, rfl, h1⟩
  | 1, hx, hcs => injection hx with hx; injection hcs with hcs; subst hx hcs; exact itmLay_at.2 ⟨_, _, rfl, rfl, h2⟩
  | 2, hx, hcs => injection hx with hx; injection hcs with hcs; subst hx hcs; exact itmLay_at.2 ⟨_, _, rfl, rfl, h3⟩
  | 3, hx, hcs => injection hx with hx; injection hcs with hcs; subst hx hcs; exact itmLay_at.2 ⟨_, _, rfl, rfl, h4⟩
  | j + 4, hx, _ => cases hx
theorem ex_small : (∀ x ∈ exIt, x.2.2.1.length ≤ 1000000) ∧ exIt.length ≤ 1000000 := by decide +kernel
theorem OwnDrv.below9 {w w' : World} {B : Nat} {d : Drv} {u1 u2 : Value} (h : OwnDrv w B d u1 u2) (hb : Below w.heap.size w w') : OwnDrv w' B d u1 u2 := h.keep fun g _ hl => hb.block g hl
end Go.Proofs.Ytidiepbmbbflhaa
end
section
namespace Go.Proofs.Ytidiepbmbbflhaa
open Go Go.RowKit Go.Maps
set_option maxRecDepth 100000
theorem itms_ok {w : World} {B : Nat} {v : Value} {l : List Itm} (h : itmsLay.At w B [v] l) : ∀ x ∈ l, okH x.1 := fun x hx => by
  obtain ⟨j, hj⟩ := List.getElem?_of_mem hx
  obtain ⟨A, cap, rfl, _, _, _, hA⟩ := slice_open h
  obtain ⟨b, off, rfl, _, hE⟩ := hA (by have := (List.getElem?_eq_some_iff.1 hj).1; omega)
  obtain ⟨cs, _, hat⟩ := hE j x hj
  obtain ⟨_, _, _, ho, _⟩ := itmLay_at.1 hat
  exact ho
theorem itms_take {w : World} {B : Nat} {A : Option Addr} {cap : Nat} {l : List Itm} (h : itmsLay.At w B [.slice A l.length cap] l) (i : Nat) : itmsLay.At w B [.slice A (l.take i).length cap] (l.take i) := by
  obtain ⟨A', cap', e, h1, h2, h3, hA⟩ := slice_open h
  injection e with e1 e2 e3
  subst e1 e3
  have hle : (l.take i).length ≤ l.length := by rw [List.length_take]; omega
  refine ⟨A, cap, rfl, by omega, h2, h3, fun h0 => ?_⟩
  obtain ⟨b, off, e, hb, hE⟩ := hA (by omega)
  refine ⟨b, off, e, hb, fun j x hj => hE j x ?_⟩
  rw [List.getElem?_take] at hj
  split at hj
  · exact hj
  · cases hj
theorem needs_css {H : Type} [DecidableEq H] {l : List (Dr.It H)} {c h : H} (hm : h ∈ Dr.needsP l c) : h ∈ Dr.css l := (Dr.outA_sub _ _).subset hm
theorem css_mem {l : List Itm} {h : Hsh} (hm : h ∈ Dr.css (l.map itP)) : ∃ x ∈ l, x.1 = h := by
  unfold Dr.css at hm
  obtain ⟨y, hy, rfl⟩ := List.mem_map.1 hm
  obtain ⟨x, hx, rfl⟩ := List.mem_map.1 hy
  exact ⟨x, hx, rfl⟩
theorem css_known {l : List Itm} {h : Hsh} (hm : h ∈ Dr.css (l.map itP)) : (mget (kmap l) h).isSome = true := by
  cases e : (mget (kmap l) h).isSome with
  | true => rfl
  | false => exact absurd hm (known_not e)
theorem needs_known {l : List Itm} (hr : Dr.rightP (l.map itP) = true) {h : Hsh} (hm : h ∈ Dr.css (l.map itP)) : needsE l h = 0 ∧ needsL l h = Dr.needsP (l.map itP) h := by
  unfold needsE needsL
  rw [hr, css_known hm]
  exact ⟨rfl, rfl⟩
theorem find_some {l : List Itm} (hr : Dr.Right (l.map itP)) {x : Itm} (hx : x ∈ l) : (l.find? fun y => decide (y.1 = x.1)) = some x := by
  obtain ⟨j, hj⟩ := List.getElem?_of_mem hx
  refine find_first hj rfl fun y hy e => ?_
  obtain ⟨i, hi⟩ := List.getElem?_of_mem hy
  have hij : i < j := by
    have := (List.getElem?_eq_some_iff.1 hi).1
    rw [List.length_take] at this
    omega
  rw [List.getElem?_take_of_lt hij] at hi
  have h1 := Dr.idx_at hr (n := i) (x := itP y) (by rw [List.getElem?_map, hi]; rfl)
  have h2 := Dr.idx_at hr (n := j) (x := itP x) (by rw [List.getElem?_map, hj]; rfl)
  have e2 : (itP y).cls = (itP x).cls := e
  rw [e2, h2] at h1
  omega
theorem findD_at {l : List Itm} (hr : Dr.Right (l.map itP)) {x : Itm} (hx : x ∈ l) : findD l x.1 = x.2 := by
  unfold findD
  rw [find_some hr hx]
  rfl
theorem right_take9 {l : List Itm} (hr : Dr.Right (l.map itP)) (j : Nat) : Dr.rightP ((l.take j).map itP) = true := by
  rw [List.map_take]
  exact (Dr.rightP_iff _).2 (Dr.right_take hr j)
/-- what is so of each one that uses a class -/
structure UserOk (l : List Itm) (c z : Hsh) : Prop where
  ok : okH z
  is : (l.find? fun y => decide (y.1 = z)).isSome = true
  has : c ∈ clsP (findD l z).2.1
  e : needsE l z = 0
  needs : c ∈ needsL l z
  ne : z ≠ c
theorem user_ok {l : List Itm} (hr : Dr.rightP (l.map itP) = true) (hok : ∀ x ∈ l, okH x.1) {c z : Hsh} (hz : z ∈ Dr.usersP (l.map itP) c) : UserOk l c z := by
  have hR := (Dr.rightP_iff _).1 hr
  obtain ⟨y, hy, h1, h2⟩ := Dr.mem_users.1 hz
  obtain ⟨x, hx, rfl⟩ := List.mem_map.1 hy
  have hzx : x.1 = z := h2
  subst hzx
  have hcs : x.1 ∈ Dr.css (l.map itP) := List.mem_map.2 ⟨itP x, hy, rfl⟩
  have hn := needs_known hr hcs
  have hu := Dr.users_need hR hy h1
  exact ⟨hok x hx, by rw [find_some hR hx]; rfl, by rw [findD_at hR hx]; exact h1, hn.1, by rw [hn.2]; exact hu.1, hu.2⟩
theorem needsL_ok {l : List Itm} (hok : ∀ x ∈ l, okH x.1) (z : Hsh) : ∀ h ∈ needsL l z, okH h := fun h hm => by
  unfold needsL at hm
  split at hm
  · split at hm
    · obtain ⟨x, hx, rfl⟩ := css_mem (needs_css hm)
      exact hok x hx
    · cases hm
  · cases hm
theorem usersP_ok {l : List Itm} (hok : ∀ x ∈ l, okH x.1) (c : Hsh) : ∀ h ∈ Dr.usersP (l.map itP) c, okH h := fun h hm => by
  obtain ⟨y, hy, _, h2⟩ := Dr.mem_users.1 hm
  obtain ⟨x, hx, rfl⟩ := List.mem_map.1 hy
  rw [← h2]
  exact hok x hx
theorem users_same {l : List Itm} (hr : Dr.Right (l.map itP)) (c : Hsh) {j : Nat} {x : Itm} (hx : l[j]? = some x) : x.1 ∈ Dr.usersP (l.map itP) c ↔ c ∈ clsP x.2.2.1 :=
  Dr.users_iff hr (x := itP x) (List.mem_map.2 ⟨x, List.mem_of_getElem? hx, rfl⟩) c
theorem needsP_le {H : Type} [DecidableEq H] (l : List (Dr.It H)) (c : H) : (Dr.needsP l c).length ≤ l.length := by
  have h : (Dr.needsP l c).length ≤ (Dr.css l).length := (Dr.outA_sub _ _).length_le
  simpa [Dr.css] using h
theorem needsL_len {l : List Itm} (z : Hsh) : (needsL l z).length ≤ l.length := by
  unfold needsL
  split
  · split
    · have := needsP_le (l.map itP) z
      rwa [List.length_map] at this
    · exact Nat.zero_le _
  · exact Nat.zero_le _
end Go.Proofs.Ytidiepbmbbflhaa
end
section
namespace Go.Proofs.Ytidiepbmbbflhaa
open Go Go.RowKit Go.Maps
set_option maxRecDepth 100000
section
variable {H : Type} [DecidableEq H]
/-- what is so of each one that is needed -/
theorem part_plain {l : List (Dr.It H)} (hr : Dr.Right l) {c z : H} {i : Nat} (hz : (Dr.needsP l c)[i]? = some z) : ∃ (n : Nat) (y : Dr.It H), l[n]? = some y ∧ y.cls = z ∧ (∀ d ∈ y.ins, (∃ p : Nat, placeH (Dr.needsP l c) d = (p : Int) ∧ p < i) ∧ d ∈ Dr.css l ∧ Dr.depthP l d < Dr.depthP l z) ∧ (Dr.needsP l z).length ≤ i + 1 ∧ ∀ d ∈ Dr.needsP l z, d ∈ Dr.needsP l c := by
  obtain ⟨n, y, hy, hm, h1, h2, _⟩ := Dr.needsP_at hr (c := c) i (List.getElem?_eq_some_iff.1 hz).1
  rw [hz] at h1
  injection h1 with h1
  subst h1
  have hsub := Dr.needs_sub hr hy hm
  rw [h2] at hsub
  refine ⟨n, y, hy, rfl, fun d hd => ?_, hsub.2, hsub.1⟩
  have ha := Dr.needs_ahead hr hy hm hd
  obtain ⟨p, hp, e, _⟩ := placeH_mem ha.2
  have hat := (Dr.out_at hr (Dr.needP_len l ((Dr.css l).idxOf c)) hy hm).2
  rw [h2] at hat
  refine ⟨⟨p, hp, ?_⟩, needs_css ha.2, Dr.depth_lt hr hy hd⟩
  have h3 := ha.1
  rw [← e] at h3
  have h4 : (Dr.needsP l c).idxOf y.cls = i := hat
  omega
end
theorem depth_known {l : List Itm} (hr : Dr.rightP (l.map itP) = true) {h : Hsh} (hm : h ∈ Dr.css (l.map itP)) : depthR l h = Dr.depthP (l.map itP) h := by
  unfold depthR
  rw [hr, css_known hm]
  rfl
structure PartOk (l : List Itm) (all : List Hsh) (i : Nat) (z : Hsh) : Prop where
  ok : okH z
  is : (l.find? fun y => decide (y.1 = z)).isSome = true
  cls : ∀ d ∈ clsP (findD l z).2.1, okH d ∧ (∃ p : Nat, placeH all d = (p : Int) ∧ p < i) ∧ depthR l d < depthR l z
  e : needsE l z = 0
  len : (needsL l z).length ≤ i + 1
  used : i + 1 < all.length → usedP l all z = true
  sub : ∀ h ∈ needsL l z, h ∈ all
theorem part_ok {l : List Itm} (hr : Dr.rightP (l.map itP) = true) (hok : ∀ x ∈ l, okH x.1) {c z : Hsh} (hc : c ∈ Dr.css (l.map itP)) {all : List Hsh} (ha : all = needsL l c) {i : Nat} (hz : all[i]? = some z) : PartOk l all i z := by
  have hR := (Dr.rightP_iff _).1 hr
  have e0 := (needs_known hr hc).2
  rw [e0] at ha
  subst ha
  obtain ⟨n, y, hy, h1, h2, h3, h4⟩ := part_plain hR hz
  have hym := List.mem_of_getElem? hy
  obtain ⟨x, hx, rfl⟩ := List.mem_map.1 hym
  have hzx : x.1 = z := h1
  subst hzx
  have hcs : x.1 ∈ Dr.css (l.map itP) := List.mem_map.2 ⟨itP x, hym, rfl⟩
  have hn := needs_known hr hcs
  refine ⟨hok x hx, by rw [find_some hR hx]; rfl, fun d hd => ?_, hn.1, by rw [hn.2]; exact h3, fun hi => ?_, by rw [hn.2]; exact h4⟩
  · rw [findD_at hR hx] at hd
    obtain ⟨hp, hdc, hdp⟩ := h2 d hd
    obtain ⟨x2, hx2, rfl⟩ := css_mem hdc
    exact ⟨hok x2 hx2, hp, by rw [depth_known hr hdc, depth_known hr hcs]; exact hdp⟩
  · obtain ⟨j, y2, hj, hy2, hin⟩ := Dr.needs_used hR hc hi hz
    obtain ⟨x2, hx2, rfl⟩ := List.mem_map.1 hy2
    refine usedP_yes (j := j) (z := x2.1) hj ?_
    rw [findD_at hR hx2]
    exact hin
theorem find_known {l : List Itm} (c : Hsh) : (l.find? fun x => decide (x.1 = c)).isSome = (mget (kmap l) c).isSome := by
  cases e : (mget (kmap l) c).isSome with
  | true =>
    obtain ⟨x, hx, rfl⟩ := css_mem (known_mem e)
    rw [List.find?_isSome]
    exact ⟨x, hx, by simp⟩
  | false =>
    have h := known_not e
    cases e2 : (l.find? fun x => decide (x.1 = c)) with
    | none => rfl
    | some x =>
      refine absurd ?_ h
      have h1 := List.find?_some e2
      have h2 : x.1 = c := by simpa using h1
      rw [← h2]
      exact List.mem_map.2 ⟨itP x, List.mem_map.2 ⟨x, List.mem_of_find?_eq_some e2, rfl⟩, rfl⟩
theorem last_is {l : List Itm} (hr : Dr.rightP (l.map itP) = true) {c : Hsh} (hc : c ∈ Dr.css (l.map itP)) {all : List Hsh} (ha : all = needsL l c) : 0 < all.length ∧ all[all.length - 1]? = some c := by
  rw [ha, (needs_known hr hc).2]
  exact Dr.needs_last ((Dr.rightP_iff _).1 hr) hc
theorem more_same {l : List Itm} {x : Itm} (hr : Dr.rightP (l.map itP) = true) (hr2 : Dr.rightP ((l ++ [x]).map itP) = true) {c : Hsh} (hc : c ∈ Dr.css (l.map itP)) : needsE (l ++ [x]) c = 0 ∧ needsL (l ++ [x]) c = needsL l c ∧ depthR (l ++ [x]) c = depthR l c := by
  have e : (l ++ [x]).map itP = l.map itP ++ [itP x] := by simp
  have hc2 : c ∈ Dr.css ((l ++ [x]).map itP) := by
    rw [e, Dr.css_app]
    exact List.mem_append_left _ hc
  have h1 := needs_known hr2 hc2
  have h2 := Dr.needs_more ((Dr.rightP_iff _).1 hr) (itP x) hc
  rw [h1.1, h1.2, (needs_known hr hc).2, depth_known hr2 hc2, depth_known hr hc, e, h2.1, h2.2]
  exact ⟨rfl, rfl, rfl⟩
/-! the items, one more at their end -/
theorem info_itmI : (Try.prog.info? 43).map (fun i => (i.zero, i.size, i.bytes)) = some (some (.agg zcT), 23, 88) := by kernel_rfl
def EmptyI (B : Nat) (u : Value) (w : World) : Prop := ∃ r, u = .slice (some ⟨r, 0, none⟩) 0 0 ∧ B ≤ r ∧ Blk w r 43 #[]
def RowI (B n : Nat) (cells : List (List Value)) (u : Value) (w : World) : Prop := w.ownsRow B 43 23 u n (cells.flatMap id)
def OneI (cs : List Value) (u : Value) (w : World) : Prop := ∃ r, u = .slice (some ⟨r, 0, none⟩) 1 1 ∧ Blk w r 43 cs.toArray
theorem emptyI_ok (B : Nat) : Fre.MadeOk Bel (EmptyI B) := ⟨fun u w w' ⟨r, h1, h2, h3⟩ hx => ⟨r, h1, h2, h3.below hx h3.lt⟩⟩
theorem rowI_ok (B n : Nat) (cells : List (List Value)) : Fre.MadeOk Bel (RowI B n cells) := ⟨fun u w w' h hx => owned_keepN h fun g _ hl => Below.block hx g hl⟩
theorem oneI_ok (cs : List Value) : Fre.MadeOk Bel (OneI cs) := ⟨fun u w w' ⟨r, h1, h2⟩ hx => ⟨r, h1, h2.below hx h2.lt⟩⟩
theorem emptyI_new {ρ : Operand → Value} {o : Oper} (ho : o.op = .buildSlice 25 0 #[]) {B : Nat} (W : World) (hB : B ≤ W.heap.size) :
    ∃ u w', (execOp ρ o).run Try.prog W = .ok (.value u) w' ∧ Fre.Ext Bel W w' ∧ EmptyI B u w' := by
  refine ⟨.slice (some ⟨W.heap.size, 0, none⟩) 0 0, W.alloc (.cells #[] 43), ?_, (Below.refl _ W).alloc (Nat.le_refl _) _, _, rfl, hB, Blk.new _ _ _⟩
  unfold execOp
  simp only [ho]
  kernel_rfl
theorem oneI_new {ρ : Operand → Value} {o : Oper} (x : Operand) (ho : o.op = .buildSlice 25 1 #[(0, x)]) {y : Itm} {v1 v2 : Value} (hy : okH y.1) (hx : ρ x = .agg (tC y v1 v2).toArray) (W : World) :
    ∃ u w', (execOp ρ o).run Try.prog W = .ok (.value u) w' ∧ Fre.Ext Bel W w' ∧ OneI (tC y v1 v2) u w' :=
  ⟨_, _, exec_buildSliceP (v := .agg (tC y v1 v2).toArray) 25 x ho hx Try.underlying25 (e := 43) (n := 23) sz_itm (by omega) (by omega) (z := .agg zcT) (fun w => by kernel_rfl) (by rw [Value.cells, List.size_toArray]; exact tC_len hy) W, (Below.refl _ W).alloc (Nat.le_refl _) _, _, rfl, Blk.new _ _ _⟩
theorem app_firstI {B : Nat} {u : Value} {W : World} {A : Option Addr} {m cp : Nat} {news : List Value} (h : EmptyI B u W) (hB : B ≤ W.heap.size) (hs : SrcN W 23 A m cp news) (h63 : m ≤ maxLen) (hby : m * 88 ≤ 140737488355328) :
    ∃ v' w', (Builtin.append_ #[25, 25] 25 #[u, .slice A m cp]).run Try.prog W = .ok v' w' ∧ Fre.Ext Bel W w' ∧ w'.ownsRow B 43 23 v' m news := by
  obtain ⟨r, rfl, hr, hb⟩ := h
  have hown : W.ownsRow B 43 23 (.slice (some ⟨r, 0, none⟩) 0 0) 0 [] := ⟨rfl, .inr ⟨r, 0, #[], rfl, hr, hb, Nat.le_refl _, Nat.zero_le _, rfl, rfl⟩⟩
  obtain ⟨i, hi, hz0, hz1, hz2⟩ := info_parts info_itmI
  rcases Nat.eq_zero_or_pos m with h0 | h0
  · subst h0
    have hn : news = [] := List.eq_nil_of_length_eq_zero (by rw [hs.len])
    subst hn
    cases A with
    | none =>
      obtain ⟨_, rfl⟩ := hs.none_ rfl
      exact ⟨_, W, run_append_owned_none (P := Try.prog) (w := W) B 25 25 43 i 23 Try.underlying25 hi _ 0 [] hown, (Below.refl _ _), hown⟩
    | some ad =>
      have h := run_append_room_cells (P := Try.prog) (w := W) 25 25 43 i Try.underlying25 hi r 0 0 0 ad 0 cp [] (by simp) (fun j u hu => by simp at hu) (fun u hu => by cases hu) (Nat.le_refl _) (fun j hj => by simp at hj) (fun j hj => by simp at hj)
      exact ⟨_, _, h, (Below.refl _ _), hown⟩
  · cases A with
    | none => have := (hs.none_ rfl).1; omega
    | some ad =>
      obtain ⟨v', w', k1, k2, k3, k4⟩ := run_appG (P := Try.prog) (w := W) B 25 25 43 i _ 23 88 Try.underlying25 hi hz0 hz1 hz2 rfl (by omega) _ 0 [] hown ad m cp news hs.len (hs.cells ad rfl) hs.one h0 (by simpa using h63) (by simpa using hby) hB
      refine ⟨v', w', k1, ?_, by simpa using k2⟩
      rcases k4 with ⟨g, cap, q1, q2⟩ | ⟨_, h⟩
      · injection q1 with _ _ q1
        subst q1 q2
        rcases owned_formN k2 with ⟨h, _⟩ | ⟨g', cap', cur, h, _, h2, _⟩
        · cases h
        · injection h with _ h3 h4
          omega
      · exact h
theorem rowI_new {ρ : Operand → Value} {o : Oper} (x y : Operand) (ho : o.op = .call { callee := .builtin .append, args := #[x, y], argTypes := #[25, 25] }) (hty : o.type = 25) {B : Nat} {u : Value} {W : World} {A : Option Addr} {m cp : Nat} {cells : List (List Value)} (hx : ρ x = u) (hy : ρ y = .slice A m cp) (h : EmptyI B u W) (hB : B ≤ W.heap.size) (hs : SrcN W 23 A m cp (cells.flatMap id)) (h63 : m ≤ maxLen) (hby : m * 88 ≤ 140737488355328) :
    ∃ u' w', (execOp ρ o).run Try.prog W = .ok (.value u') w' ∧ Fre.Ext Bel W w' ∧ RowI B m cells u' w' := by
  obtain ⟨v', w', h1, h2, h3⟩ := app_firstI h hB hs h63 hby
  refine ⟨v', w', ?_, h2, h3⟩
  unfold execOp
  simp only [ho, hty, resolve, invoke, builtin, Sem.run_bind, Sem.run_pure, Result.andThen_ok, List.map_toArray, List.map_cons, List.map_nil, hx, hy, h1]
/-- the cells of items -/
structure CellsI (w : World) (l : List Itm) (A : Option Addr) (cap : Nat) (cells : List (List Value)) : Prop where
  len : cells.length = l.length
  at_ : ∀ (j : Nat) x cs, l[j]? = some x → cells[j]? = some cs → itmLay.At w w.heap.size cs x
  src : SrcN w 23 A l.length cap (cells.flatMap id)
theorem cellsI_of {w : World} {l : List Itm} {A : Option Addr} {cap : Nat} (h : itmsLay.At w w.heap.size [.slice A l.length cap] l) : ∃ cells, CellsI w l A cap cells := by
  obtain ⟨A', cap', e, h1, h2, h3, hA⟩ := slice_open h
  injection e with e1 e2 e3
  subst e1 e3
  rcases Nat.eq_zero_or_pos l.length with h0 | h0
  · obtain rfl := List.eq_nil_of_length_eq_zero h0
    exact ⟨[], rfl, (fun j x cs hx => by cases hx), rfl, (fun e => ⟨rfl, h3 e⟩), (fun u hu => by cases hu), fun ad _ j u hu => by simp at hu⟩
  · obtain ⟨b, off, rfl, hb, hE⟩ := hA h0
    obtain ⟨cf, hcf⟩ := elems_fun hE
    have hcl : ∀ cs ∈ (List.range l.length).map cf, (id cs).length = 23 := fun cs hcs => by
      obtain ⟨j, hj, rfl⟩ := List.mem_map.1 hcs
      have hjl := List.mem_range.1 hj
      exact itmLay.len (hcf j _ (List.getElem?_eq_getElem hjl)).2
    refine ⟨(List.range l.length).map cf, by simp, fun j x cs hx hcs => ?_, by rw [flatC_length _ hcl]; simp, (fun e => by cases e), fun u hu => ?_, fun ad had j u hu => ?_⟩
    · have hjl := (List.getElem?_eq_some_iff.1 hx).1
      have e : cs = cf j := by simpa [hjl] using hcs.symm
      rw [e]
      exact (hcf j x hx).2
    · obtain ⟨cs, hcs, hu⟩ := List.mem_flatMap.1 hu
      obtain ⟨j, hj, rfl⟩ := List.mem_map.1 hcs
      have hjl := List.mem_range.1 hj
      exact itmLay.one (hcf j _ (List.getElem?_eq_getElem hjl)).2 u hu
    · obtain ⟨cs, h6, h7⟩ := flatC_get (by decide) _ hcl j u hu
      injection had with had
      subst had
      have hjl : j / 23 < l.length := by
        have := (List.getElem?_eq_some_iff.1 h6).1
        simpa using this
      have e : cs = cf (j / 23) := by simpa [hjl] using h6.symm
      subst e
      have h8 := (hcf (j / 23) _ (List.getElem?_eq_getElem hjl)).1 _ u h7
      rw [Addr.add_mid]
      have h8 : w.cell? ⟨b, off + j / 23 * 23 + j % 23, none⟩ = some u := h8
      rwa [Nat.add_assoc, show j / 23 * 23 + j % 23 = j by omega] at h8
/-- a row of one's own, its things' cells known each -/
theorem own_cells9 {α : Type} {t e : TypeId} {L : Lay α} (h0 : 0 < L.n) {w : World} {R : Nat} {v : Value} {l : List α} {cells : List (List Value)} (hown : w.ownsRow R e L.n v l.length (cells.flatMap id)) (B : Nat) (hB : w.heap.size ≤ B) (hcl : cells.length = l.length) (hat : ∀ (j : Nat) x cs, l[j]? = some x → cells[j]? = some cs → L.At w B cs x) : (Lay.slice t L).At w B [v] l := by
  have hlen : ∀ cs ∈ cells, (id cs).length = L.n := fun cs hcs => by
    obtain ⟨j, hj⟩ := List.getElem?_of_mem hcs
    obtain ⟨x, hx⟩ : ∃ x, l[j]? = some x := ⟨_, List.getElem?_eq_getElem (by have := (List.getElem?_eq_some_iff.1 hj).1; omega)⟩
    exact L.len (hat j x cs hx hj)
  rcases owned_formN hown with ⟨rfl, hl, _⟩ | ⟨g, cap, cur, rfl, hbg, hnc, hcm, hg, hcs, htake, _⟩
  · obtain rfl := List.eq_nil_of_length_eq_zero hl
    exact ⟨none, 0, rfl, Nat.le_refl _, Nat.zero_le _, (fun _ => rfl), fun h => absurd h (by simp)⟩
  · refine ⟨_, cap, rfl, hnc, hcm, (fun h => by cases h), fun _ => ⟨g, 0, rfl, by have := hg.lt; omega, fun j x hj => ?_⟩⟩
    obtain ⟨cs, hc⟩ : ∃ cs, cells[j]? = some cs := ⟨_, List.getElem?_eq_getElem (by have := (List.getElem?_eq_some_iff.1 hj).1; omega)⟩
    refine ⟨cs, fun i u hu => ?_, hat j x cs hj hc⟩
    have h2 := flatC_at (f := id) h0 cells hlen j cs hc i u hu
    rw [hg.cell, ← Array.getElem?_toList, Nat.zero_add]
    rw [← htake] at h2
    have hlt : j * L.n + i < l.length * L.n := by
      have := (List.getElem?_eq_some_iff.1 h2).1
      rw [List.length_take] at this
      omega
    rwa [List.getElem?_take_of_lt hlt] at h2
theorem longer_at {w W : World} {B : Nat} {l : List Itm} {A : Option Addr} {cap : Nat} {x : Itm} {v1 v2 u : Value} {cells : List (List Value)} (hc : CellsI w l A cap cells) (hx : okH x.1) (hd : DrvAt w w.heap.size x.2 v1 v2) (hb : Below w.heap.size w W) (hown : W.ownsRow B 43 23 u (l.length + 1) (cells.flatMap id ++ tC x v1 v2)) : itmsLay.At W W.heap.size [u] (l ++ [x]) := by
  refine own_cells9 (t := 25) (L := itmLay) (cells := cells ++ [tC x v1 v2]) (by decide) (by have h : W.ownsRow B 43 23 u (l ++ [x]).length ((cells ++ [tC x v1 v2]).flatMap id) := (by simpa using hown); exact h) W.heap.size (Nat.le_refl _) (by simp [hc.len]) fun j y cs hy hcs => ?_
  rcases Nat.lt_or_ge j l.length with hj | hj
  · rw [List.getElem?_append_left hj] at hy
    rw [List.getElem?_append_left (by rw [hc.len]; exact hj)] at hcs
    exact itmLay.widen (itmLay.alike (hc.at_ j y cs hy hcs) fun g hg => hb.block g hg) hb.size
  · rw [List.getElem?_append_right hj] at hy
    rw [List.getElem?_append_right (by rw [hc.len]; exact hj), hc.len] at hcs
    have hj0 : j - l.length = 0 := by
      have := (List.getElem?_eq_some_iff.1 hy).1
      simp at this
      omega
    rw [hj0] at hy hcs
    injection hy with hy
    injection hcs with hcs
    subst hy hcs
    exact itmLay_at.2 ⟨v1, v2, rfl, hx, hd.alike9 hb⟩
end Go.Proofs.Ytidiepbmbbflhaa
end
