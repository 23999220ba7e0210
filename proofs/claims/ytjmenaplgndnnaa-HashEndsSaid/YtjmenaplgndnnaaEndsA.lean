/- spencelaw02.letters; rows of letters. -/
import Derived.Test.YtjmenaplgndnnaaHashFolds
import Derived.Deep.OwnRows
namespace Go.Proofs.Ytjmenaplgndnnaa
open Go.RowKit
theorem made_bv (n : Nat) : madeCells #[.int .u8 0] n = (bv (List.replicate n 0)).toArray := by
  apply Array.ext'
  apply List.ext_getElem?
  intro j
  by_cases hj : j < n
  · simp [madeCells, hj, bv, Nat.mod_one]
  · simp [madeCells, hj, bv]
def lt (n i : Nat) : List UInt8 := List.replicate i 97 ++ List.replicate (n - i) 0
theorem length_lt (n i : Nat) (h : i ≤ n) : (lt n i).length = n := by simp [lt]; omega
theorem lt_set (n i : Nat) (h : i < n) : (lt n i).set i 97 = lt n (i + 1) := by
  unfold lt
  rw [List.set_append_right _ _ (by simp), List.length_replicate, Nat.sub_self, show n - i = (n - (i + 1)) + 1 by omega, List.replicate_succ, List.set_cons_zero, List.replicate_succ', List.append_assoc]
  rfl
theorem lt_get (n i : Nat) (h : i < n) : (lt n i).getD i 0 = 0 := by
  unfold lt
  rw [List.getD_eq_getElem?_getD, List.getElem?_append_right (by simp), List.length_replicate, Nat.sub_self, show n - i = (n - (i + 1)) + 1 by omega, List.replicate_succ]
  rfl
set_option maxRecDepth 100000 in
set_option maxHeartbeats 1000000 in
theorem letters_any (n : Nat) (hn : n ≤ 1000000) (w : World) :
    Calls Try.prog 36 #[.int .i64 (n : Int)] w fun e w' => e = .returned (.slice (some ⟨w.heap.size, 0, none⟩) n n) ∧ Blk w' w.heap.size 5 (bv (List.replicate n 97)).toArray ∧ Below w.heap.size w w' := by
  obtain ⟨i, hi, hz0, hz1, hz2⟩ := info_parts info5
  obtain ⟨R, hR⟩ : ∃ R, R = w.heap.size := ⟨_, rfl⟩
  have HR := hide hR
  obtain ⟨w1, hw1⟩ : ∃ w1, w1 = w.alloc (.cells (madeCells #[.int .u8 0] n) 5) := ⟨_, rfl⟩
  have hb1 : Blk w1 R 5 (bv (lt n 0)).toArray := by
    rw [hw1, hR, made_bv, show List.replicate n 0 = lt n 0 by simp [lt]]
    exact Blk.new _ _ _
  have hbl1 : Below R w w1 := by rw [hw1, hR]; exact (Below.refl _ _).alloc (Nat.le_refl _) _
  have H1 := hide (And.intro hb1 hbl1)
  clear hb1 hbl1
  go_enter Try.func36, Try.ntmps36
  go_wp2_with (at_make; refine wpList_make_row _ rfl _ _ 26 rfl 5 i (.int .u8 0) Try.underlying26 hi hz0 hz1 rfl _ _ n rfl rfl ?e0 ?e1 ?_)
  case e0 => rw [hz2]; omega
  case e1 => omega
  rw [← hw1, ← hR]
  clear hw1 hR
  go_wp2_with fail
  go_loopw [4] (fun v wr => ∃ k : Nat, k ≤ n ∧ v = .int .i64 (k : Int) ∧ Blk wr R 5 (bv (lt n k)).toArray ∧ Below R w wr) (fun v _ => n - (intOf v).toNat)
  case atStart => exact ⟨0, by omega, rfl, H1.out.1, H1.out.2⟩
  case round =>
    obtain ⟨k, hk, rfl, hb, hbl⟩ := hrel
    by_cases hlt : k < n
    · have ck : wr.cell? ⟨R, k, none⟩ = some (.int .u8 0) := by
        rw [hb.cell, bv_get _ _ (by rw [length_lt n k hk]; exact hlt), lt_get n k hlt]
        rfl
      have fk := hb.frozen k
      have HB := hide hb
      have i1 : (0 : Int) ≤ (k : Int) := by omega
      have i2 : (k : Int) < (n : Int) := by omega
      clear hb
      go_wp2_with fail
      go_roundw
      case rel =>
        refine ⟨k + 1, by omega, by go_num, ?_, hbl.setCell (Nat.le_refl _) _⟩
        have h3 := HB.out.set_ k (.int .u8 ((97 : UInt8).toNat : Int))
        rw [bv_set, lt_set n k hlt] at h3
        exact h3
      case measure => simp [intOf]; omega
    · obtain rfl : k = n := by omega
      go_wp2_with fail
      go_ret
      have hr := HR.out
      have e : lt k k = List.replicate k 97 := by simp [lt]
      rw [e] at hb
      rw [← hr]
      exact ⟨rfl, hb, hbl⟩
end Go.Proofs.Ytjmenaplgndnnaa
