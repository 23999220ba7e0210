/- The walk of spencelaw04.DevFuse. -/
import Derived.Test.YtajeohmmobgcjaaDevL
namespace Go.Proofs.Ytajeohmmobgcjaa
open Go Go.RowKit
/-- a device that has a fuse of n, ahead of deed i -/
def Lit (D : Dv) (n i : Nat) : Prop := D.kept.length = 1 ∧ D.pend.length ≤ i ∧ 0 ≤ D.de ∧ ((i ≤ n ∧ D.dn = false ∧ D.de = (i : Int) - 1 ∧ D.fu = (n : Int) - i + 1) ∨ (i = n + 1 ∧ D.dn = true ∧ D.de = (n : Int) - 1))
theorem lit_write {D : Dv} {n i : Nat} (h : Lit D n i) (hi : i ≤ n) (b : UInt8) : (D.write 0 [b]).1 = (if i < n then 0 else 10) ∧ Lit (D.write 0 [b]).2 n (i + 1) := by
  obtain ⟨hk, hp, hd, ⟨_, hdn, hde, hfu⟩ | ⟨h2, _⟩⟩ := h
  · have hw : D.write 0 [b] = ((tick D.de D.fu false).1, { D with de := (tick D.de D.fu false).2.1, fu := (tick D.de D.fu false).2.2.1, dn := (tick D.de D.fu false).2.2.2, pend := if (tick D.de D.fu false).1 = 0 then D.pend ++ [(0, pad [b])] else D.pend }) := by
      simp [Dv.write, hdn, hk]
    rw [hw]
    by_cases hl : i < n
    · have ht : tick D.de D.fu false = (0, D.de + 1, D.fu - 1, false) := by simp [tick, show D.fu ≠ 1 by omega, show D.fu ≠ 0 by omega]
      rw [ht, if_pos hl]
      refine ⟨rfl, hk, by simp; omega, by show 0 ≤ D.de + 1; omega, .inl ⟨by omega, rfl, by show D.de + 1 = _; omega, by show D.fu - 1 = _; omega⟩⟩
    · have ht : tick D.de D.fu false = (10, D.de, 0, true) := by simp [tick, show D.fu = 1 by omega]
      rw [ht, if_neg hl]
      refine ⟨rfl, hk, by simp; omega, hd, .inr ⟨by omega, rfl, by show D.de = _; omega⟩⟩
  · omega
theorem lit_flush {D : Dv} {n i : Nat} (h : Lit D n i) (hi : i ≤ n) : D.flush.1 = (if i < n then 0 else 10) ∧ Lit D.flush.2 n (i + 1) := by
  obtain ⟨hk, hp, hd, ⟨_, hdn, hde, hfu⟩ | ⟨h2, _⟩⟩ := h
  · have hw : D.flush = ((tick D.de D.fu false).1, { D with de := (tick D.de D.fu false).2.1, fu := (tick D.de D.fu false).2.2.1, dn := (tick D.de D.fu false).2.2.2, kept := if (tick D.de D.fu false).1 = 0 then settleL (fun _ => true) 0 D.pend D.kept else D.kept, pend := if (tick D.de D.fu false).1 = 0 then [] else D.pend }) := by
      simp [Dv.flush, hdn]
    rw [hw]
    by_cases hl : i < n
    · have ht : tick D.de D.fu false = (0, D.de + 1, D.fu - 1, false) := by simp [tick, show D.fu ≠ 1 by omega, show D.fu ≠ 0 by omega]
      rw [ht, if_pos hl]
      refine ⟨rfl, by simp [settle_len, hk], by simp, by show 0 ≤ D.de + 1; omega, .inl ⟨by omega, rfl, by show D.de + 1 = _; omega, by show D.fu - 1 = _; omega⟩⟩
    · have ht : tick D.de D.fu false = (10, D.de, 0, true) := by simp [tick, show D.fu = 1 by omega]
      rw [ht, if_neg hl]
      refine ⟨rfl, hk, by simp; omega, hd, .inr ⟨by omega, rfl, by show D.de = _; omega⟩⟩
  · omega
/-- a device without a fuse, j writes after it was woken -/
def Free (D : Dv) (n j : Nat) : Prop := D.kept.length = 1 ∧ D.pend.length = j ∧ D.dn = false ∧ D.fu = 0 ∧ D.de = (n : Int) - 1 + j
theorem free_wake {D : Dv} {n : Nat} (h : Lit D n (n + 1)) (x : Int) : (D.wake x).1 = 0 ∧ Free (D.wake x).2 n 0 := by
  obtain ⟨hk, hp, hd, ⟨h2, _⟩ | ⟨_, hdn, hde⟩⟩ := h
  · omega
  · simp [Dv.wake, hdn, Free, settle_len, hk, hde]
theorem free_write {D : Dv} {n j : Nat} (h : Free D n j) : (D.write 0 []).1 = 0 ∧ Free (D.write 0 []).2 n (j + 1) := by
  obtain ⟨hk, hp, hdn, hfu, hde⟩ := h
  have ht : tick D.de D.fu false = (0, D.de + 1, 0, false) := by simp [tick, hfu]
  have hw : D.write 0 [] = (0, { D with de := D.de + 1, fu := 0, dn := false, pend := D.pend ++ [(0, pad [])] }) := by
    simp [Dv.write, hdn, hk, ht]
  rw [hw]
  refine ⟨rfl, hk, by simp [hp], rfl, rfl, ?_⟩
  show D.de + 1 = _
  omega
theorem lit_new (n : Nat) (hn : 1 ≤ n) : ((Dv.new 1).fuse (n : Int)).1 = 0 ∧ Lit ((Dv.new 1).fuse (n : Int)).2 n 1 := by
  refine ⟨rfl, ?_⟩
  have : (Dv.new 1).fuse (n : Int) = (0, { Dv.new 1 with fu := max (n : Int) 0 }) := rfl
  rw [this]
  refine ⟨rfl, by simp [Dv.new], by simp [Dv.new], .inl ⟨hn, rfl, by simp [Dv.new], ?_⟩⟩
  show max (n : Int) 0 = _
  omega
set_option maxRecDepth 100000
theorem stat_field1 (a b c : Int) (d : Bool) (w : World) : (Instr.field 58 (.agg #[.int .i64 a, .int .i64 b, .int .i64 c, .bool d]) 1).run Try.prog w = .ok (.int .i64 b) w := by kernel_rfl
theorem stat_field2 (a b c : Int) (d : Bool) (w : World) : (Instr.field 58 (.agg #[.int .i64 a, .int .i64 b, .int .i64 c, .bool d]) 2).run Try.prog w = .ok (.int .i64 c) w := by kernel_rfl
theorem stat_field3 (a b c : Int) (d : Bool) (w : World) : (Instr.field 58 (.agg #[.int .i64 a, .int .i64 b, .int .i64 c, .bool d]) 3).run Try.prog w = .ok (.bool d) w := by kernel_rfl
set_option maxHeartbeats 1000000 in
theorem devFuse_out (n m : Int) (h : n < 1 ∨ 150 < n ∨ m < 0 ∨ 150 < m) (w : World) : Calls Try.prog 6 #[.int .i64 n, .int .i64 m] w fun e w' => e = .returned (.bool true) ∧ Below w.heap.size w w' := by
  by_cases h1 : n < 1
  · clear h
    go_enter Try.func6, Try.ntmps6
    go_wp2_with (go_at_call 24; refine (awake4_any _).mono ?_; rintro e w' ⟨rfl, hb⟩)
    go_ret
    exact ⟨rfl, by assumption⟩
  · by_cases h2 : 150 < n
    · clear h
      have h1' : 1 ≤ n := by omega
      go_enter Try.func6, Try.ntmps6
      go_wp2_with (go_at_call 24; refine (awake4_any _).mono ?_; rintro e w' ⟨rfl, hb⟩)
      go_ret
      exact ⟨rfl, by assumption⟩
    · by_cases h3 : m < 0
      · clear h
        have h1' : 1 ≤ n := by omega
        have h2' : n ≤ 150 := by omega
        go_enter Try.func6, Try.ntmps6
        go_wp2_with (go_at_call 24; refine (awake4_any _).mono ?_; rintro e w' ⟨rfl, hb⟩)
        go_ret
        exact ⟨rfl, by assumption⟩
      · have h4 : 150 < m := by omega
        clear h
        have h1' : 1 ≤ n := by omega
        have h2' : n ≤ 150 := by omega
        have h3' : 0 ≤ m := by omega
        go_enter Try.func6, Try.ntmps6
        go_wp2_with (go_at_call 24; refine (awake4_any _).mono ?_; rintro e w' ⟨rfl, hb⟩)
        go_ret
        exact ⟨rfl, by assumption⟩
set_option maxHeartbeats 2000000 in
theorem devFuse_in (n m : Nat) (hn : 1 ≤ n ∧ n ≤ 150) (hm : m ≤ 150) (w : World) : Calls Try.prog 6 #[.int .i64 (n : Int), .int .i64 (m : Int)] w fun e w' => e = .returned (.bool true) ∧ Below w.heap.size w w' := by
  have h1 : (1 : Int) ≤ (n : Int) := by omega
  have h2 : (n : Int) ≤ 150 := by omega
  have h3 : (0 : Int) ≤ (m : Int) := by omega
  have h4 : (m : Int) ≤ 150 := by omega
  go_enter Try.func6, Try.ntmps6
  go_wp2_with fail
  refine (awake4_any _).mono ?_
  rintro e wa ⟨rfl, hba⟩
  have HA := hide hba
  clear hba
  dsimp only
  go_wp2_with fail
  refine (mineNew (R := w.heap.size) (w0 := w) 1 (by omega) HA.out (Nat.le_refl _)).mono ?_
  rintro e w1 ⟨g, F, rfl, hM⟩
  have M1 := hide hM
  clear hM
  dsimp only
  go_wp2_with fail
  refine (mineFuse M1.out (Nat.le_refl _) (n : Int) (by omega)).mono ?_
  rintro e w2 ⟨rfl, F2, hM⟩
  have hl := lit_new n hn.1
  rw [hl.1]
  obtain ⟨D2, hD2⟩ : ∃ D, D = ((Dv.new 1).fuse (n : Int)).2 := ⟨_, rfl⟩
  rw [← hD2] at hM hl
  have M2 := hide (And.intro hM hl.2)
  clear hM M1 hl hD2
  dsimp only
  go_wp2_with fail
  go_loopw [7] (fun v wr => ∃ (i : Nat) (F : Nat → Prop) (D : Dv), 1 ≤ i ∧ i ≤ n + 1 ∧ v = .int .i64 (i : Int) ∧ Mine w.heap.size w wr F g D ∧ Lit D n i) (fun v _ => n + 1 - (intOf v).toNat)
  case atStart => exact ⟨1, F2, D2, by omega, by omega, rfl, M2.out.1, M2.out.2⟩
  case round =>
    obtain ⟨i, F3, D, hi1, hi2, rfl, hM, hl⟩ := hrel
    have HM := hide (And.intro hM hl)
    clear hM hl M2
    by_cases hin : i ≤ n
    · have n1 : (i : Int) ≤ (n : Int) := by omega
      have hde : D.de ≤ 1000000000 := by
        have := HM.out.2.2.2.2
        rcases this with ⟨_, _, h, _⟩ | ⟨_, _, h⟩ <;> omega
      have hpl : D.pend.length ≤ 100000 := by have := HM.out.2.2.1; omega
      by_cases h30 : (i : Int) % 3 = 0
      · go_wp2_with fail
        refine (mineFlush HM.out.1 (Nat.le_refl _) hde hpl).mono ?_
        rintro e w3 ⟨rfl, F4, hM⟩
        have hl := lit_flush HM.out.2 hin
        rw [hl.1]
        have M3 := hide (And.intro hM hl.2)
        clear hM hl HM
        by_cases hlt : i < n
        · have n2 : (i : Int) < (n : Int) := by omega
          rw [if_pos hlt]
          dsimp only
          go_wp2_with fail
          go_roundw
          case rel => exact ⟨i + 1, F4, _, by omega, by omega, by go_num, M3.out.1, M3.out.2⟩
          case measure => simp [intOf]; omega
        · obtain rfl : i = n := by omega
          rw [if_neg hlt]
          dsimp only
          go_wp2_with fail
          go_roundw
          case rel => exact ⟨i + 1, F4, _, by omega, by omega, by go_num, M3.out.1, M3.out.2⟩
          case measure => simp [intOf]
      · go_wp2_with fail
        refine (mineWriteNew HM.out.1 (Nat.le_refl _) 0 (UInt8.ofNat i) (i : Int) (by rw [UInt8.toNat_ofNat']; omega) hde hpl (by omega)).mono ?_
        rintro e w3 ⟨rfl, F4, hM⟩
        have hl := lit_write HM.out.2 hin (UInt8.ofNat i)
        rw [hl.1]
        have M3 := hide (And.intro hM hl.2)
        clear hM hl HM
        by_cases hlt : i < n
        · have n2 : (i : Int) < (n : Int) := by omega
          rw [if_pos hlt]
          dsimp only
          go_wp2_with fail
          go_roundw
          case rel => exact ⟨i + 1, F4, _, by omega, by omega, by go_num, M3.out.1, M3.out.2⟩
          case measure => simp [intOf]; omega
        · obtain rfl : i = n := by omega
          rw [if_neg hlt]
          dsimp only
          go_wp2_with fail
          go_roundw
          case rel => exact ⟨i + 1, F4, _, by omega, by omega, by go_num, M3.out.1, M3.out.2⟩
          case measure => simp [intOf]
    · obtain rfl : i = n + 1 := by omega
      have hpl : D.pend.length ≤ 100000 := by have := HM.out.2.2.1; omega
      have hdn : D.dn = true ∧ D.de = (n : Int) - 1 := by
        have := HM.out.2.2.2.2
        rcases this with ⟨h, _⟩ | ⟨_, h⟩
        · omega
        · exact h
      have HD := hide hdn
      clear hdn
      have hf1 := stat_field1
      have hf2 := stat_field2
      have hf3 := stat_field3
      go_wp2_with fail
      refine (mineStat HM.out.1 (Nat.le_refl _)).mono ?_
      rintro e w3 ⟨rfl, hM⟩
      rw [HD.out.1, HD.out.2]
      have M3 := hide hM
      clear hM
      dsimp only
      go_wp2_with fail
      refine (mineStat M3.out (Nat.le_refl _)).mono ?_
      rintro e w4 ⟨rfl, hM⟩
      rw [HD.out.1, HD.out.2]
      have M4 := hide hM
      clear hM M3
      dsimp only
      go_wp2_with fail
      refine (mineWake M4.out (Nat.le_refl _) 0 hpl).mono ?_
      rintro e w5 ⟨rfl, F5, hM⟩
      have hl := free_wake HM.out.2 0
      rw [hl.1]
      obtain ⟨D5, hD5⟩ : ∃ E, E = (D.wake 0).2 := ⟨_, rfl⟩
      rw [← hD5] at hM hl
      have M5 := hide (And.intro hM hl.2)
      clear hM M4 hl hD5 HD HM hpl
      dsimp only
      go_wp2_with fail
      go_loopw [9] (fun v wr => ∃ (j : Nat) (F : Nat → Prop) (D : Dv), j ≤ m ∧ v = .int .i64 (j : Int) ∧ Mine w.heap.size w wr F g D ∧ Free D n j) (fun v _ => m - (intOf v).toNat)
      case atStart => exact ⟨0, F5, D5, by omega, rfl, M5.out.1, M5.out.2⟩
      case round =>
        obtain ⟨j, F6, D6, hj, rfl, hM, hl⟩ := hrel
        have H6 := hide (And.intro hM hl)
        have hde6 : D6.de ≤ 1000000000 := by have := hl.2.2.2.2; omega
        have hpl6 : D6.pend.length ≤ 100000 := by have := hl.2.1; omega
        clear hM hl M5
        by_cases hjm : j < m
        · have n1 : (j : Int) < (m : Int) := by omega
          go_wp2_with fail
          refine (mineWrite H6.out.1 (Nat.le_refl _) 0 [] none 0 hde6 hpl6 (by omega) (by simp) ⟨rfl, fun _ => ⟨rfl, rfl⟩, by simp [bv], fun ad had => by cases had⟩ (fun ad had => by cases had)).mono ?_
          rintro e w7 ⟨rfl, F7, hM⟩
          have hl := free_write H6.out.2
          rw [hl.1]
          have M7 := hide (And.intro hM hl.2)
          clear hM hl H6
          dsimp only
          go_wp2_with fail
          go_roundw
          case rel => exact ⟨j + 1, F7, _, by omega, by go_num, M7.out.1, M7.out.2⟩
          case measure => simp [intOf]; omega
        · obtain rfl : j = m := by omega
          go_wp2_with fail
          refine (mineStat H6.out.1 (Nat.le_refl _)).mono ?_
          rintro e w7 ⟨rfl, hM⟩
          have h6 := H6.out.2
          rw [h6.2.2.2.2, h6.2.1]
          have M7 := hide hM
          clear hM h6
          dsimp only
          go_wp2_with fail
          refine (mineStat M7.out (Nat.le_refl _)).mono ?_
          rintro e w8 ⟨rfl, hM⟩
          have h6 := H6.out.2
          rw [h6.2.2.2.2, h6.2.1]
          have M8 := hide hM
          clear hM h6
          dsimp only
          go_wp2_with fail
          go_ret
          exact ⟨rfl, M8.out.bel⟩
end Go.Proofs.Ytajeohmmobgcjaa
