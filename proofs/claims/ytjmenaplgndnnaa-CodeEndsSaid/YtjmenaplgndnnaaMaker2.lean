/- The walks of code.Maker: a number is put; what was put is told. -/
import Derived.Test.YtjmenaplgndnnaaMaker
namespace Go.Proofs.Ytjmenaplgndnnaa
open Go.RowKit
set_option maxRecDepth 100000 in
set_option maxHeartbeats 400000 in
theorem allow_yes (n most : Int) (hn : 0 ≤ n ∧ n ≤ most) (hm : most ≤ 1099511627776) (g T : Nat) (v : Value) (bad : Bool) (w : World) (hb : Blk w g T #[v, .bool bad]) :
    Calls Try.prog 42 #[.pointer (some ⟨g, 0, none⟩), .int .i64 n, .int .i64 most] w fun e w' => e = .returned (.bool !bad) ∧ w = w' := by
  have c1 := hb.cell 1
  simp only [List.getElem?_toArray, List.getElem?_cons_succ, List.getElem?_cons_zero] at c1
  have hlt := hb.lt
  have h0 := hn.1
  have h1 := hn.2
  have h2 : ¬ most < n := by omega
  have h3 : decide (most < n) = false := decide_eq_false h2
  have h4 : 0 ≤ most := by omega
  have HB := hide hb
  clear hb hn
  go_enter Try.func42, Try.ntmps42
  go_wp2
  go_ret
  exact ⟨rfl, rfl⟩
set_option maxRecDepth 100000 in
set_option maxHeartbeats 400000 in
theorem allow_no (n most : Int) (hn : n < 0 ∨ most < n) (hn2 : -9223372036854775808 ≤ n ∧ n ≤ 9223372036854775807) (hm : 0 ≤ most ∧ most ≤ 1099511627776) (g T : Nat) (v : Value) (bad : Bool) (w : World) (hb : Blk w g T #[v, .bool bad]) :
    Calls Try.prog 42 #[.pointer (some ⟨g, 0, none⟩), .int .i64 n, .int .i64 most] w fun e w' => e = .returned (.bool false) ∧ Blk w' g T #[v, .bool true] ∧ w.grownBy w' (some g) := by
  have c1 := hb.cell 1
  have f1 := hb.frozen 1
  simp only [List.getElem?_toArray, List.getElem?_cons_succ, List.getElem?_cons_zero] at c1
  have hlt := hb.lt
  have h4 := hm.1
  have h5 := hm.2
  have h6 := hn2.1
  have h7 := hn2.2
  have hu : n < 0 → most < IntKind.u64.wrap n := fun h => by simp [IntKind.wrap, IntKind.signed, IntKind.bits]; omega
  have HB := hide hb
  clear hb hm hn2
  rcases Int.lt_or_le n 0 with hneg | hpos
  · have hu2 := hu hneg
    clear hu hn
    go_enter Try.func42, Try.ntmps42
    go_wp2
    go_ret
    exact ⟨rfl, HB.out.set_ 1 _, only_setCell (World.grownBy.refl w _) (.inl rfl) _⟩
  · have hlt2 : most < n := by omega
    clear hu hn
    go_enter Try.func42, Try.ntmps42
    go_wp2
    go_ret
    exact ⟨rfl, HB.out.set_ 1 _, only_setCell (World.grownBy.refl w _) (.inl rfl) _⟩
/-- one number more -/
def mkNum (l : List UInt8) (bad : Bool) (n : Int) : List UInt8 × Bool := if 0 ≤ n ∧ n ≤ 1099511627776 then (if bad then (l, true) else (l ++ num n.toNat, false)) else (l, true)
set_option maxRecDepth 100000 in
set_option maxHeartbeats 1000000 in
theorem mnum_any (n : Int) (hn : -9223372036854775808 ≤ n ∧ n ≤ 9223372036854775807) (l : List UInt8) (hl : l.length ≤ 1099511627776) (bad : Bool) (base g T : Nat) (hT : 5 ≠ T) (v : Value) (A : Nat) (w : World) (hbase : base ≤ w.heap.size)
    (hm : MkAt w base g T l bad v) (hA : w.cell? ⟨A, 0, none⟩ = some (.int .i64 n)) :
    Calls Try.prog 11 #[.pointer (some ⟨g, 0, none⟩), .slice (some ⟨A, 0, none⟩) 1 1] w fun e w' => e = .returned (.pointer (some ⟨g, 0, none⟩)) ∧
      ∃ v', MkAt w' base g T (mkNum l bad n).1 (mkNum l bad n).2 v' ∧ Turned (MkS g v) w w' ∧ Moved w v v' := by
  have HM := hide hm
  have HT := hide hT
  have HA := hide hA
  clear hm hT hA
  go_enter Try.func11, Try.ntmps11
  go_wp2_with fail
  go_loopw [11] (fun i wr => ∃ k : Nat, k ≤ 1 ∧ i = .int .i64 (k : Int) ∧ (k = 0 → wr = w) ∧ (k = 1 → ∃ v', MkAt wr base g T (mkNum l bad n).1 (mkNum l bad n).2 v' ∧ Turned (MkS g v) w wr ∧ Moved w v v')) (fun i _ => (1 - intOf i).toNat)
  case atStart => exact ⟨0, by omega, rfl, fun _ => rfl, fun h => absurd h (by omega)⟩
  case round =>
    obtain ⟨k, hk, rfl, hk0, hk1⟩ := hrel
    have HK1 := hide hk1
    clear hk1
    by_cases h0 : k = 0
    · obtain rfl := hk0 h0
      subst h0
      have ca := HA.out
      have b1 := hn.1
      have b2 := hn.2
      by_cases hin : 0 ≤ n ∧ n ≤ 1099511627776
      · obtain ⟨m, rfl⟩ : ∃ m : Nat, n = (m : Int) := ⟨n.toNat, by omega⟩
        have hm64 : m < 18446744073709551616 := by omega
        cases hbad : bad with
        | true =>
          rw [hbad] at HM
          clear hk0 HK1 hbad
          go_wp2_with (go_at_call 42; refine (allow_yes _ _ hin (by omega) g T v true _ HM.out.blk).mono ?_; rintro e w1 ⟨rfl, rfl⟩)
          go_roundw
          case rel =>
            refine ⟨1, by omega, by go_num, fun h => absurd h (by omega), fun _ => ⟨v, ?_, Turned.refl _ _, Moved.refl _ _⟩⟩
            rw [mkNum, if_pos hin, if_pos rfl]
            exact HM.out
          case measure => simp [intOf]
        | false =>
          rw [hbad] at HM
          clear hk0 HK1 hbad
          go_wp2_with (first
            | (go_at_call 42; refine (allow_yes _ _ hin (by omega) g T v false _ HM.out.blk).mono ?_; rintro e w1 ⟨rfl, rfl⟩)
            | (go_at_call 43; refine (number_any m hm64 l hl false base g T HT.out v _ hbase HM.out).mono ?_; rintro e w1 ⟨rfl, v1, hm1, ht1, hmv1⟩))
          have HM1 := hide (And.intro hm1 (And.intro ht1 hmv1))
          clear hm1 ht1 hmv1
          go_roundw
          case rel =>
            obtain ⟨hm1, ht1, hmv1⟩ := HM1.out
            refine ⟨1, by omega, by go_num, fun h => absurd h (by omega), fun _ => ⟨v1, ?_, ht1, hmv1⟩⟩
            rw [mkNum, if_pos hin, if_neg (by simp)]
            exact hm1
          case measure => simp [intOf]
      · have hin2 : n < 0 ∨ 1099511627776 < n := by omega
        clear hk0 HK1
        go_wp2_with (go_at_call 42; refine (allow_no _ _ hin2 hn (by omega) g T v bad _ HM.out.blk).mono ?_; rintro e w1 ⟨rfl, hb1, hg1⟩)
        have HM1 := hide (And.intro hb1 hg1)
        clear hb1 hg1
        go_roundw
        case rel =>
          obtain ⟨hb1, hg1⟩ := HM1.out
          refine ⟨1, by omega, by go_num, fun h => absurd h (by omega), fun _ => ⟨v, ?_, Turned.of_grown hg1 (fun k h _ => by injection h with h; exact .inl h.symm), Moved.refl _ _⟩⟩
          rw [mkNum, if_neg hin]
          exact ⟨hb1, owned_keep HM.out.own (fun q hq hlt => hg1.block q hlt (by intro e; injection e with e; subst e; exact owned_ne HM.out.own HM.out.blk HT.out hq))⟩
        case measure => simp [intOf]
    · obtain rfl : k = 1 := by omega
      have H := HK1.out rfl
      have HH := hide H
      clear H hk0
      go_wp2_with fail
      go_ret
      exact ⟨rfl, HH.out⟩
end Go.Proofs.Ytjmenaplgndnnaa
