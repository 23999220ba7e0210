/- spencekit.OverBytes: what was told is written over. -/
import Derived.Test.YtajeohmmobgcjaaMBytes
import Derived.Test.YtajeohmmobgcjaaMEqArr
import Derived.Test.YtajeohmmobgcjaaMLent
namespace Go.Proofs.Ytajeohmmobgcjaa
open Go Go.RowKit
set_option maxRecDepth 100000 in
set_option maxHeartbeats 1000000 in
theorem overBytes_any (R n : Nat) (hn : n ≤ 1000000) (v : Value) (xs : List Value) (w : World) (hv : w.ownsRow R 5 1 v n xs) :
    Calls Try.prog 48 #[v] w fun e w' => e = .returned (.tuple #[]) ∧ Turned (fun k => v.ownBlock = some k) w w' := by
  rcases owned_form hv with ⟨rfl, _, _⟩ | ⟨g, cap, cur, rfl, _, hnc, hcm, hb, hcs, _, hlt⟩
  · have hk1 := run_slice_to (P := Try.prog) 48 5 Try.underlying48 size5 none 0 0 0 (by omega)
    clear hv
    go_enter Try.func48, Try.ntmps48
    go_wp2_with fail
    refine wp_loop_once ?_
    go_wp2_with fail
    go_end0
    exact ⟨rfl, Turned.refl _ _⟩
  · have hc63 : (cap : Int) ≤ 9223372036854775807 := by simp only [maxLen] at hcm; omega
    have H0 := hide (And.intro hb hcs)
    clear hv hb hcs
    by_cases hmin : (cap : Int) ≤ (n : Int) + 12
    · have hcb : cap ≤ 1000012 := by omega
      have hk1 := run_slice_to (P := Try.prog) 48 5 Try.underlying48 size5 (some ⟨g, 0, none⟩) n cap cap (by omega)
      go_enter Try.func48, Try.ntmps48
      go_wp2_with fail
      go_loopw [3] (fun v wr => ∃ (i : Nat) (cur' : Array Value), i ≤ cap ∧ v = .int .i64 (i : Int) ∧ Blk wr g 5 cur' ∧ cur'.size = cap ∧ Turned (fun k => k = g) w wr) (fun v _ => cap - (intOf v).toNat)
      case atStart => exact ⟨0, cur, by omega, rfl, H0.out.1, H0.out.2, Turned.refl _ _⟩
      case round =>
        obtain ⟨i, cur', hi, rfl, hb, hcs, ht⟩ := hrel
        by_cases hit : i < cap
        · have cg := hb.cell i
          obtain ⟨u0, hu0⟩ : ∃ u, cur'[i]? = some u := ⟨_, Array.getElem?_eq_getElem (by omega)⟩
          rw [hu0] at cg
          have fg := hb.frozen i
          have lg := hb.lt
          have i1 : (0 : Int) ≤ (i : Int) := by omega
          have i2 : (i : Int) < (cap : Int) := by omega
          have hib : i ≤ 1000000000 := by omega
          have H1 := hide (And.intro hb (And.intro hcs ht))
          clear hb hcs ht hu0
          go_wp2_with (go_at_call 75; refine (markByte_any 2 i (by omega) hib _).mono ?_; rintro e w' ⟨rfl, rfl⟩)
          go_roundw
          case rel => exact ⟨i + 1, _, by omega, by go_num, H1.out.1.set_ i _, by rw [Array.size_setIfInBounds]; exact H1.out.2.1, H1.out.2.2.setCell (fun _ => rfl) _⟩
          case measure => simp [intOf]; omega
        · obtain rfl : i = cap := by omega
          have H1 := hide ht
          clear ht hb
          go_wp2_with fail
          go_end0
          refine ⟨rfl, H1.out.mono fun k _ h => ?_⟩
          show some g = some k
          rw [h]
    · have hmin2 : (n : Int) + 12 < (cap : Int) := by omega
      have hk1 := run_slice_to (P := Try.prog) 48 5 Try.underlying48 size5 (some ⟨g, 0, none⟩) n cap (n + 12) (by omega)
      go_enter Try.func48, Try.ntmps48
      go_wp2_with fail
      go_loopw [3] (fun v wr => ∃ (i : Nat) (cur' : Array Value), i ≤ (n + 12) ∧ v = .int .i64 (i : Int) ∧ Blk wr g 5 cur' ∧ cur'.size = cap ∧ Turned (fun k => k = g) w wr) (fun v _ => (n + 12) - (intOf v).toNat)
      case atStart => exact ⟨0, cur, by omega, rfl, H0.out.1, H0.out.2, Turned.refl _ _⟩
      case round =>
        obtain ⟨i, cur', hi, rfl, hb, hcs, ht⟩ := hrel
        by_cases hit : i < (n + 12)
        · have cg := hb.cell i
          obtain ⟨u0, hu0⟩ : ∃ u, cur'[i]? = some u := ⟨_, Array.getElem?_eq_getElem (by omega)⟩
          rw [hu0] at cg
          have fg := hb.frozen i
          have lg := hb.lt
          have i1 : (0 : Int) ≤ (i : Int) := by omega
          have i2 : (i : Int) < (n : Int) + 12 := by omega
          have hib : i ≤ 1000000000 := by omega
          have H1 := hide (And.intro hb (And.intro hcs ht))
          clear hb hcs ht hu0
          go_wp2_with (go_at_call 75; refine (markByte_any 2 i (by omega) hib _).mono ?_; rintro e w' ⟨rfl, rfl⟩)
          go_roundw
          case rel => exact ⟨i + 1, _, by omega, by go_num, H1.out.1.set_ i _, by rw [Array.size_setIfInBounds]; exact H1.out.2.1, H1.out.2.2.setCell (fun _ => rfl) _⟩
          case measure => simp [intOf]; omega
        · obtain rfl : i = (n + 12) := by omega
          have H1 := hide ht
          clear ht hb
          go_wp2_with fail
          go_end0
          refine ⟨rfl, H1.out.mono fun k _ h => ?_⟩
          show some g = some k
          rw [h]
end Go.Proofs.Ytajeohmmobgcjaa
