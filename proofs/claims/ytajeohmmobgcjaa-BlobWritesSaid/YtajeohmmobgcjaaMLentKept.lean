/- spencekit: KeptBytes, SameBytes. -/
import Derived.Test.YtajeohmmobgcjaaMLent
import Derived.Deep.QuietTactic
import Derived.BigQuiet
namespace Go.Proofs.Ytajeohmmobgcjaa
open Go.RowKit
theorem keptL (l : List UInt8) (j : Nat) (h : j < l.length) : (bv (l ++ marks)).toArray[j]? = some (.int .u8 ((l.getD j 0).toNat : Int)) := by
  rw [bv_get _ _ (by rw [List.length_append]; omega)]
  rw [List.getD_eq_getElem?_getD, List.getD_eq_getElem?_getD, List.getElem?_append_left h]
theorem keptM (l : List UInt8) (j : Nat) (h : j < 12) : (bv (l ++ marks)).toArray[l.length + j]? = some (.int .u8 ((mk 1 j).toNat : Int)) := by
  rw [bv_get _ _ (by rw [List.length_append, marks, List.length_map, List.length_range]; omega)]
  simp [List.getD, marks, h]
set_option maxRecDepth 100000 in
set_option maxHeartbeats 1000000 in
theorem keptBytes_any (l : List UInt8) (hl : l.length ≤ 1000000) (A : Option Addr) (n cap g : Nat) (B : Nat) (w : World) (hv : BytesAt w B (.slice A n cap) l) (hg : Blk w g 5 (bv (l ++ marks)).toArray) :
    Calls Try.prog 47 #[.slice (some ⟨g, 0, none⟩) l.length (l.length + 12), .slice A n cap] w fun e w' => e = .returned (.bool true) ∧ ∃ k, w' = w.drewN k := by
  obtain ⟨rfl, hcap, _, hcells⟩ := hv.cells
  have HV := hide hv
  have HC := hide hcells
  have HG := hide hg
  clear hv hcells hg
  go_enter Try.func47, Try.ntmps47
  go_wp2_with fail
  go_loopw [6] (fun v wr => ∃ j : Nat, j ≤ l.length + 12 ∧ v = .int .i64 (j : Int) ∧ ∃ k, wr = w.drewN k) (fun v _ => (l.length + 12 - intOf v).toNat)
  case atStart => exact ⟨0, by omega, rfl, 0, rfl⟩
  case round =>
    obtain ⟨j, hj, rfl, hk⟩ := hrel
    have hcw : ∀ p, wr.cell? p = w.cell? p := by obtain ⟨k, rfl⟩ := hk; exact fun p => World.cell?_drewN w k p
    have HK := hide hk
    have HCW := hide hcw
    clear hk hcw
    by_cases hend : j < l.length + 12
    · by_cases hin : j < l.length
      · obtain ⟨A', cap', hv, hc', hA⟩ := HV.out
        injection hv with e1 e2 e3
        subst e1 e3
        obtain ⟨b, off, rfl, hbB, hcell⟩ := hA (by omega)
        obtain ⟨x, hx⟩ : ∃ x, x = l.getD j 0 := ⟨_, rfl⟩
        have cL : wr.cell? ⟨b, off + j, none⟩ = some (.int .u8 (x.toNat : Int)) := by rw [HCW.out, hx]; exact hcell j hin
        have cG : wr.cell? ⟨g, j, none⟩ = some (.int .u8 (x.toNat : Int)) := by rw [hx, HCW.out, HG.out.cell, keptL l j hin]
        have n0 : (0 : Int) ≤ (j : Int) := by omega
        have n1 : (j : Int) < (l.length : Int) := by omega
        have n2 : (j : Int) < (l.length : Int) + 12 := by omega
        have d1 : decide ((j : Int) < (l.length : Int)) = true := decide_eq_true n1
        have d2 : decide (l.length ≤ j) = false := decide_eq_false (by omega)
        have d3 : decide ((l.length : Int) ≤ (j : Int)) = false := decide_eq_false (by omega)
        have HX := hide hx
        clear hx hcell hA HV HC
        go_wp2_with fail
        go_quiet (fail)
        go_wp2_with fail
        go_roundw
        case rel => obtain ⟨k, hk⟩ := HK.out; exact ⟨j + 1, by omega, by go_num, _, by rw [hk, World.drewN_drewN]⟩
        case measure => simp [intOf]; omega
      · obtain ⟨q, rfl⟩ : ∃ q, j = l.length + q := ⟨j - l.length, by omega⟩
        have cG : wr.cell? ⟨g, l.length + q, none⟩ = some (.int .u8 ((mk 1 q).toNat : Int)) := by rw [HCW.out, HG.out.cell, keptM l q (by omega)]
        obtain ⟨j, hj2⟩ : ∃ j, j = l.length + q := ⟨_, rfl⟩
        rw [← hj2] at cG hend hj hin ⊢
        have n0 : (0 : Int) ≤ (j : Int) := by omega
        have n2 : (j : Int) < (l.length : Int) + 12 := by omega
        have n3 : (j : Int) - (l.length : Int) = (q : Int) := by omega
        have d1 : decide ((j : Int) < (l.length : Int)) = false := decide_eq_false (by omega)
        have d2 : decide (l.length ≤ j) = true := decide_eq_true (by omega)
        have d3 : decide ((l.length : Int) ≤ (j : Int)) = true := decide_eq_true (by omega)
        have d4 : decide (j < l.length) = false := decide_eq_false (by omega)
        have hq : q ≤ 1000000000 := by omega
        have HJ := hide hj2
        clear hj2 HV HC
        go_wp2_with fail
        go_quiet ((go_at_call 75; exact Calls.quiet_of_same (markByte_any 1 q (by omega) hq _)))
        go_wp2_with fail
        go_roundw
        case rel => obtain ⟨k, hk⟩ := HK.out; exact ⟨j + 1, by omega, by go_num, _, by rw [hk, World.drewN_drewN]⟩
        case measure => simp [intOf]; omega
    · obtain rfl : j = l.length + 12 := by omega
      go_wp2_with fail
      go_ret
      exact ⟨rfl, HK.out⟩
end Go.Proofs.Ytajeohmmobgcjaa
