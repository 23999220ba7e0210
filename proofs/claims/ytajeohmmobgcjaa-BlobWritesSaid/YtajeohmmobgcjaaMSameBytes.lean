/- spencekit: SameBytes. -/
import Derived.Test.YtajeohmmobgcjaaMLentKept
namespace Go.Proofs.Ytajeohmmobgcjaa
open Go.RowKit
theorem same_step (a b : List UInt8) (j : Nat) (h : a.take j = b.take j) (e : a.getD j 0 = b.getD j 0) (ha : j < a.length) (hb : j < b.length) : a.take (j + 1) = b.take (j + 1) := by
  rw [List.take_add_one, List.take_add_one, h]
  simp only [List.getD_eq_getElem?_getD, List.getElem?_eq_getElem ha, List.getElem?_eq_getElem hb, Option.getD_some] at e
  rw [List.getElem?_eq_getElem ha, List.getElem?_eq_getElem hb, e]
set_option maxRecDepth 100000 in
set_option maxHeartbeats 1000000 in
theorem sameBytes_any (a b : List UInt8) (ha : a.length ≤ 1099511627776) (hb : b.length ≤ 1099511627776) (u v : Value) (B : Nat) (w : World) (hu : BytesAt w B u a) (hv : BytesAt w B v b) :
    Calls Try.prog 31 #[u, v] w fun e w' => e = .returned (.bool (decide (a = b))) ∧ ∃ k, w' = w.drewN k := by
  obtain ⟨A, ca, rfl, hca, hA⟩ := hu
  obtain ⟨A', cb, rfl, hcb, hB⟩ := hv
  by_cases hlen : a.length = b.length
  · have HA := hide hA
    have HB := hide hB
    obtain ⟨n, hn⟩ : ∃ n, n = a.length := ⟨_, rfl⟩
    rw [← hlen, ← hn] at hcb
    rw [← hlen, ← hn]
    rw [← hn] at hca
    have hn' : n ≤ 1099511627776 := by omega
    have HN := hide (And.intro hn hlen)
    clear hA hB hlen hn ha hb
    go_enter Try.func31, Try.ntmps31
    go_wp2_with fail
    go_loopw [5] (fun t wr => ∃ j : Nat, j ≤ n ∧ t = .int .i64 (j : Int) ∧ a.take j = b.take j ∧ ∃ k, wr = w.drewN k) (fun t _ => (n - intOf t).toNat)
    case atStart => exact ⟨0, by omega, rfl, rfl, 0, rfl⟩
    case round =>
      obtain ⟨j, hj, rfl, htk, hk⟩ := hrel
      have hcw : ∀ p, wr.cell? p = w.cell? p := by obtain ⟨k, rfl⟩ := hk; exact fun p => World.cell?_drewN w k p
      have HK := hide hk
      have HCW := hide hcw
      have HT := hide htk
      clear hk hcw htk
      by_cases hend : j < n
      · obtain ⟨p, o, hpa, _, hpc⟩ := HA.out (by have := HN.out.1; omega)
        obtain ⟨q, o', hqa, _, hqc⟩ := HB.out (by have := HN.out; omega)
        subst hpa hqa
        obtain ⟨x, hx⟩ : ∃ x, x = a.getD j 0 := ⟨_, rfl⟩
        obtain ⟨y, hy⟩ : ∃ y, y = b.getD j 0 := ⟨_, rfl⟩
        have c1 : wr.cell? ⟨p, o + j, none⟩ = some (.int .u8 (x.toNat : Int)) := by rw [HCW.out, hx]; exact hpc j (by have := HN.out.1; omega)
        have c2 : wr.cell? ⟨q, o' + j, none⟩ = some (.int .u8 (y.toNat : Int)) := by rw [HCW.out, hy]; exact hqc j (by have := HN.out; omega)
        have HX := hide (And.intro hx hy)
        clear hx hy hpc hqc HA HB
        by_cases hxy : x = y
        · subst hxy
          go_wp2_with fail
          go_quiet (fail)
          go_wp2_with fail
          go_roundw
          case rel =>
            obtain ⟨k, hk⟩ := HK.out
            have h1 := HN.out
            exact ⟨j + 1, by omega, by go_num, same_step a b j HT.out (by rw [← HX.out.1, ← HX.out.2]) (by omega) (by omega), _, by rw [hk, World.drewN_drewN]⟩
          case measure => simp [intOf]; omega
        · have hne : ¬ (x.toNat : Int) = (y.toNat : Int) := by
            intro e
            exact hxy (UInt8.toNat_inj.1 (by omega))
          go_wp2_with fail
          go_quiet (fail)
          go_wp2_with fail
          go_ret
          obtain ⟨k, hk⟩ := HK.out
          refine ⟨?_, _, by rw [hk, World.drewN_drewN]⟩
          have : a ≠ b := by
            rintro rfl
            exact hxy (by rw [HX.out.1, HX.out.2])
          rw [decide_eq_false this]; rfl
      · obtain rfl : j = n := by omega
        go_wp2_with fail
        go_ret
        refine ⟨?_, HK.out⟩
        have h1 := HN.out
        have : a = b := by
          have h2 := HT.out
          rwa [List.take_of_length_le (by omega), List.take_of_length_le (by omega)] at h2
        rw [decide_eq_true this]; rfl
  · have hne : ¬ (a.length : Int) = (b.length : Int) := by omega
    have hd : decide (a = b) = false := decide_eq_false (by rintro rfl; exact hlen rfl)
    rw [hd]
    clear hA hB
    go_enter Try.func31, Try.ntmps31
    go_wp2_with fail
    go_ret
    exact ⟨rfl, 0, rfl⟩
end Go.Proofs.Ytajeohmmobgcjaa
