/- spencekit.KeptRows; the walk of spencelaw02.HashSums. -/
import Derived.Test.YtjmenaplgndnnaaRefF
import Derived.Test.YtjmenaplgndnnaaAwakeHash
import Derived.Test.YtjmenaplgndnnaaEqArr
namespace Go.Proofs.Ytjmenaplgndnnaa
open Go.RowKit
set_option maxRecDepth 100000 in
set_option maxHeartbeats 1000000 in
theorem keptRows_any (ls : List (List UInt8)) (hb : ∀ l ∈ ls, l.length ≤ 1000000) (hn : ls.length ≤ 1000000000) (vin v : Value) (us : List Value) (base B : Nat) (w : World) (hr : LRow w base vin us ls) (hp : RowsAt w B v ls) :
    Calls Try.prog 33 #[vin, v] w fun e w' => e = .returned (.bool true) ∧ ∃ k, w' = w.drewN k := by
  obtain ⟨A, cap, rfl, hcap, hA⟩ := hp
  obtain ⟨Ai, capi, rfl, hcapi, hI⟩ := hr.cell
  have HA := hide hA
  have HB := hide hb
  have HI := hide hI
  have HR := hide hr
  clear hA hb hI hr
  go_enter Try.func33, Try.ntmps33
  go_wp2_with fail
  go_loopw [5] (fun v5 wr => ∃ k : Nat, k ≤ ls.length ∧ v5 = .int .i64 (k : Int) ∧ ∃ n, wr = w.drewN n) (fun v5 _ => ls.length - (intOf v5).toNat)
  case atStart => exact ⟨0, by omega, rfl, 0, rfl⟩
  case round =>
    obtain ⟨k, hk, rfl, hd⟩ := hrel
    have hheap : wr.heap = w.heap := by obtain ⟨n, rfl⟩ := hd; rfl
    have hcw : ∀ p, wr.cell? p = w.cell? p := by obtain ⟨n, rfl⟩ := hd; exact fun p => World.cell?_drewN w n p
    have HD := hide hd
    clear hd
    by_cases hlt : k < ls.length
    · obtain ⟨b, off, rfl, hbB, hcells⟩ := HA.out (by omega)
      obtain ⟨Aj, cj, cu, hby, hnil⟩ := hcells k hlt
      obtain ⟨q, rfl, hq, hci⟩ := HI.out (by omega)
      obtain ⟨g, hg1, hg2, hg3⟩ := HR.out.at_ k hlt
      have ci := hci k hlt
      rw [hg1] at ci
      rw [← hcw] at ci cu
      obtain ⟨l, hl'⟩ : ∃ l, l = ls.getD k [] := ⟨_, rfl⟩
      have hll : l.length ≤ 1000000 := by rw [hl']; exact HB.out _ (by simp [List.getD, hlt])
      rw [← hl'] at cu hby ci hg3
      have i1 : (0 : Int) ≤ (k : Int) := by omega
      have i2 : (k : Int) < (ls.length : Int) := by omega
      have ci : wr.cell? ⟨q, k, none⟩ = some (.slice (some ⟨g, 0, none⟩) l.length (l.length + 12)) := by rw [Nat.zero_add] at ci; exact ci
      have hby' : BytesAt wr B (.slice Aj l.length cj) l := hby.alike (fun k _ => by rw [hheap])
      have hg3' : Blk wr g 5 (bv (l ++ marks)).toArray := by unfold Blk at hg3 ⊢; rw [hheap]; exact hg3
      have HX := hide (And.intro hby' hg3')
      clear hby hby' hg3' hcw hheap hnil hcells hl' hci hg1 hg3
      go_wp2_with fail
      go_quiet ((go_at_call 20; exact Calls.quiet_of (keptBytes_any l hll Aj l.length cj g B _ (HX.out.1.alike (fun _ _ => rfl)) (HX.out.2))))
      go_wp2_with fail
      go_roundw
      case rel => obtain ⟨n, hn⟩ := HD.out; exact ⟨k + 1, by omega, by go_num, _, by rw [hn, World.drewN_drewN]⟩
      case measure => simp [intOf]; omega
    · obtain rfl : k = ls.length := by omega
      go_wp2_with fail
      go_ret
      exact ⟨rfl, HD.out⟩
theorem RowsAt.mono {w : World} {B B' : Nat} {v : Value} {ls : List (List UInt8)} (h : RowsAt w B v ls) (hB : B ≤ B') : RowsAt w B' v ls := by
  obtain ⟨A, cap, hv, hc, hA⟩ := h
  refine ⟨A, cap, hv, hc, fun h0 => ?_⟩
  obtain ⟨b, off, h1, h2, h3⟩ := hA h0
  refine ⟨b, off, h1, by omega, fun j hj => ?_⟩
  obtain ⟨A', c', h4, ⟨A2, c2, e, h5, h6⟩, h7⟩ := h3 j hj
  exact ⟨A', c', h4, ⟨A2, c2, e, h5, fun h => by obtain ⟨b, off, k1, k2, k3⟩ := h6 h; exact ⟨b, off, k1, by omega, k3⟩⟩, h7⟩
set_option maxRecDepth 100000 in
set_option maxHeartbeats 1000000 in
theorem hashSums_big (ls : List (List UInt8)) (hl : ls.length ≤ 140737488355328) (hb : ∀ l ∈ ls, l.length ≤ 140737488355328) (hbig : 6000 < ls.length + fl ls) (v : Value) (w : World) (B : Nat) (hv : RowsAt w B v ls) :
    Calls Try.prog 34 #[v] w fun e w' => e = .returned (.bool true) ∧ Below w.heap.size w w' := by
  have HV := hide hv
  have HB := hide hb
  clear hv hb
  go_enter Try.func34, Try.ntmps34
  go_wp2_with fail
  refine (size02_any ls hl HB.out v B _ HV.out).mono ?_
  rintro e w' ⟨r, rfl, rfl, hr, hor⟩
  have h1 : (6000 : Int) < (r : Int) := by omega
  clear hor
  dsimp only
  go_wp2_with fail
  refine (awake_any _).mono ?_
  rintro e w1 ⟨rfl, hb1⟩
  have HB1 := hide hb1
  clear hb1
  dsimp only
  go_wp2_with fail
  go_ret
  exact ⟨rfl, HB1.out⟩
set_option maxRecDepth 100000 in
set_option maxHeartbeats 1000000 in
theorem hashSums_small (ls : List (List UInt8)) (hsm : ls.length + fl ls ≤ 6000) (v : Value) (w : World) (B : Nat) (hB : B ≤ w.heap.size) (hv : RowsAt w B v ls) :
    Calls Try.prog 34 #[v] w fun e w' => e = .returned (.bool true) ∧ Below w.heap.size w w' := by
  have hel : ∀ l ∈ ls, l.length ≤ 6000 := fun l h => by have h1 := mem_flat_le h; unfold fl at hsm; omega
  have hll : ls.length ≤ 6000 := by omega
  have HEL := hide hel
  have HV := hide hv
  have HSM := hide hsm
  clear hv hel hsm
  go_enter Try.func34, Try.ntmps34
  go_wp2_with fail
  refine (size02_any ls (by omega) (fun l h => by have := HEL.out l h; omega) v B _ HV.out).mono ?_
  rintro e w' ⟨r, rfl, rfl, hr, hor⟩
  have h1 : ¬ (6000 : Int) < (r : Int) := by have := HSM.out; omega
  have h2 : (r : Int) ≤ 6000 := by omega
  clear hor
  dsimp only
  go_wp2_with fail
  refine (lentRows_any ls (fun l h => by have := HEL.out l h; omega) (by omega) v _ B hB HV.out).mono ?_
  rintro e w1 ⟨v1, us, rfl, hrow, hb1⟩
  have hs1 := hb1.size
  have HX1 := hide (And.intro hrow hb1)
  obtain ⟨A1, cap1, rfl, _, _⟩ := hrow.cell
  clear hrow hb1
  have hD : (Sha.sum ls.flatten).length = 32 := sum_len _
  obtain ⟨D, hDD⟩ : ∃ D, D = Sha.sum ls.flatten := ⟨_, rfl⟩
  rw [← hDD] at hD
  have HDD := hide hDD
  have heq := run_eql_bv (P := Try.prog) 53 5 32 Try.underlying53 Try.underlying5 size5 D D hD hD
  rw [show (D == D) = true by simp] at heq
  clear hDD hD
  dsimp only
  go_wp2_with fail
  refine (sum_any ls (by have := HSM.out; unfold fl at this; omega) (by omega) _ _ w1.heap.size (Nat.le_refl _) HX1.out.1.parts).mono ?_
  rintro e w2 ⟨rfl, hb2⟩
  rw [← HDD.out]
  have hs2 := hb2.size
  have HX2 := hide hb2
  clear hb2
  dsimp only
  go_wp2_with fail
  have hv2 : RowsAt w2 B v ls := (HV.out.alike (alike_of_below (HX1.out.2.mono hB))).alike (alike_of_below (HX2.out.mono (by omega)))
  refine (rsum_any ls (by have := HSM.out; unfold fl at this; omega) (by omega) _ _ B (by omega) hv2).mono ?_
  rintro e w3 ⟨rfl, hb3⟩
  rw [← HDD.out]
  have hs3 := hb3.size
  have hv3 : RowsAt w3 B v ls := hv2.alike (alike_of_below (hb3.mono (by omega)))
  have hr3 := (HX1.out.1.keep HX2.out).keep hb3
  have HX3 := hide (And.intro hb3 (And.intro hv3 hr3))
  clear hb3 hv3 hr3 hv2
  dsimp only
  go_wp2_with (first
    | (go_at_call 33; refine (keptRows_any ls (fun l h => by have := HEL.out l h; omega) (by omega) _ v us _ B _ HX3.out.2.2 HX3.out.2.1).mono ?_; rintro e w4 ⟨rfl, k4, rfl⟩)
    | (go_at_call 27; refine (awake_any _).mono ?_; rintro e w5 ⟨rfl, hb5⟩; have HX5 := hide hb5; clear hb5))
  go_ret
  have hd : Below w.heap.size w (w3.drewN k4) := below_drewN ((HX1.out.2.trans (HX2.out.mono hs1)).trans (HX3.out.1.mono (by omega))) k4
  exact ⟨rfl, hd.trans (HX5.out.mono hd.size)⟩
end Go.Proofs.Ytjmenaplgndnnaa
