/- The walk of spencelaw01.got: are parts what a cursor gets? -/
import Derived.Test.YtcckmnabjjamfaaBackLaw
import Derived.Test.YtcckmnabjjamfaaCodeOne
import Derived.Deep.RegionHeld3
namespace Go.Proofs.Ytcckmnabjjamfaa
open Go.RowKit
theorem alike_of_turned {S : Nat → Prop} {B : Nat} {w w' : World} (h : Turned S w w') (hB : B ≤ w.heap.size) (hS : ∀ k, k < B → ¬ S k) : Alike B w w' := fun k hk => h.block k (by omega) (hS k hk)
theorem Turned.of_drewN {S : Nat → Prop} {a b : World} {n : Nat} (h : Turned S (a.drewN n) b) : Turned S a b := ⟨h.os, h.tape, h.output, h.size, h.block⟩
theorem got1_rest (c : Cu) (p : Part) : (got1 c p).2.rest.length ≤ c.rest.length := by
  unfold got1
  split
  · exact rest_le_num _ _
  · split
    · exact (rest_le_raw _ _).1
    · exact (rest_le_text _ _).1
set_option maxRecDepth 100000 in
set_option maxHeartbeats 4000000 in
theorem got_any (ls : List Part) (hls : ls.length ≤ 4000) (hlb : ∀ p ∈ ls, p.b.length ≤ 4000) (v : Value) (B : Nat) (c0 : Cu) (hc0 : c0.rest.length ≤ 1000000000) (g rb : Nat) (hBg : B ≤ g) (A0 : Option Addr) (cap0 : Nat) (w : World) (hBw : B ≤ w.heap.size) (hv : PartsM w B v ls) (h : CuAt w g 119 rb c0 A0 cap0) :
    Calls Try.prog 39 #[.pointer (some ⟨g, 0, none⟩), v] w fun e w' => e = .returned (.bool (gotL c0 ls).1) ∧ ∃ A' cap', CuAt w' g 119 rb (gotL c0 ls).2 A' cap' ∧ Turned (· = g) w w' := by
  obtain ⟨Al, capl, rfl, hcapl, hAl⟩ := hv
  have HAL := hide hAl
  have HC0 := hide h
  have HLB := hide hlb
  obtain ⟨R, hR⟩ : ∃ R, R = gotL c0 ls := ⟨_, rfl⟩
  rw [← hR]
  have HR := hide hR
  clear hAl h hlb hR
  go_enter Try.func39, Try.ntmps39
  go_wp2_with fail
  go_loopw [5] (fun i wr => ∃ k : Nat, k ≤ ls.length ∧ i = .int .i64 (k : Int) ∧ ∃ (c : Cu) (A : Option Addr) (cap : Nat), CuAt wr g 119 rb c A cap ∧ Turned (· = g) w wr ∧ R = gotL c (ls.drop k) ∧ c.rest.length ≤ 1000000000) (fun i _ => ls.length - (intOf i).toNat)
  case atStart => exact ⟨0, by omega, rfl, c0, A0, cap0, HC0.out, Turned.refl _ _, HR.out, hc0⟩
  case round =>
    obtain ⟨k, hk, rfl, c, A3, cap3, hcu, ht, hRk, hrest⟩ := hrel
    have hsz := ht.size
    have HCU := hide (And.intro hcu ht)
    have HRK := hide hRk
    clear hRk
    by_cases hlt : k < ls.length
    · obtain ⟨b, off, rfl, hbB, hpc⟩ := HAL.out (by omega)
      have hal : Alike B w wr := alike_of_turned ht hBw (fun k hk => by show ¬ k = g; omega)
      have hp := (hpc k hlt).alike hbB hal
      obtain ⟨q, hq⟩ : ∃ q, q = ls.getD k ⟨0, 0, 0, []⟩ := ⟨_, rfl⟩
      rw [← hq] at hp
      have hqb : q.b.length ≤ 4000 := by rw [hq]; exact HLB.out _ (by simp [List.getD, hlt])
      have p0 := hp.c0
      have p1 := hp.c1
      obtain ⟨Ab, cb, p3, hby, _⟩ := hp.c3
      have lt0 := World.block_lt_of_cell? wr _ p0
      have hw3 : q.what % 3 = 0 ∨ q.what % 3 = 1 ∨ q.what % 3 = 2 := by omega
      have HP := hide (And.intro hp.k0 hp.k1)
      have HBY := hide hby
      have i1 : (0 : Int) ≤ (k : Int) := by omega
      have i2 : (k : Int) < (ls.length : Int) := by omega
      have HQ := hide hq
      have hstep : R = if (got1 c q).1 = true then gotL (got1 c q).2 (ls.drop (k + 1)) else (false, (got1 c q).2) := by
        rw [HRK.out, List.drop_eq_getElem_cons hlt, gotL, hq]
        simp [List.getD, hlt]
      have HSTEP := hide hstep
      have hgr := got1_rest c q
      clear hstep
      clear hpc hp hq hby hal hcu ht
      obtain ⟨kd, hkd⟩ : ∃ kd, kd = q.what % 3 := ⟨_, rfl⟩
      rw [← hkd] at hw3
      have HKD := hide hkd
      clear hkd
      rcases hw3 with rfl | rfl | rfl
      · have hcall := cnum_any q.n HP.out.2 c (by omega) g 119 rb A3 cap3
        have hg1 : got1 c q = (decide (((c.num q.n).1 : Int) = q.n), (c.num q.n).2) := by unfold got1; rw [if_pos HKD.out.symm]
        obtain ⟨n, hn⟩ : ∃ n : Nat, n = (c.num q.n).1 := ⟨_, rfl⟩
        rw [← hn] at hcall hg1
        have HCALL := hide hcall
        have HG1 := hide hg1
        clear hcall hn hg1
        by_cases hnq : (n : Int) = q.n
        · have hb : ((n : Int) == q.n) = true := by simp [hnq]
          have HOK := hide (show (got1 c q).1 = true by rw [HG1.out]; exact decide_eq_true hnq)
          clear hnq
          go_wp2_with (go_at_call 18; refine (pick_any q.what 3 _ (by omega) (by omega) HP.out.1).mono ?_; rintro e w' ⟨rfl, rfl⟩; rw [← HKD.out])
          go_region_held3 (fun w' => w'.cell? ⟨b, off + k * 4 + 1, none⟩ = some (.int .i64 q.n))
            (first | go_keep | exact hkeep)
            ((go_at_call 42; refine (HCALL.out _ (HCU.out.1.below (below_drewN (Below.refl _ _) _))).mono ?_; rintro e w4 ⟨rfl, A4, cap4, hc4, ht4⟩; have hkeep : w4.cell? ⟨b, off + k * 4 + 1, none⟩ = some (.int .i64 q.n) := (World.cell?_of_block (ht4.block b lt0 (by show ¬ b = g; omega))).trans p1; have HC4 := hide (And.intro hc4 ht4); clear hc4 ht4))
          go_wp2_with fail
          go_roundw
          case rel =>
            have h1 := HSTEP.out
            rw [if_pos HOK.out] at h1
            rw [HG1.out] at h1 hgr
            have hgr2 : (c.num q.n).2.rest.length ≤ c.rest.length := hgr
            exact ⟨k + 1, by omega, by go_num, _, A4, cap4, HC4.out.1, HCU.out.2.trans (HC4.out.2.of_drewN), h1, by omega⟩
          case measure => simp [intOf]; omega
        · have hb : ((n : Int) == q.n) = false := by simp [hnq]
          have HOK := hide (show (got1 c q).1 = false by rw [HG1.out]; exact decide_eq_false hnq)
          go_wp2_with (go_at_call 18; refine (pick_any q.what 3 _ (by omega) (by omega) HP.out.1).mono ?_; rintro e w' ⟨rfl, rfl⟩; rw [← HKD.out])
          go_region_held3 (fun w' => w'.cell? ⟨b, off + k * 4 + 1, none⟩ = some (.int .i64 q.n))
            (first | go_keep | exact hkeep)
            ((go_at_call 42; refine (HCALL.out _ (HCU.out.1.below (below_drewN (Below.refl _ _) _))).mono ?_; rintro e w4 ⟨rfl, A4, cap4, hc4, ht4⟩; have hkeep : w4.cell? ⟨b, off + k * 4 + 1, none⟩ = some (.int .i64 q.n) := (World.cell?_of_block (ht4.block b lt0 (by show ¬ b = g; omega))).trans p1; have HC4 := hide (And.intro hc4 ht4); clear hc4 ht4))
          go_wp2_with fail
          go_ret
          have h1 := HSTEP.out
          rw [if_neg (by rw [HOK.out]; simp), HG1.out] at h1
          rw [h1]
          exact ⟨rfl, A4, cap4, HC4.out.1, HCU.out.2.trans (HC4.out.2.of_drewN)⟩
      · have hcall := craw_any (q.b.length : Int) (by omega) c (by omega) g 119 rb A3 cap3
        have hg1 : got1 c q = (decide ((c.raw (q.b.length : Int)).1 = q.b), (c.raw (q.b.length : Int)).2) := by unfold got1; rw [if_neg (by rw [← HKD.out]; omega), if_pos HKD.out.symm]
        obtain ⟨u, hu⟩ : ∃ u, u = (c.raw (q.b.length : Int)).1 := ⟨_, rfl⟩
        have hul : u.length ≤ 1000000000 := by rw [hu]; have := (rest_le_raw c (q.b.length : Int)).2; omega
        rw [← hu] at hcall hg1
        have HCALL := hide hcall
        have HG1 := hide hg1
        have HOK := hide (show (got1 c q).1 = decide (u = q.b) by rw [HG1.out])
        obtain ⟨z, hz⟩ : ∃ z, z = (got1 c q).1 := ⟨_, rfl⟩
        rw [← hz] at HOK
        have HZ := hide hz
        clear hcall hu hg1 hz
        go_wp2_with (go_at_call 18; refine (pick_any q.what 3 _ (by omega) (by omega) HP.out.1).mono ?_; rintro e w' ⟨rfl, rfl⟩; rw [← HKD.out])
        go_region_held3 (fun w' => w'.cell? ⟨b, off + k * 4 + 3, none⟩ = some (.slice Ab q.b.length cb))
          (first | go_keep | exact hkeep | exact hkeep2)
          (first
            | (go_at_call 43; refine (HCALL.out _ (HCU.out.1.below (below_drewN (Below.refl _ _) _))).mono ?_; rintro e w4 ⟨u4, rfl, own4, A4, cap4, hc4, ht4⟩; have hkeep : w4.cell? ⟨b, off + k * 4 + 3, none⟩ = some (.slice Ab q.b.length cb) := (World.cell?_of_block (ht4.block b lt0 (by show ¬ b = g; omega))).trans p3; have hq4 := (HBY.out.alike (alike_of_turned ht4.of_drewN (by omega) (fun k hk => by show ¬ k = g; omega))).mono (show B ≤ w4.heap.size by have := ht4.of_drewN.size; omega); have hu4 := bytesAt_owned own4; have HC4 := hide (And.intro hc4 ht4.of_drewN); have HB4 := hide (And.intro hu4 hq4); clear hc4 ht4 own4 hq4 hu4)
            | (go_at_call 31; refine (sameBytes_any u q.b (by omega) (by omega) _ _ _ _ HB4.out.1 HB4.out.2).mono ?_; rintro e w5 ⟨rfl, k5, hw5⟩; rw [← HOK.out]; have hkeep2 : w5.cell? ⟨b, off + k * 4 + 3, none⟩ = some (.slice Ab q.b.length cb) := (by rw [hw5]; exact hkeep); have HC5 := hide (And.intro (HC4.out.1.below (below_drewN (Below.refl _ _) k5)) (HC4.out.2.drewN k5)); rw [← hw5] at HC5; clear hw5))
        cases z with
        | true =>
          go_wp2_with fail
          go_roundw
          case rel =>
            have h1 := HSTEP.out
            rw [if_pos HZ.out.symm] at h1
            rw [HG1.out] at h1 hgr
            have hgr2 : (c.raw (q.b.length : Int)).2.rest.length ≤ c.rest.length := hgr
            exact ⟨k + 1, by omega, by go_num, _, A4, cap4, HC5.out.1, HCU.out.2.trans HC5.out.2, h1, by omega⟩
          case measure => simp [intOf]; omega
        | false =>
          go_wp2_with fail
          go_ret
          have h1 := HSTEP.out
          rw [if_neg (by rw [← HZ.out]; simp), HG1.out] at h1
          rw [h1]
          exact ⟨rfl, A4, cap4, HC5.out.1, HCU.out.2.trans HC5.out.2⟩
      · have hcall := ctext_any (q.b.length : Int) (by omega) c (by omega) g 119 rb A3 cap3
        have hg1 : got1 c q = (decide ((c.text (q.b.length : Int)).1 = q.b), (c.text (q.b.length : Int)).2) := by unfold got1; rw [if_neg (by rw [← HKD.out]; omega), if_neg (by rw [← HKD.out]; omega)]
        obtain ⟨u, hu⟩ : ∃ u, u = (c.text (q.b.length : Int)).1 := ⟨_, rfl⟩
        have hul : u.length ≤ 1000000000 := by rw [hu]; have := (rest_le_text c (q.b.length : Int)).2; omega
        rw [← hu] at hcall hg1
        have HCALL := hide hcall
        have HG1 := hide hg1
        have HOK := hide (show (got1 c q).1 = decide (u = q.b) by rw [HG1.out])
        obtain ⟨z, hz⟩ : ∃ z, z = (got1 c q).1 := ⟨_, rfl⟩
        rw [← hz] at HOK
        have HZ := hide hz
        clear hcall hu hg1 hz
        go_wp2_with (go_at_call 18; refine (pick_any q.what 3 _ (by omega) (by omega) HP.out.1).mono ?_; rintro e w' ⟨rfl, rfl⟩; rw [← HKD.out])
        go_region_held3 (fun w' => w'.cell? ⟨b, off + k * 4 + 3, none⟩ = some (.slice Ab q.b.length cb))
          (first | go_keep | exact hkeep | exact hkeep2)
          (first
            | (go_at_call 44; refine (HCALL.out _ (HCU.out.1.below (below_drewN (Below.refl _ _) _))).mono ?_; rintro e w4 ⟨u4, rfl, own4, A4, cap4, hc4, ht4⟩; have hkeep : w4.cell? ⟨b, off + k * 4 + 3, none⟩ = some (.slice Ab q.b.length cb) := (World.cell?_of_block (ht4.block b lt0 (by show ¬ b = g; omega))).trans p3; have hq4 := (HBY.out.alike (alike_of_turned ht4.of_drewN (by omega) (fun k hk => by show ¬ k = g; omega))).mono (show B ≤ w4.heap.size by have := ht4.of_drewN.size; omega); have hu4 := bytesAt_owned own4; have HC4 := hide (And.intro hc4 ht4.of_drewN); have HB4 := hide (And.intro hu4 hq4); clear hc4 ht4 own4 hq4 hu4)
            | (go_at_call 31; refine (sameBytes_any u q.b (by omega) (by omega) _ _ _ _ HB4.out.1 HB4.out.2).mono ?_; rintro e w5 ⟨rfl, k5, hw5⟩; rw [← HOK.out]; have hkeep2 : w5.cell? ⟨b, off + k * 4 + 3, none⟩ = some (.slice Ab q.b.length cb) := (by rw [hw5]; exact hkeep); have HC5 := hide (And.intro (HC4.out.1.below (below_drewN (Below.refl _ _) k5)) (HC4.out.2.drewN k5)); rw [← hw5] at HC5; clear hw5))
        cases z with
        | true =>
          go_wp2_with fail
          go_roundw
          case rel =>
            have h1 := HSTEP.out
            rw [if_pos HZ.out.symm] at h1
            rw [HG1.out] at h1 hgr
            have hgr2 : (c.text (q.b.length : Int)).2.rest.length ≤ c.rest.length := hgr
            exact ⟨k + 1, by omega, by go_num, _, A4, cap4, HC5.out.1, HCU.out.2.trans HC5.out.2, h1, by omega⟩
          case measure => simp [intOf]; omega
        | false =>
          go_wp2_with fail
          go_ret
          have h1 := HSTEP.out
          rw [if_neg (by rw [← HZ.out]; simp), HG1.out] at h1
          rw [h1]
          exact ⟨rfl, A4, cap4, HC5.out.1, HCU.out.2.trans HC5.out.2⟩
    · obtain rfl : k = ls.length := by omega
      go_wp2_with fail
      go_ret
      have h1 := HRK.out
      rw [List.drop_of_length_le (Nat.le_refl _)] at h1
      rw [h1]
      exact ⟨rfl, A3, cap3, HCU.out.1, HCU.out.2⟩
end Go.Proofs.Ytcckmnabjjamfaa
