/- The walk of code.Cursor.Num. -/
import Derived.Test.YtjmenaplgndnnaaCursor
namespace Go.Proofs.Ytjmenaplgndnnaa
open Go.RowKit
theorem acc_lt (acc x k : Nat) (ha : acc < 128 ^ k) (hx : x < 128) : acc + x * 128 ^ k < 128 ^ (k + 1) := by
  have h6 : x * 128 ^ k ≤ 127 * 128 ^ k := Nat.mul_le_mul_right _ (by omega)
  rw [Nat.pow_succ]; omega
theorem acc_or (acc x k : Nat) (hk : k ≤ 5) (ha : acc < 128 ^ k) (hx : x < 128) : bits .or .u64 (acc : Int) (IntKind.u64.wrap ((x : Int) * 2 ^ (7 * k))) = ((acc + x * 128 ^ k : Nat) : Int) := by
  have e2 : (2 : Nat) ^ (7 * k) = 128 ^ k := by rw [Nat.pow_mul]
  have h5 : 128 ^ k ≤ 128 ^ 5 := Nat.pow_le_pow_right (by omega) hk
  have h6 : x * 128 ^ k ≤ 127 * 128 ^ k := Nat.mul_le_mul_right _ (by omega)
  have h7 : (x : Int) * 2 ^ (7 * k) = ((x * 128 ^ k : Nat) : Int) := by rw [← e2]; push_cast; rfl
  obtain ⟨y, hy⟩ : ∃ y, y = x * 128 ^ k := ⟨_, rfl⟩
  rw [h7, ← hy]
  have hy2 : y < 18446744073709551616 := by omega
  have e3 : IntKind.u64.wrap (y : Int) = (y : Int) := by
    simp only [IntKind.wrap, IntKind.signed, IntKind.bits]
    simp
    omega
  rw [e3, u64_or_nat _ _ (by omega) (by omega), hy, ← e2]
  congr 1
  rw [Nat.or_comm, Nat.mul_comm x, Nat.add_comm]
  rw [← e2] at ha
  exact (Nat.two_pow_add_eq_or_of_lt ha x).symm
theorem strip (x : Nat) (h1 : 128 ≤ x) (h2 : x < 256) : bits .andNot .u8 (x : Int) 128 = ((x - 128 : Nat) : Int) := by
  have h : ∀ q : Nat, q < 256 → 128 ≤ q → bits .andNot .u8 (q : Int) 128 = ((q - 128 : Nat) : Int) := by decide +kernel
  exact h x h2 h1
set_option maxRecDepth 100000 in
set_option maxHeartbeats 1000000 in
theorem cnum_any (most : Int) (hmost : -9223372036854775808 ≤ most ∧ most ≤ 9223372036854775807) (c : Cu) (hc : c.rest.length ≤ 1099511627776) (g T rb : Nat) (A : Option Addr) (cap : Nat) (w : World) (h : CuAt w g T rb c A cap) :
    Calls Try.prog 39 #[.pointer (some ⟨g, 0, none⟩), .int .i64 most] w fun e w' => e = .returned (.int .i64 ((c.num most).1 : Int)) ∧ ∃ A' cap', CuAt w' g T rb (c.num most).2 A' cap' ∧ Turned (· = g) w w' := by
  have hb := h.blk
  have c0 := hb.cell 0
  have f0 := hb.frozen 0
  simp only [List.getElem?_toArray, List.getElem?_cons_zero] at c0
  have hlt := hb.lt
  obtain ⟨r, hr⟩ : ∃ r, r = c.rest := ⟨_, rfl⟩
  rw [← hr] at c0 hc
  have hrd : 0 < r.length → ∃ off, A = some ⟨rb, off, none⟩ ∧ rb < w.heap.size ∧ ∀ j, j < r.length → w.cell? ⟨rb, off + j, none⟩ = some (.int .u8 ((r.getD j 0).toNat : Int)) := by rw [hr]; exact h.rd
  have HRD := hide hrd
  have HH := hide h
  have HR := hide hr
  clear h hb hrd hr
  obtain ⟨n1, m1, hsc⟩ : ∃ n1 m1, scan r 0 0 = (n1, m1) := ⟨_, _, rfl⟩
  have hbd := scan_acc r 0 0 (by omega) (by omega)
  rw [hsc] at hbd
  have hb1 : n1 < 562949953421312 := hbd.1
  have hb2 : m1 ≤ r.length := by have := hbd.2; simpa using this
  have HS := hide hsc
  clear hsc hbd
  go_enter Try.func39, Try.ntmps39
  go_wp2_with fail
  go_step3
  go_wp2_with fail
  go_step3
  go_upto_block 0 with fail
  go_cut [5, 6] (fun s5 s6 wx => s5 = .int .u64 (n1 : Int) ∧ s6 = .int .i64 (m1 : Int) ∧ wx = w)
  case first =>
    go_wp2_with fail
    go_loop [5, 6, 16] (fun s5 s6 i => ∃ (k acc : Nat), k ≤ r.length ∧ k ≤ 6 ∧ i = .int .i64 (k : Int) ∧ s5 = .int .u64 (acc : Int) ∧ s6 = .int .i64 0 ∧ acc < 128 ^ k ∧ scan r 0 0 = scan (r.drop k) k acc) (fun _ _ i => r.length - (intOf i).toNat)
    case atStart => exact ⟨0, 0, by omega, by omega, rfl, rfl, rfl, by omega, rfl⟩
    case round =>
      obtain ⟨k, acc, hk, hk6, rfl, rfl, rfl, hacc, hsk⟩ := hrel
      rw [HS.out] at hsk
      by_cases hlt : k < r.length
      · rw [List.drop_eq_getElem_cons hlt, scan] at hsk
        obtain ⟨off, rfl, hrb, hcell⟩ := HRD.out (by omega)
        have hck := hcell k hlt
        obtain ⟨x, hx⟩ : ∃ x, x = r[k] := ⟨_, rfl⟩
        have hx2 : r.getD k 0 = x := by rw [hx]; simp [List.getD, hlt]
        rw [hx2] at hck
        rw [← hx] at hsk
        have hxl := x.toNat_lt
        clear hcell hx hx2
        by_cases h6 : k = 6
        · rw [if_pos h6] at hsk
          have hb6 : ((k : Int) == 6) = true := by simp [h6]
          have HSK := hide hsk
          clear hsk
          subst h6
          go_wp2_with fail
          go_meet
          have h := HSK.out
          injection h with h1 h2
          exact ⟨by rw [h1], by rw [h2]; rfl, rfl⟩
        · rw [if_neg h6] at hsk
          have hb6 : ((k : Int) == 6) = false := by simp; omega
          by_cases hx8 : x.toNat < 128
          · rw [if_pos hx8] at hsk
            have HSK := hide hsk
            clear hsk
            go_wp2_with fail
            go_meet
            have h := HSK.out
            injection h with h1 h2
            exact ⟨by rw [h1, acc_or acc x.toNat k (by omega) hacc hx8], by rw [h2]; go_num, rfl⟩
          · rw [if_neg hx8] at hsk
            have HSK := hide hsk
            have hst := strip x.toNat (by omega) hxl
            clear hsk
            go_wp2_with fail
            go_round
            case rel =>
              refine ⟨k + 1, acc + (x.toNat - 128) * 128 ^ k, by omega, by omega, by go_num, ?_, rfl, acc_lt _ _ _ hacc (by omega), by rw [HS.out]; exact HSK.out⟩
              rw [acc_or acc (x.toNat - 128) k (by omega) hacc (by omega)]
            case measure => simp [intOf]; omega
      · obtain rfl : k = r.length := by omega
        rw [List.drop_of_length_le (Nat.le_refl _), scan] at hsk
        have HSK := hide hsk
        clear hsk
        go_wp2_with fail
        go_meet
        have h := HSK.out
        injection h with h1 h2
        exact ⟨by rw [h1], by rw [h2]; rfl, rfl⟩
  case rest =>
    obtain ⟨rfl, rfl, rfl⟩ := hcut
    have hfail : numOk (n1, m1) most = false → ∀ w', (CuAt w' g T rb (c.fail (4 : Int).toNat) none 0 ∧ Turned (· = g) wc w') → Ending.returned (.int .i64 0) = .returned (.int .i64 ((c.num most).1 : Int)) ∧ ∃ A' cap', CuAt w' g T rb (c.num most).2 A' cap' ∧ Turned (· = g) wc w' := by
      intro h w' hw'
      have e : c.num most = (0, c.fail 4) := by
        unfold Cu.num
        rw [← HR.out, HS.out, h]
        rfl
      rw [e]
      exact ⟨rfl, none, 0, hw'⟩
    have hok : numOk (n1, m1) most = true → c.num most = (n1, ⟨c.rest.drop m1, c.wrong⟩) := by
      intro h
      unfold Cu.num
      rw [← HR.out, HS.out, h]
      rfl
    have HFA := hide hfail
    have HOK := hide hok
    clear hfail hok
    by_cases q1 : m1 = 0
    · have q1b : ((m1 : Int) == 0) = true := by simp [q1]
      have HFAIL := hide (HFA.out (by simp [numOk, q1]))
      subst q1
      go_wp2_with (first
        | (go_at_call 61; refine (clength_any n1 (by omega) _).mono ?_; rintro e w' ⟨rfl, rfl⟩)
        | (go_at_call 62; refine (cfail_any 4 (.inr rfl) c g T rb A cap _ HH.out).mono ?_; rintro e w2 ⟨rfl, hc2, ht2⟩; have HX := hide (And.intro hc2 ht2); clear hc2 ht2))
      rw [Exit.noGoto_ret]
      go_ret
      exact HFAIL.out _ HX.out
    · have q1b : ((m1 : Int) == 0) = false := by simp [q1]
      by_cases q2 : m1 = (num n1).length
      · have q2b : ((m1 : Int) != ((num n1).length : Int)) = false := by simp; omega
        by_cases q3 : n1 ≤ 1099511627776
        · have q3b : ¬ (1099511627776 : Int) < (n1 : Int) := by omega
          by_cases q4 : 0 ≤ most
          · have q4b : ¬ most < 0 := by omega
            have q4c : IntKind.u64.wrap most = most := by simp only [IntKind.wrap, IntKind.signed, IntKind.bits]; simp; omega
            by_cases q5 : (n1 : Int) ≤ most
            · have q5b : ¬ most < (n1 : Int) := by omega
              have HNUM := hide (HOK.out (by simp only [numOk, Bool.and_eq_true, Bool.not_eq_true', beq_eq_false_iff_ne, beq_iff_eq, decide_eq_true_eq]; exact ⟨q1, q2, q3, q4, q5⟩))
              clear q1 q2
              obtain ⟨A2, hA2⟩ : ∃ A2 : Option Addr, A2 = if cap = m1 then A else A.map (·.add m1) := ⟨_, rfl⟩
              have hs1 := run_slice_from (P := Try.prog) 26 5 Try.underlying26 size5 A r.length cap m1 hb2
              have hs2 := run_sliceAt_from (P := Try.prog) 26 5 Try.underlying26 size5 A r.length cap m1 hb2
              rw [← hA2] at hs1 hs2
              have HA2 := hide hA2
              clear hA2
              go_wp2_with (go_at_call 61; refine (clength_any n1 (by omega) _).mono ?_; rintro e w' ⟨rfl, rfl⟩)
              rw [Exit.noGoto_ret]
              go_ret
              rw [HNUM.out]
              refine ⟨rfl, A2, cap - m1, ⟨?_, ?_, ?_, HH.out.ne, ?_⟩, (Turned.refl (fun k => k = g) wc).setCell (fun _ => rfl) _⟩
              · have h2 := HH.out.blk.set_ 0 (.slice A2 (r.length - m1) (cap - m1))
                rw [HR.out] at h2
                rw [List.length_drop, ← HR.out]
                rw [← HR.out] at h2
                exact h2
              · have h2 := HH.out.fits
                rw [← HR.out] at h2
                rw [List.length_drop, ← HR.out]; omega
              · intro h2
                have h3 := HA2.out
                rw [h2] at h3
                split at h3
                · omega
                · have h4 := HH.out.nil (by cases A with | none => rfl | some _ => simp at h3)
                  omega
              · intro h0
                rw [List.length_drop, ← HR.out] at h0
                obtain ⟨off, hA, hrb, hcell⟩ := HRD.out (by omega)
                have h3 := HA2.out
                have h5 := HH.out.fits
                rw [← HR.out] at h5
                rw [if_neg (by omega), hA] at h3
                refine ⟨off + m1, by rw [h3]; simp [Addr.add_mid], by simpa [World.setCell] using hrb, fun j hj => ?_⟩
                rw [List.length_drop, ← HR.out] at hj
                rw [World.cell?_setCell_other _ _ _ _ (by intro e; injection e with e; exact HH.out.ne e.symm), Nat.add_assoc, hcell (m1 + j) (by omega)]
                rw [← HR.out]
                simp [List.getD]
            · have q5b : most < (n1 : Int) := by omega
              have HFAIL := hide (HFA.out (by simp [numOk, q5]))
              clear q1 q2
              go_wp2_with (first
                | (go_at_call 61; refine (clength_any n1 (by omega) _).mono ?_; rintro e w' ⟨rfl, rfl⟩)
                | (go_at_call 62; refine (cfail_any 4 (.inr rfl) c g T rb A cap _ HH.out).mono ?_; rintro e w2 ⟨rfl, hc2, ht2⟩; have HX := hide (And.intro hc2 ht2); clear hc2 ht2))
              rw [Exit.noGoto_ret]
              go_ret
              exact HFAIL.out _ HX.out
          · have q4b : most < 0 := by omega
            have HFAIL := hide (HFA.out (by simp [numOk, q4]))
            clear q1 q2
            go_wp2_with (first
              | (go_at_call 61; refine (clength_any n1 (by omega) _).mono ?_; rintro e w' ⟨rfl, rfl⟩)
              | (go_at_call 62; refine (cfail_any 4 (.inr rfl) c g T rb A cap _ HH.out).mono ?_; rintro e w2 ⟨rfl, hc2, ht2⟩; have HX := hide (And.intro hc2 ht2); clear hc2 ht2))
            rw [Exit.noGoto_ret]
            go_ret
            exact HFAIL.out _ HX.out
        · have q3b : (1099511627776 : Int) < (n1 : Int) := by omega
          have HFAIL := hide (HFA.out (by simp [numOk, q3]))
          clear q1 q2
          go_wp2_with (first
            | (go_at_call 61; refine (clength_any n1 (by omega) _).mono ?_; rintro e w' ⟨rfl, rfl⟩)
            | (go_at_call 62; refine (cfail_any 4 (.inr rfl) c g T rb A cap _ HH.out).mono ?_; rintro e w2 ⟨rfl, hc2, ht2⟩; have HX := hide (And.intro hc2 ht2); clear hc2 ht2))
          rw [Exit.noGoto_ret]
          go_ret
          exact HFAIL.out _ HX.out
      · have q2b : ((m1 : Int) != ((num n1).length : Int)) = true := by simp; omega
        have HFAIL := hide (HFA.out (by simp [numOk, q2]))
        clear q1
        go_wp2_with (first
          | (go_at_call 61; refine (clength_any n1 (by omega) _).mono ?_; rintro e w' ⟨rfl, rfl⟩)
          | (go_at_call 62; refine (cfail_any 4 (.inr rfl) c g T rb A cap _ HH.out).mono ?_; rintro e w2 ⟨rfl, hc2, ht2⟩; have HX := hide (And.intro hc2 ht2); clear hc2 ht2))
        rw [Exit.noGoto_ret]
        go_ret
        exact HFAIL.out _ HX.out
end Go.Proofs.Ytjmenaplgndnnaa
