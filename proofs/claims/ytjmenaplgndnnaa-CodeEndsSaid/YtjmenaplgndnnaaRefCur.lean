/- The walks of spenceref01.Cursor: it breaks; a number is got. -/
import Derived.Test.YtjmenaplgndnnaaRNum
import Derived.Test.YtjmenaplgndnnaaCursor3
namespace Go.Proofs.Ytjmenaplgndnnaa
open Go.RowKit
set_option maxRecDepth 100000 in
set_option maxHeartbeats 1000000 in
theorem rnumber_big (n : Nat) (hn : n ≤ 9000000000000000000) (w : World) :
    Calls Try.prog 22 #[.int .i64 (n : Int)] w fun e w' => ∃ v', e = .returned v' ∧ w'.ownsRow w.heap.size 5 1 v' (num n).length (bv (num n)) ∧ Below w.heap.size w w' := by
  obtain ⟨i, hi, hz0, hz1, hz2⟩ := info_parts info5
  obtain ⟨N, hN⟩ : ∃ N, N = w.heap.size := ⟨_, rfl⟩
  rw [← hN]
  have HN := hide hN
  have hlen := num_len n (by omega)
  obtain ⟨l, hl⟩ : ∃ l, l = num n := ⟨_, rfl⟩
  rw [← hl] at hlen ⊢
  have HL := hide (And.intro hlen hl)
  clear hN hlen hl
  go_enter Try.func22, Try.ntmps22
  go_wp2_with fail
  go_loopw [0, 3] (fun v0 v3 wr => ∃ (m k : Nat) (p : List UInt8) (A3 : Option Addr) (cap3 : Nat), v0 = .int .i64 (m : Int) ∧ v3 = .slice A3 k cap3 ∧ k = p.length ∧ m ≤ 9000000000000000000 ∧ p ++ num m = l ∧ wr.ownsRow N 5 1 v3 k (bv p) ∧ Below N w wr) (fun v0 _ _ => (intOf v0).toNat)
  case atStart => exact ⟨n, 0, [], none, 0, rfl, rfl, rfl, hn, HL.out.2.symm, ⟨rfl, .inl ⟨rfl, rfl⟩⟩, Below.refl _ _⟩
  case round =>
    obtain ⟨m, k, p, A3, cap3, rfl, rfl, hk, hm, hpl, own3, hb3⟩ := hrel
    have hk10 : k ≤ 10 := by
      have h1 := HL.out.1
      rw [← hpl, List.length_append] at h1
      omega
    have hsz := hb3.size
    have hNz : N ≤ wr.heap.size := by have := HN.out; omega
    by_cases h128 : m < 128
    · obtain ⟨x, hx⟩ : ∃ x, x = UInt8.ofNat m := ⟨_, rfl⟩
      have n0 : (0 : Int) ≤ (m : Int) := by omega
      have n1 : (m : Int) ≤ 127 := by omega
      have n3 : (m : Int) = (x.toNat : Int) := by rw [hx, UInt8.toNat_ofNat']; omega
      have n2 : ¬ (128 : Int) ≤ (m : Int) := by omega
      have H3 := hide (And.intro (own3.alloc (.cells #[.int .u8 (m : Int)] 5)) (And.intro (hb3.alloc (by omega) (.cells #[.int .u8 (m : Int)] 5)) (And.intro hk (And.intro hpl (And.intro hx n3)))))
      clear own3 hb3 hk hpl hx n3
      go_wp2_with (at_builtin; (refine wpList_app (o := ⟨some 19, _, _, _, _, _⟩) rfl (.tmp 15) (.tmp 18) 26 rfl N 5 i (.int .u8 0) 1 Try.underlying26 hi hz0 hz1 hz2 rfl _ k _ H3.out.1 (some ⟨wr.heap.size, 0, none⟩) 1 1 [.int .u8 (m : Int)] (src_one wr (.int .u8 (m : Int)) 5 rfl) (by simp only [maxLen]; omega) (by omega) (by rw [size_alloc]; omega) rfl rfl ?_); intro v4 w4 own4 gr4 mv4 _; obtain ⟨A4, cap4, rfl⟩ := owned_slice own4; have H4 := hide (And.intro own4 gr4); clear own4 gr4 mv4)
      go_ret
      obtain ⟨own3, hb3, hk, hpl, hx, n3⟩ := H3.out
      obtain ⟨own4, gr4⟩ := H4.out
      have e : l = p ++ [x] := by rw [← hpl, num_lo h128, hx]
      refine ⟨_, rfl, ?_, hb3.grown gr4 (by rw [size_alloc]; omega) (fun q hq => (owned_lt own3 hq).1)⟩
      rw [n3] at own4
      rw [e, List.length_append, bvA, ← hk]
      exact own4
    · obtain ⟨r, hr⟩ : ∃ r, r = m % 128 := ⟨_, rfl⟩
      obtain ⟨x, hx⟩ : ∃ x, x = UInt8.ofNat (m % 128 + 128) := ⟨_, rfl⟩
      obtain ⟨d, hd⟩ : ∃ d, d = m / 128 := ⟨_, rfl⟩
      have n0 : (0 : Int) ≤ (m : Int) := by omega
      have nx : (r : Int) + 128 = (x.toNat : Int) := by rw [hx, UInt8.toNat_ofNat']; omega
      have n2 : (128 : Int) ≤ (m : Int) := by omega
      have n3 : (m : Int) % 128 = (r : Int) := by omega
      have n4 : (m : Int).tmod 128 = (r : Int) := by rw [Int.tmod_eq_emod_of_nonneg n0, n3]
      have n5 : (m : Int) / 128 = (d : Int) := by omega
      have n6 : (m : Int).tdiv 128 = (d : Int) := by rw [Int.tdiv_eq_ediv_of_nonneg n0, n5]
      have n7 : (r : Int) ≤ 127 := by omega
      have n8 : (0 : Int) ≤ (r : Int) := by omega
      have hdm : d < m := by omega
      have H3 := hide (And.intro (own3.alloc (.cells #[.int .u8 ((r : Int) + 128)] 5)) (And.intro (hb3.alloc (by omega) (.cells #[.int .u8 ((r : Int) + 128)] 5)) (And.intro hk (And.intro hpl (And.intro hx (And.intro hd nx))))))
      clear own3 hb3 hk hpl hx hd hr nx
      go_wp2_with (at_builtin; (refine wpList_app (o := ⟨some 12, _, _, _, _, _⟩) rfl (.tmp 6) (.tmp 11) 26 rfl N 5 i (.int .u8 0) 1 Try.underlying26 hi hz0 hz1 hz2 rfl _ k _ H3.out.1 (some ⟨wr.heap.size, 0, none⟩) 1 1 [.int .u8 ((r : Int) + 128)] (src_one wr (.int .u8 ((r : Int) + 128)) 5 rfl) (by simp only [maxLen]; omega) (by omega) (by rw [size_alloc]; omega) rfl rfl ?_); intro v4 w4 own4 gr4 mv4 _; obtain ⟨A4, cap4, rfl⟩ := owned_slice own4; have H4 := hide (And.intro own4 gr4); clear own4 gr4 mv4)
      go_roundw
      case rel =>
        obtain ⟨own3, hb3, hk, hpl, hx, hd, nx⟩ := H3.out
        obtain ⟨own4, gr4⟩ := H4.out
        rw [nx] at own4
        refine ⟨d, k + 1, p ++ [x], A4, cap4, by go_num, rfl, by rw [List.length_append, hk]; rfl, by omega, ?_, by rw [bvA]; exact own4, hb3.grown gr4 (by rw [size_alloc]; omega) (fun q hq => (owned_lt own3 hq).1)⟩
        rw [← hpl, num_hi h128, hx, hd, List.append_assoc]
        rfl
      case measure => simp [intOf]; omega
set_option maxRecDepth 100000 in
set_option maxHeartbeats 400000 in
theorem rcfail_any (e0 : Int) (he : e0 = 3 ∨ e0 = 4) (c : Cu) (g T rb : Nat) (A : Option Addr) (cap : Nat) (w : World) (h : CuAt w g T rb c A cap) :
    Calls Try.prog 85 #[.pointer (some ⟨g, 0, none⟩), .int .i64 e0] w fun e w' => e = .returned (.tuple #[]) ∧ CuAt w' g T rb (c.fail e0.toNat) none 0 ∧ Turned (· = g) w w' := by
  have hb := h.blk
  have hne0 := h.ne
  have c0 := hb.cell 0
  have c1 := hb.cell 1
  have f0 := hb.frozen 0
  have f1 := hb.frozen 1
  simp only [List.getElem?_toArray, List.getElem?_cons_succ, List.getElem?_cons_zero] at c0 c1
  have hlt := hb.lt
  have HB := hide hb
  clear h hb
  obtain ⟨z, hz⟩ : ∃ z : Int, z = (c.wrong : Int) := ⟨_, rfl⟩
  rw [← hz] at c1
  have hz0 : 0 ≤ z := by omega
  have HZ := hide hz
  have HE := hide he
  clear hz he
  have fin : ∀ w', Blk w' g T #[.slice none 0 0, .int .i64 ((c.fail e0.toNat).wrong : Int)] → CuAt w' g T rb (c.fail e0.toNat) none 0 := fun w' hw => ⟨hw, Nat.le_refl _, fun _ => rfl, hne0, fun h => absurd h (by simp [Cu.fail])⟩
  have HF := hide fin
  clear fin
  by_cases h0 : z = 0
  · subst h0
    go_enter Try.func85, Try.ntmps85
    go_wp2
    go_end0
    refine ⟨rfl, HF.out _ ?_, (((Turned.refl (fun k => k = g) w).setCell (fun _ => rfl) _).setCell (fun _ => rfl) _)⟩
    have hw : c.wrong = 0 := by have := HZ.out; omega
    have h2 := (HB.out.set_ 1 (.int .i64 e0)).set_ 0 (.slice none 0 0)
    have e2 : ((c.fail e0.toNat).wrong : Int) = e0 := by
      simp only [Cu.fail, hw, if_true]
      rcases HE.out with h | h <;> rw [h] <;> rfl
    rw [e2]
    exact h2
  · have hne : (z == 0) = false := by simp [h0]
    go_enter Try.func85, Try.ntmps85
    go_wp2
    go_end0
    refine ⟨rfl, HF.out _ ?_, ((Turned.refl (fun k => k = g) w).setCell (fun _ => rfl) _)⟩
    have hw : ¬ c.wrong = 0 := by have := HZ.out; omega
    have h2 := HB.out.set_ 0 (.slice none 0 0)
    have e2 : ((c.fail e0.toNat).wrong : Int) = (c.wrong : Int) := by simp only [Cu.fail, if_neg hw]
    rw [e2]
    exact h2
/-- what is broken has nothing left -/
def Cu.ok (c : Cu) : Prop := c.wrong = 0 ∨ c.rest = []
theorem ok_fail (c : Cu) (e : Nat) : (c.fail e).ok := .inr rfl
theorem ok_num {c : Cu} (h : c.ok) (most : Int) : (c.num most).2.ok := by
  unfold Cu.num
  split
  · rcases h with h | h
    · exact .inl h
    · exact .inr (by show c.rest.drop _ = []; rw [h]; simp)
  · exact ok_fail c 4
theorem ok_raw {c : Cu} (h : c.ok) (most : Int) : (c.raw most).2.ok := by
  unfold Cu.raw
  split
  · rcases h with h | h
    · exact .inl h
    · exact .inr (by show c.rest.drop _ = []; rw [h]; simp)
  · exact ok_fail c 4
theorem ok_text {c : Cu} (h : c.ok) (most : Int) : (c.text most).2.ok := by
  unfold Cu.text
  split
  · exact ok_num h _
  · split
    · exact ok_fail _ 3
    · exact ok_raw (ok_num h _) _
set_option maxRecDepth 100000 in
set_option maxHeartbeats 2000000 in
theorem rcnum_any (most : Int) (hmost : -9223372036854775808 ≤ most ∧ most ≤ 9223372036854775807) (c : Cu) (hok : c.ok) (hc : c.rest.length ≤ 1099511627776) (g T rb : Nat) (A : Option Addr) (cap : Nat) (w : World) (h : CuAt w g T rb c A cap) :
    Calls Try.prog 47 #[.pointer (some ⟨g, 0, none⟩), .int .i64 most] w fun e w' => e = .returned (.int .i64 ((c.num most).1 : Int)) ∧ ∃ A' cap', CuAt w' g T rb (c.num most).2 A' cap' ∧ Turned (· = g) w w' := by
  have hb := h.blk
  have c0 := hb.cell 0
  have c1 := hb.cell 1
  have f0 := hb.frozen 0
  simp only [List.getElem?_toArray, List.getElem?_cons_zero, List.getElem?_cons_succ] at c0 c1
  have hlt := hb.lt
  have hfit := h.fits
  obtain ⟨r, hr⟩ : ∃ r, r = c.rest := ⟨_, rfl⟩
  obtain ⟨z, hz⟩ : ∃ z : Int, z = (c.wrong : Int) := ⟨_, rfl⟩
  rw [← hr] at c0 hc hfit
  rw [← hz] at c1
  have hzr : r ≠ [] → z = 0 := by
    intro h1
    rcases hok with h2 | h2
    · omega
    · rw [← hr] at h2; exact absurd h2 h1
  have hrd : 0 < r.length → ∃ off, A = some ⟨rb, off, none⟩ ∧ rb < w.heap.size ∧ ∀ j, j < r.length → w.cell? ⟨rb, off + j, none⟩ = some (.int .u8 ((r.getD j 0).toNat : Int)) := by rw [hr]; exact h.rd
  have HRD := hide hrd
  have HH := hide h
  have HR := hide hr
  have HZR := hide hzr
  have hfail : numOk (scan r 0 0) most = false → ∀ w1 w', Below w.heap.size w w1 → (CuAt w' g T rb (c.fail (4 : Int).toNat) none 0 ∧ Turned (· = g) w1 w') → Ending.returned (.int .i64 0) = .returned (.int .i64 ((c.num most).1 : Int)) ∧ ∃ A' cap', CuAt w' g T rb (c.num most).2 A' cap' ∧ Turned (· = g) w w' := by
    intro h w1 w' hb1 hw'
    have e : c.num most = (0, c.fail 4) := by
      unfold Cu.num
      rw [← hr, h]
      rfl
    rw [e]
    exact ⟨rfl, none, 0, hw'.1, (Turned.of_below hb1 _).trans hw'.2⟩
  have HF := hide hfail
  clear h hb hrd hr hz hzr hok hfail
  go_enter Try.func47, Try.ntmps47
  go_wp2_with fail
  go_loopw [5, 6, 7] (fun s5 s6 i wr => ∃ (k acc P : Nat), k ≤ r.length ∧ k ≤ 6 ∧ i = .int .i64 (k : Int) ∧ s5 = .int .i64 (acc : Int) ∧ s6 = .int .i64 (P : Int) ∧ P = 128 ^ k ∧ acc < P ∧ scan r 0 0 = scan (r.drop k) k acc ∧ w = wr) (fun _ _ i _ => 6 - (intOf i).toNat)
  case atStart => exact ⟨0, 0, 1, by omega, by omega, rfl, rfl, rfl, rfl, by omega, rfl, rfl⟩
  case round =>
    obtain ⟨k, acc, P, hk, hk6, rfl, rfl, rfl, hP, hacc, hsk, rfl⟩ := hrel
    have hPle : k ≤ 5 → P ≤ 34359738368 := fun h5 => by rw [hP]; exact Nat.pow_le_pow_right (n := 128) (by omega) h5
    by_cases h6 : k < 6
    · by_cases hkl : k < r.length
      · have hz0 : z = 0 := HZR.out (by intro e; rw [e] at hkl; simp at hkl)
        subst hz0
        rw [List.drop_eq_getElem_cons hkl, scan, if_neg (by omega)] at hsk
        obtain ⟨off, rfl, hrb, hcell⟩ := HRD.out (by omega)
        have hck := hcell k hkl
        obtain ⟨x, hx⟩ : ∃ x, x = r[k] := ⟨_, rfl⟩
        have hx2 : r.getD k 0 = x := by rw [hx]; simp [List.getD, hkl]
        rw [hx2] at hck
        rw [← hx] at hsk
        have hxl := x.toNat_lt
        have hP5 := hPle (by omega)
        obtain ⟨y, hy⟩ : ∃ y, y = x.toNat % 128 * P := ⟨_, rfl⟩
        obtain ⟨P2, hP2⟩ : ∃ P2, P2 = P * 128 := ⟨_, rfl⟩
        have hyl : y ≤ 127 * P := by rw [hy]; exact Nat.mul_le_mul_right _ (by omega)
        have m1 : (x.toNat : Int) % 128 * (P : Int) = (y : Int) := by rw [hy]; push_cast; rfl
        have m2 : (x.toNat : Int).tmod 128 = (x.toNat : Int) % 128 := Int.tmod_eq_emod_of_nonneg (by omega)
        have m3 : IntKind.i64.wrap ((P : Int) * 128) = (P2 : Int) := by simp only [IntKind.wrap, IntKind.signed, IntKind.bits]; simp; omega
        have i1 : (0 : Int) ≤ (k : Int) := by omega
        have i2 : (k : Int) < 6 := by omega
        have i3 : (k : Int) < (r.length : Int) := by omega
        clear hcell hx hx2 hPle
        by_cases hx8 : x.toNat < 128
        · rw [if_pos hx8] at hsk
          obtain ⟨v, hv⟩ : ∃ v, v = acc + y := ⟨_, rfl⟩
          have hyx : y = x.toNat * 128 ^ k := by rw [hy, hP, Nat.mod_eq_of_lt hx8]
          rw [← hyx, ← hv] at hsk
          have hvi : (acc : Int) + (y : Int) = (v : Int) := by omega
          have hvb : v ≤ 9000000000000000000 := by omega
          have HSK := hide hsk
          have hx8i : ¬ (128 : Int) ≤ (x.toNat : Int) := by omega
          obtain ⟨m, hm⟩ : ∃ m, m = k + 1 := ⟨_, rfl⟩
          have hmi : (k : Int) + 1 = (m : Int) := by omega
          have hmr : m ≤ r.length := by omega
          rw [← hm] at HSK
          have HMK := hide hm
          clear hm
          clear hsk hy hP hyx hv
          go_wp2_with fail
          refine (rnumber_big v hvb _).mono ?_
          rintro e w1 ⟨v1, rfl, own1, hb1⟩
          obtain ⟨A1, k1, rfl⟩ := owned_slice own1
          have hcu1 := HH.out.below hb1
          have c0' := hcu1.blk.cell 0
          have f0' := hcu1.blk.frozen 0
          have hlt1 := hcu1.blk.lt
          rw [← HR.out] at c0'
          simp only [List.getElem?_toArray, List.getElem?_cons_zero] at c0'
          obtain ⟨nl, hnl⟩ : ∃ nl, nl = (num v).length := ⟨_, rfl⟩
          rw [← hnl]
          have hbad : ¬ (nl = m ∧ v ≤ 1099511627776 ∧ (v : Int) ≤ most) → numOk (scan r 0 0) most = false := by
            intro h
            rw [HSK.out]
            simp only [numOk, ← hnl]
            simp only [Bool.and_eq_false_iff, decide_eq_false_iff_not, beq_eq_false_iff_ne]
            simp
            omega
          have HB := hide (And.intro hb1 hcu1)
          have HBAD := hide hbad
          have HNL := hide hnl
          clear own1 hb1 hcu1 hnl hbad
          dsimp only
          by_cases q1 : nl = m
          · by_cases q2 : v ≤ 1099511627776
            · by_cases q3 : (v : Int) ≤ most
              · have q1b : ((nl : Int) != (m : Int)) = false := by simp [q1]
                have q2b : ¬ (1099511627776 : Int) < (v : Int) := by omega
                have q3b : ¬ most < (v : Int) := by omega
                obtain ⟨A2, hA2⟩ : ∃ A2 : Option Addr, A2 = if cap = m then some ⟨rb, off, none⟩ else (some ⟨rb, off, none⟩ : Option Addr).map (·.add m) := ⟨_, rfl⟩
                have hs1 := run_slice_from (P := Try.prog) 26 5 Try.underlying26 size5 (some ⟨rb, off, none⟩) r.length cap m hmr
                have hs2 := run_sliceAt_from (P := Try.prog) 26 5 Try.underlying26 size5 (some ⟨rb, off, none⟩) r.length cap m hmr
                rw [← hA2] at hs1 hs2
                have HA2 := hide hA2
                clear hA2
                go_wp2_with fail
                go_ret
                have e : c.num most = (v, ⟨c.rest.drop m, c.wrong⟩) := by
                  unfold Cu.num
                  have h1 : numOk (v, m) most = true := by
                    have h2 := HNL.out
                    simp only [numOk, Bool.and_eq_true, decide_eq_true_eq, beq_iff_eq, Bool.not_eq_true', beq_eq_false_iff_ne]
                    refine ⟨?_, ?_, q2, ?_, q3⟩ <;> omega
                  rw [← HR.out, HSK.out, h1]
                  rfl
                rw [e]
                refine ⟨rfl, ⟨A2, cap - m, ?_⟩, (Turned.of_below HB.out.1 (fun k => k = g)).setCell (fun _ => rfl) _⟩
                have h1 := HH.out.cut m (by rw [← HR.out]; exact hmr) HB.out.1
                rw [← HA2.out, ← HR.out] at h1
                rw [← HR.out]
                exact h1
              · have q1b : ((nl : Int) != (m : Int)) = false := by simp [q1]
                have q2b : ¬ (1099511627776 : Int) < (v : Int) := by omega
                have q3b : most < (v : Int) := by omega
                go_wp2_with (go_at_call 85; refine (rcfail_any 4 (.inr rfl) c g T rb _ cap _ HB.out.2).mono ?_; rintro e w2 ⟨rfl, hc2, ht2⟩; have HX := hide (And.intro hc2 ht2); clear hc2 ht2)
                go_ret
                exact HF.out (HBAD.out (by omega)) _ _ HB.out.1 HX.out
            · have q1b : ((nl : Int) != (m : Int)) = false := by simp [q1]
              have q2b : (1099511627776 : Int) < (v : Int) := by omega
              go_wp2_with (go_at_call 85; refine (rcfail_any 4 (.inr rfl) c g T rb _ cap _ HB.out.2).mono ?_; rintro e w2 ⟨rfl, hc2, ht2⟩; have HX := hide (And.intro hc2 ht2); clear hc2 ht2)
              go_ret
              exact HF.out (HBAD.out (by omega)) _ _ HB.out.1 HX.out
          · have q1b : ((nl : Int) != (m : Int)) = true := by simp; omega
            go_wp2_with (go_at_call 85; refine (rcfail_any 4 (.inr rfl) c g T rb _ cap _ HB.out.2).mono ?_; rintro e w2 ⟨rfl, hc2, ht2⟩; have HX := hide (And.intro hc2 ht2); clear hc2 ht2)
            go_ret
            exact HF.out (HBAD.out (by omega)) _ _ HB.out.1 HX.out
        · rw [if_neg hx8] at hsk
          have HSK := hide hsk
          have HY := hide (And.intro hy (And.intro hP hP2))
          clear hsk hy hP
          go_wp2_with fail
          go_roundw
          case rel =>
            obtain ⟨hy, hP, hP2⟩ := HY.out
            refine ⟨k + 1, acc + y, P2, by omega, by omega, by go_num, by go_num, by go_num, by rw [hP2, hP, Nat.pow_succ], by omega, ?_, trivial⟩
            have e : x.toNat - 128 = x.toNat % 128 := by omega
            rw [HSK.out, hy, hP, e]
          case measure => simp [intOf]; omega
      · obtain rfl : k = r.length := by omega
        rw [List.drop_of_length_le (Nat.le_refl _), scan] at hsk
        have HN := hide (show numOk (scan r 0 0) most = false by rw [hsk]; rfl)
        have i2 : (r.length : Int) < 6 := by omega
        clear hsk hPle hP
        go_wp2_with (go_at_call 85; refine (rcfail_any 4 (.inr rfl) c g T rb _ cap _ HH.out).mono ?_; rintro e w2 ⟨rfl, hc2, ht2⟩; have HX := hide (And.intro hc2 ht2); clear hc2 ht2)
        go_ret
        exact HF.out HN.out _ _ (Below.refl _ _) HX.out
    · obtain rfl : k = 6 := by omega
      have HN : Hid (numOk (scan r 0 0) most = false) := hide (by
        rw [hsk]
        cases hd : r.drop 6 with
        | nil => rfl
        | cons x t => rw [scan, if_pos rfl]; rfl)
      clear hsk hPle hP
      go_wp2_with (go_at_call 85; refine (rcfail_any 4 (.inr rfl) c g T rb _ cap _ HH.out).mono ?_; rintro e w2 ⟨rfl, hc2, ht2⟩; have HX := hide (And.intro hc2 ht2); clear hc2 ht2)
      go_ret
      exact HF.out HN.out _ _ (Below.refl _ _) HX.out
set_option maxRecDepth 100000 in
set_option maxHeartbeats 1000000 in
theorem rcraw_any (many : Int) (hmany : -9223372036854775808 ≤ many ∧ many ≤ 9223372036854775807) (c : Cu) (hc : c.rest.length ≤ 1099511627776) (g T rb : Nat) (A : Option Addr) (cap : Nat) (w : World) (h : CuAt w g T rb c A cap) :
    Calls Try.prog 49 #[.pointer (some ⟨g, 0, none⟩), .int .i64 many] w fun e w' => ∃ v, e = .returned v ∧ w'.ownsRow w.heap.size 5 1 v (c.raw many).1.length (bv (c.raw many).1) ∧ ∃ A' cap', CuAt w' g T rb (c.raw many).2 A' cap' ∧ Turned (· = g) w w' := by
  obtain ⟨i, hi, hz0, hz1, hz2⟩ := info_parts info_u8
  have hb := h.blk
  have c0 := hb.cell 0
  have c1 := hb.cell 1
  have f0 := hb.frozen 0
  simp only [List.getElem?_toArray, List.getElem?_cons_zero, List.getElem?_cons_succ] at c0 c1
  have hlt := hb.lt
  obtain ⟨n, hn⟩ : ∃ n, n = c.rest.length := ⟨_, rfl⟩
  obtain ⟨z, hz⟩ : ∃ z : Int, z = (c.wrong : Int) := ⟨_, rfl⟩
  rw [← hn] at c0 hc
  rw [← hz] at c1
  have hz00 : 0 ≤ z := by omega
  have hfail : c.rawOk many = false → ∀ w', (CuAt w' g T rb (c.fail (4 : Int).toNat) none 0 ∧ Turned (· = g) w w') → ∃ v, Ending.returned (.slice none 0 0) = .returned v ∧ w'.ownsRow w.heap.size 5 1 v (c.raw many).1.length (bv (c.raw many).1) ∧ ∃ A' cap', CuAt w' g T rb (c.raw many).2 A' cap' ∧ Turned (· = g) w w' := by
    intro h w' hw'
    have e : c.raw many = ([], c.fail 4) := by unfold Cu.raw; rw [h]; rfl
    rw [e]
    exact ⟨_, rfl, ⟨rfl, .inl ⟨rfl, rfl⟩⟩, none, 0, hw'⟩
  have HFA := hide hfail
  have HN := hide hn
  have HZ := hide hz
  have HH := hide h
  clear h hb hn hz hfail
  by_cases q1 : z = 0
  · by_cases q2 : 0 ≤ many
    · by_cases q3 : many ≤ (n : Int)
      · have q3b : ¬ (n : Int) < many := by omega
        have hrk : c.raw many = (c.rest.take many.toNat, ⟨c.rest.drop many.toNat, c.wrong⟩) := by
          have h1 : c.rawOk many = true := by
            have := HZ.out; have := HN.out
            simp [Cu.rawOk]; omega
          unfold Cu.raw; rw [h1]; rfl
        obtain ⟨m, rfl⟩ : ∃ m : Nat, many = (m : Int) := ⟨many.toNat, by omega⟩
        rw [Int.toNat_natCast] at hrk
        have hmn : m ≤ n := by omega
        have hfit : n ≤ cap := by have := HH.out.fits; have := HN.out; omega
        have hnil := HH.out.nil
        have hby := HH.out.rest
        rw [← HN.out] at hby
        have hbt := hby.take m (by have := HN.out; omega)
        have hk1 := run_slice_to (P := Try.prog) 26 5 Try.underlying26 size5 A n cap m (by omega)
        obtain ⟨A2, hA2⟩ : ∃ A2 : Option Addr, A2 = if cap = m then A else A.map (·.add m) := ⟨_, rfl⟩
        have hs1 := run_slice_from (P := Try.prog) 26 5 Try.underlying26 size5 A n cap m hmn
        have hs2 := run_sliceAt_from (P := Try.prog) 26 5 Try.underlying26 size5 A n cap m hmn
        rw [← hA2] at hs1 hs2
        have htl : (c.rest.take m).length = m := by rw [List.length_take]; have := HN.out; omega
        have hsrc : Src w A m cap (bv (c.rest.take m)) := by
          have h1 := bv_src (l := c.rest.take m) (cap := cap) (A := A) (B := w.heap.size) (w := w) (by rw [htl]; exact hbt) hnil
          rwa [htl] at h1
        have HSRC := hide hsrc
        have HA2 := hide hA2
        have HNIL := hide hnil
        have HRK := hide (And.intro hrk htl)
        have hz00 : z = 0 := q1
        subst hz00
        have hown := owned_new w 5
        have HO := hide hown
        clear hbt hA2 hnil hrk hby q1 hown hsrc htl
        go_enter Try.func49, Try.ntmps49
        go_wp2_with (at_builtin; (refine wpList_app (o := ⟨some 33, _, _, _, _, _⟩) rfl (.tmp 26) (.tmp 32) 26 rfl w.heap.size 5 i (.int .u8 0) 1 Try.underlying26 hi hz0 hz1 hz2 rfl _ 0 [] HO.out A m cap (bv (c.rest.take m)) ?h0 ?h1 ?h2 ?h3 rfl rfl ?_))
        case h0 => exact HSRC.out.alloc _
        case h1 => simp only [maxLen]; omega
        case h2 => omega
        intro v1 w1 own1 gr1 _ _
        have hb1 : Below w.heap.size w w1 := ((Below.refl _ _).alloc (Nat.le_refl _) _).grown gr1 (by rw [size_alloc]; omega) (by
          intro k hk
          injection hk with hk
          change w.heap.size = k at hk
          omega)
        have hcu1 := HH.out.below hb1
        have k0 := hcu1.blk.cell 0
        have kf := hcu1.blk.frozen 0
        have kl := hcu1.blk.lt
        rw [← HN.out] at k0
        simp only [List.getElem?_toArray, List.getElem?_cons_zero] at k0
        have HX := hide (And.intro own1 hb1)
        obtain ⟨A1, k1, rfl⟩ := owned_slice own1
        clear own1 gr1 hb1 hcu1 c0 c1 f0 hlt
        go_wp2_with fail
        go_ret
        obtain ⟨own1, hb1⟩ := HX.out
        refine ⟨_, rfl, ?_, A2, cap - m, ?_, (Turned.of_below hb1 (fun k => k = g)).setCell (fun _ => rfl) _⟩
        · rw [HRK.out.1]
          show World.ownsRow _ _ _ _ _ (c.rest.take m).length _
          rw [HRK.out.2]
          have own2 : w1.ownsRow w.heap.size 5 1 (.slice A1 m k1) m (bv (c.rest.take m)) := by simpa using own1
          refine owned_keep own2 fun q hq hql => Below.heap_setCell w1 _ _ q ?_
          intro e
          have h1 := (owned_lt own2 hq).1
          change q = g at e
          have := HH.out.blk.lt
          omega
        · rw [HRK.out.1]
          have h1 := HH.out.cut m (by have := HN.out; omega) hb1
          rw [← HA2.out, ← HN.out] at h1
          exact h1
      · have q3b : (n : Int) < many := by omega
        have HFAIL := hide (HFA.out (by have := HN.out; simp [Cu.rawOk]; omega))
        have hz00 : z = 0 := q1
        subst hz00
        go_enter Try.func49, Try.ntmps49
        go_wp2_with (go_at_call 85; refine (rcfail_any 4 (.inr rfl) c g T rb A cap _ HH.out).mono ?_; rintro e w2 ⟨rfl, hc2, ht2⟩; have HX := hide (And.intro hc2 ht2); clear hc2 ht2)
        go_ret
        exact HFAIL.out _ HX.out
    · have q2b : many < 0 := by omega
      have HFAIL := hide (HFA.out (by simp [Cu.rawOk]; omega))
      have hz00 : z = 0 := q1
      subst hz00
      go_enter Try.func49, Try.ntmps49
      go_wp2_with (go_at_call 85; refine (rcfail_any 4 (.inr rfl) c g T rb A cap _ HH.out).mono ?_; rintro e w2 ⟨rfl, hc2, ht2⟩; have HX := hide (And.intro hc2 ht2); clear hc2 ht2)
      go_ret
      exact HFAIL.out _ HX.out
  · have q1b : (z != 0) = true := by simp [q1]
    have HFAIL := hide (HFA.out (by have := HZ.out; simp [Cu.rawOk]; omega))
    go_enter Try.func49, Try.ntmps49
    go_wp2_with (go_at_call 85; refine (rcfail_any 4 (.inr rfl) c g T rb A cap _ HH.out).mono ?_; rintro e w2 ⟨rfl, hc2, ht2⟩; have HX := hide (And.intro hc2 ht2); clear hc2 ht2)
    go_ret
    exact HFAIL.out _ HX.out
set_option maxRecDepth 100000 in
set_option maxHeartbeats 1000000 in
theorem rctext_any (most : Int) (_hmost : -9223372036854775808 ≤ most ∧ most ≤ 9223372036854775807) (c : Cu) (hok : c.ok) (hc : c.rest.length ≤ 1099511627776) (g T rb : Nat) (A : Option Addr) (cap : Nat) (w : World) (h : CuAt w g T rb c A cap) :
    Calls Try.prog 52 #[.pointer (some ⟨g, 0, none⟩), .int .i64 most] w fun e w' => ∃ v, e = .returned v ∧ w'.ownsRow w.heap.size 5 1 v (c.text most).1.length (bv (c.text most).1) ∧ ∃ A' cap', CuAt w' g T rb (c.text most).2 A' cap' ∧ Turned (· = g) w w' := by
  have HH := hide h
  clear h
  obtain ⟨n, hn⟩ : ∃ n, n = (c.num 1099511627776).1 := ⟨_, rfl⟩
  obtain ⟨c2, hc2⟩ : ∃ c2, c2 = (c.num 1099511627776).2 := ⟨_, rfl⟩
  have hnl : n ≤ 1099511627776 ∧ c2.rest.length ≤ 1099511627776 := by
    rw [hn, hc2]
    unfold Cu.num
    split
    · rename_i h1
      simp only [numOk, Bool.and_eq_true, decide_eq_true_eq] at h1
      exact ⟨h1.2.2.1, by simp only [List.length_drop]; omega⟩
    · exact ⟨by simp, by simp [Cu.fail]⟩
  have HT := hide (show c.text most = if c2.wrong ≠ 0 then ([], c2) else if most < (n : Int) then ([], c2.fail 3) else c2.raw (n : Int) by rw [hn, hc2]; rfl)
  have hcn : c.num 1099511627776 = (n, c2) := by rw [hn, hc2]
  have HCN := hide hcn
  clear hn hc2 hcn
  have hcall := rcnum_any 1099511627776 (by omega) c hok hc g T rb A cap w HH.out
  rw [HCN.out] at hcall
  have HCALL := hide hcall
  clear hcall
  go_enter Try.func52, Try.ntmps52
  go_wp2_with fail
  refine HCALL.out.mono ?_
  rintro e w1 ⟨rfl, A1, cap1, hc1, ht1⟩
  have c1 := hc1.blk.cell 1
  simp only [List.getElem?_toArray, List.getElem?_cons_zero, List.getElem?_cons_succ] at c1
  have hlt1 := hc1.blk.lt
  have hs1 := ht1.size
  obtain ⟨z, hz⟩ : ∃ z : Int, z = (c2.wrong : Int) := ⟨_, rfl⟩
  rw [← hz] at c1
  have HX := hide (And.intro hc1 ht1)
  have HZ := hide hz
  clear hc1 ht1 hz
  dsimp only
  have hn0 : (0 : Int) ≤ (n : Int) := by omega
  have hn1 : (n : Int) ≤ 1099511627776 := by omega
  by_cases q1 : z = 0
  · subst q1
    by_cases q2 : most < (n : Int)
    · have he3 : ((c2.fail (3 : Int).toNat).wrong : Int) = 3 := by
        have h1 : c2.wrong = 0 := by have := HZ.out; omega
        simp [Cu.fail, h1]
      have HE3 := hide he3
      clear he3
      go_wp2_with (go_at_call 85; refine (rcfail_any 3 (.inl rfl) c2 g T rb A1 cap1 _ HX.out.1).mono ?_; rintro e w2 ⟨rfl, hc2, ht2⟩; have d1 := hc2.blk.cell 1; have dl := hc2.blk.lt; simp only [List.getElem?_toArray, List.getElem?_cons_zero, List.getElem?_cons_succ] at d1; rw [HE3.out] at d1; have HY := hide (And.intro hc2 ht2); clear hc2 ht2)
      go_ret
      rw [HT.out, if_neg (by have := HZ.out; omega), if_pos q2]
      exact ⟨_, rfl, ⟨rfl, .inl ⟨rfl, rfl⟩⟩, none, 0, HY.out.1, HX.out.2.trans HY.out.2⟩
    · have hcall2 := rcraw_any (n : Int) (by omega) c2 hnl.2 g T rb A1 cap1 w1 HX.out.1
      have HCALL2 := hide hcall2
      clear hcall2
      go_wp2_with fail
      refine HCALL2.out.mono ?_
      rintro e w2 ⟨v2, rfl, own2, A2, cap2, hc2, ht2⟩
      have HY := hide (And.intro own2 (And.intro hc2 ht2))
      clear own2 hc2 ht2
      dsimp only
      go_wp2_with fail
      go_ret
      rw [HT.out, if_neg (by have := HZ.out; omega), if_neg (by omega)]
      exact ⟨v2, rfl, owned_base HY.out.1 (fun q hq => by have := (owned_lt HY.out.1 hq).1; omega), A2, cap2, HY.out.2.1, HX.out.2.trans HY.out.2.2⟩
  · have q1b : (z != 0) = true := by simp [q1]
    go_wp2_with fail
    go_ret
    rw [HT.out, if_pos (by have := HZ.out; omega)]
    exact ⟨_, rfl, ⟨rfl, .inl ⟨rfl, rfl⟩⟩, A1, cap1, HX.out.1, HX.out.2⟩
set_option maxRecDepth 100000 in
set_option maxHeartbeats 400000 in
theorem rcend_any (c : Cu) (g T rb : Nat) (A : Option Addr) (cap : Nat) (w : World) (h : CuAt w g T rb c A cap) : Calls Try.prog 54 #[.pointer (some ⟨g, 0, none⟩)] w fun e w' => e = .returned (.int .i64 (c.end_ : Int)) ∧ w = w' := by
  have c0 := h.blk.cell 0
  have c1 := h.blk.cell 1
  simp only [List.getElem?_toArray, List.getElem?_cons_zero, List.getElem?_cons_succ] at c0 c1
  have hlt := h.blk.lt
  obtain ⟨n, hn⟩ : ∃ n, n = c.rest.length := ⟨_, rfl⟩
  obtain ⟨z, hz⟩ : ∃ z : Int, z = (c.wrong : Int) := ⟨_, rfl⟩
  have he : (c.end_ : Int) = if z = 0 ∧ 0 < n then 4 else z := by
    unfold Cu.end_
    have e1 : c.rest ≠ [] ↔ 0 < n := by rw [hn]; cases c.rest <;> simp
    rw [hz]
    by_cases q : c.wrong = 0 ∧ c.rest ≠ []
    · rw [if_pos q, if_pos ⟨by omega, e1.1 q.2⟩]; rfl
    · rw [if_neg q, if_neg (fun h => q ⟨by omega, e1.2 h.2⟩)]
  rw [← hn] at c0
  rw [← hz] at c1
  obtain ⟨R, hR⟩ : ∃ R : Int, R = (c.end_ : Int) := ⟨_, rfl⟩
  rw [← hR] at he ⊢
  have HE := hide he
  clear h hn hz he hR
  by_cases q1 : z = 0
  · subst q1
    by_cases q2 : 0 < n
    · have q3 : (0 : Int) < (n : Int) := by omega
      go_enter Try.func54, Try.ntmps54
      go_wp2
      go_ret
      exact ⟨ret_int (by rw [HE.out, if_pos (by simp [q2])]), rfl⟩
    · have q3 : ¬ (0 : Int) < (n : Int) := by omega
      go_enter Try.func54, Try.ntmps54
      go_wp2
      go_ret
      exact ⟨ret_int (by rw [HE.out, if_neg (fun h => q2 h.2)]), rfl⟩
  · have q1b : (z == 0) = false := by simp [q1]
    go_enter Try.func54, Try.ntmps54
    go_wp2
    go_ret
    exact ⟨ret_int (by rw [HE.out, if_neg (fun h => q1 h.1)]), rfl⟩
end Go.Proofs.Ytjmenaplgndnnaa
