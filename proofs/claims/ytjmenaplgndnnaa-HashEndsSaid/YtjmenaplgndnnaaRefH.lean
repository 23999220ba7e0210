/- spenceref02.Fold; spenceref01.Number. -/
import Derived.Test.YtjmenaplgndnnaaRefG
import Derived.Test.YtjmenaplgndnnaaFold
import Derived.Lib.AppendStr
namespace Go.Proofs.Ytjmenaplgndnnaa
open Go.RowKit
theorem hash_info (l : List UInt8) (n : Nat) : (Try.prog.info? 57).map (·.size) = some (bv (fold l n)).toArray.size := by rw [List.size_toArray, bv, List.length_map, length_fold]; exact size34
theorem fold_size (l m : List UInt8) (n k : Nat) : (bv (fold l n)).toArray.size = (bv (fold m k)).toArray.size := by simp [bv, length_fold]
set_option maxRecDepth 100000 in
set_option maxHeartbeats 1000000 in
theorem rfold_any (l : List UInt8) (hl : l.length = 32) (w : World) :
    Calls Try.prog 30 #[.agg (bv l).toArray] w fun e w' => e = .returned (.agg (bv (fold l 32)).toArray) ∧ Below w.heap.size w w' := by
  obtain ⟨L, hL⟩ : ∃ L, L = (bv l).toArray := ⟨_, rfl⟩
  rw [← hL]
  have HL := hide hL
  clear hL
  obtain ⟨N, hN⟩ : ∃ N, N = w.heap.size := ⟨_, rfl⟩
  obtain ⟨D, hD⟩ : ∃ D, D = Value.agg (bv (fold l 32)).toArray := ⟨_, rfl⟩
  rw [← hD]
  have HD := hide hD
  clear hD
  go_enter Try.func30, Try.ntmps30
  go_wp2_with fail
  rw [← hN]
  obtain ⟨w3, hw3⟩ : ∃ w3, w3 = ((w.alloc (.cells L 53)).alloc (.cells (bv (fold l 0)).toArray 57)).alloc (.cells (bv (fold l 0)).toArray 57) := ⟨_, rfl⟩
  have hs : Blk w3 N 53 L := by rw [hw3, hN]; exact ((Blk.new _ _ _).alloc _).alloc _
  have hr : Blk w3 (N + 1) 57 (bv (fold l 0)).toArray := by rw [hw3, hN]; exact (Blk.new1 _ _ _ _).alloc _
  have hz : Blk w3 (N + 1 + 1) 57 (bv (fold l 0)).toArray := by
    rw [hw3, hN, show w.heap.size + 1 + 1 = ((w.alloc (.cells L 53)).alloc (.cells (bv (fold l 0)).toArray 57)).heap.size by simp]
    exact Blk.new _ _ _
  have hb : Below N w w3 := by rw [hw3, hN]; exact (((Below.refl _ _).alloc (Nat.le_refl _) _).alloc (by simp) _).alloc (by simp; omega) _
  change Code.wp _ _ _ _ (((w.alloc (.cells L 53)).alloc (.cells (bv (fold l 0)).toArray 57)).alloc (.cells (bv (fold l 0)).toArray 57))
  rw [← hw3]
  obtain ⟨X, hX⟩ : ∃ X, X = N + 1 + 1 := ⟨_, rfl⟩
  obtain ⟨R, hR⟩ : ∃ R, R = N + 1 := ⟨_, rfl⟩
  rw [← hX] at hz ⊢
  rw [← hR] at hr ⊢
  have h1 : N < R := by omega
  have h2 : R < X := by omega
  have H := hide (And.intro hs (And.intro hr (And.intro hb hN)))
  have HZ := hide hz
  clear hs hr hz hb hw3 hN hX hR
  go_loopw [4] (fun v wr => ∃ i : Nat, i ≤ 32 ∧ v = .int .i64 (i : Int) ∧ Blk wr X 57 (bv (fold l i)).toArray ∧ Below X w3 wr) (fun v _ => (32 - intOf v).toNat)
  case atStart => exact ⟨0, by omega, rfl, HZ.out, Below.refl _ _⟩
  case round =>
    obtain ⟨i, hi, rfl, hb, hbl⟩ := hrel
    by_cases h32 : i < 32
    · obtain ⟨q, hq⟩ : ∃ q, q = i % 20 := ⟨_, rfl⟩
      have hqi : (i : Int) % 20 = (q : Int) := by omega
      have hqi' : (i : Int).tmod 20 = (q : Int) := by rw [Int.tmod_eq_emod_of_nonneg (by omega), hqi]
      have hq2 : q < 20 := by omega
      have hq3 : (q : Int) < 20 := by omega
      have hq4 : (0 : Int) ≤ (q : Int) := by omega
      have i0 : (0 : Int) ≤ (i : Int) := by omega
      have i1 : (i : Int) < 32 := by omega
      obtain ⟨x, hx⟩ : ∃ x, x = l.getD i 0 := ⟨_, rfl⟩
      obtain ⟨y, hy⟩ : ∃ y, y = (fold l i).getD q 0 := ⟨_, rfl⟩
      have cs : wr.cell? ⟨N, i, none⟩ = some (.int .u8 (x.toNat : Int)) := by rw [(H.out.1.below hbl (by omega)).cell i, HL.out, bv_get _ _ (by omega), hx]
      have cq : wr.cell? ⟨X, q, none⟩ = some (.int .u8 (y.toNat : Int)) := by rw [hb.cell, bv_get _ _ (by rw [length_fold]; omega), hy]
      have fq := hb.frozen q
      have hxy : bits .xor .u8 (y.toNat : Int) (x.toNat : Int) = ((y ^^^ x).toNat : Int) := by
        rw [u8_xor_nat _ _ y.toNat_lt x.toNat_lt, UInt8.toNat_xor]
      have HB := hide hb
      have HQ := hide (And.intro hq (And.intro hx hy))
      clear hb hq hx hy
      obtain ⟨z, hz⟩ : ∃ z, z = y ^^^ x := ⟨_, rfl⟩
      rw [← hz] at hxy
      have HZ2 := hide hz
      clear hz
      go_wp2_with fail
      refine wp_quiet_tail_drewN 11 (by kernel_rfl) (by kernel_rfl) ?_
      simp only [List.take_succ_cons, List.take_zero, List.drop_succ_cons, List.drop_zero]
      repeat (go_big_quiet_step (fail))
      refine wpQuiet_nil ?_
      intro nq
      go_wp2_with fail
      go_roundw
      case rel =>
        refine ⟨i + 1, by omega, by go_num, ?_, (below_drewN hbl nq).setCell (Nat.le_refl _) _⟩
        have h3 := (HB.out.drewN nq).set_ q (.int .u8 (z.toNat : Int))
        rw [bv_set] at h3
        have e : fold l (i + 1) = (fold l i).set q z := by rw [fold, HZ2.out, HQ.out.1, HQ.out.2.1, HQ.out.2.2, HQ.out.1]
        rw [e]
        exact h3
      case measure => simp [intOf]; omega
    · obtain rfl : i = 32 := by omega
      have HK := hide hb
      have HRZ := hide (H.out.2.1.below hbl h2)
      clear hb
      go_wp2_with (first
        | ((with_reducible refine wpList_load_blk (o := ⟨some 20, _, _, _, _, _⟩) rfl 57 (.tmp 3) rfl X 57 (bv (fold l 32)).toArray _ _ HK.out Try.underlying57 (hash_info l 32) ?_ ?_); rfl; dsimp only [Act.put, List.setIfInBounds_toArray, List.set_cons_zero, List.set_cons_succ])
        | ((with_reducible refine wpList_store_blkA (o := ⟨none, _, _, _, _, _⟩) rfl 57 (.tmp 2) (.tmp 20) rfl R (bv (fold l 0)).toArray (bv (fold l 32)).toArray 57 HRZ.out (hash_info l 32) (fold_size l l 0 32) (bv_one _) ?_ ?_ ?_); rfl; rfl; intro w9 h9 hg9; dsimp only [Act.put]))
      have hN := H.out.2.2.2
      have hs9 := hbl.size
      have hl9 := H.out.2.1.lt
      have hbs := H.out.2.2.1.size
      refine bodyPost_ret (results_cell_blk rfl _ _ R 57 (bv (fold l 32)).toArray _ _ rfl h9 Try.underlying57 (hash_info l 32)) rfl ⟨by rw [HD.out], ?_⟩
      rw [← hN]
      exact (H.out.2.2.1.trans (hbl.mono (by omega))).grown hg9 (by omega) (by intro k hk; injection hk with hk; omega)
set_option maxRecDepth 100000 in
set_option maxHeartbeats 1000000 in
theorem rnumber_any (n : Nat) (hn : n ≤ 1099511627776) (w : World) :
    Calls Try.prog 22 #[.int .i64 (n : Int)] w fun e w' => ∃ v', e = .returned v' ∧ w'.ownsRow w.heap.size 5 1 v' (num n).length (bv (num n)) ∧ Below w.heap.size w w' := by
  obtain ⟨i, hi, hz0, hz1, hz2⟩ := info_parts info5
  obtain ⟨N, hN⟩ : ∃ N, N = w.heap.size := ⟨_, rfl⟩
  rw [← hN]
  have HN := hide hN
  have hlen := num_len n (by omega)
  obtain ⟨l, hl⟩ : ∃ l, l = num n := ⟨_, rfl⟩
  rw [← hl] at hlen ⊢
  have HL := hide (And.intro hlen hl)
  clear hN hlen hl
  go_enter Try.func22, Try.ntmps22
  go_wp2_with fail
  go_loopw [0, 3] (fun v0 v3 wr => ∃ (m k : Nat) (p : List UInt8) (A3 : Option Addr) (cap3 : Nat), v0 = .int .i64 (m : Int) ∧ v3 = .slice A3 k cap3 ∧ k = p.length ∧ m ≤ 1099511627776 ∧ p ++ num m = l ∧ wr.ownsRow N 5 1 v3 k (bv p) ∧ Below N w wr) (fun v0 _ _ => (intOf v0).toNat)
  case atStart => exact ⟨n, 0, [], none, 0, rfl, rfl, rfl, hn, HL.out.2.symm, ⟨rfl, .inl ⟨rfl, rfl⟩⟩, Below.refl _ _⟩
  case round =>
    obtain ⟨m, k, p, A3, cap3, rfl, rfl, hk, hm, hpl, own3, hb3⟩ := hrel
    have hk10 : k ≤ 10 := by
      have h1 := HL.out.1
      rw [← hpl, List.length_append] at h1
      omega
    have hsz := hb3.size
    have hNz : N ≤ wr.heap.size := by have := HN.out; omega
    by_cases h128 : m < 128
    · obtain ⟨x, hx⟩ : ∃ x, x = UInt8.ofNat m := ⟨_, rfl⟩
      have n0 : (0 : Int) ≤ (m : Int) := by omega
      have n1 : (m : Int) ≤ 127 := by omega
      have n3 : (m : Int) = (x.toNat : Int) := by rw [hx, UInt8.toNat_ofNat']; omega
      have n2 : ¬ (128 : Int) ≤ (m : Int) := by omega
      have H3 := hide (And.intro (own3.alloc (.cells #[.int .u8 (m : Int)] 5)) (And.intro (hb3.alloc (by omega) (.cells #[.int .u8 (m : Int)] 5)) (And.intro hk (And.intro hpl (And.intro hx n3)))))
      clear own3 hb3 hk hpl hx n3
      go_wp2_with (at_builtin; (refine wpList_app (o := ⟨some 19, _, _, _, _, _⟩) rfl (.tmp 15) (.tmp 18) 26 rfl N 5 i (.int .u8 0) 1 Try.underlying26 hi hz0 hz1 hz2 rfl _ k _ H3.out.1 (some ⟨wr.heap.size, 0, none⟩) 1 1 [.int .u8 (m : Int)] (src_one wr (.int .u8 (m : Int)) 5 rfl) (by simp only [maxLen]; omega) (by omega) (by rw [size_alloc]; omega) rfl rfl ?_); intro v4 w4 own4 gr4 mv4 _; obtain ⟨A4, cap4, rfl⟩ := owned_slice own4; have H4 := hide (And.intro own4 gr4); clear own4 gr4 mv4)
      go_ret
      obtain ⟨own3, hb3, hk, hpl, hx, n3⟩ := H3.out
      obtain ⟨own4, gr4⟩ := H4.out
      have e : l = p ++ [x] := by rw [← hpl, num_lo h128, hx]
      refine ⟨_, rfl, ?_, hb3.grown gr4 (by rw [size_alloc]; omega) (fun q hq => (owned_lt own3 hq).1)⟩
      rw [n3] at own4
      rw [e, List.length_append, bvA, ← hk]
      exact own4
    · obtain ⟨r, hr⟩ : ∃ r, r = m % 128 := ⟨_, rfl⟩
      obtain ⟨x, hx⟩ : ∃ x, x = UInt8.ofNat (m % 128 + 128) := ⟨_, rfl⟩
      obtain ⟨d, hd⟩ : ∃ d, d = m / 128 := ⟨_, rfl⟩
      have n0 : (0 : Int) ≤ (m : Int) := by omega
      have nx : (r : Int) + 128 = (x.toNat : Int) := by rw [hx, UInt8.toNat_ofNat']; omega
      have n2 : (128 : Int) ≤ (m : Int) := by omega
      have n3 : (m : Int) % 128 = (r : Int) := by omega
      have n4 : (m : Int).tmod 128 = (r : Int) := by rw [Int.tmod_eq_emod_of_nonneg n0, n3]
      have n5 : (m : Int) / 128 = (d : Int) := by omega
      have n6 : (m : Int).tdiv 128 = (d : Int) := by rw [Int.tdiv_eq_ediv_of_nonneg n0, n5]
      have n7 : (r : Int) ≤ 127 := by omega
      have n8 : (0 : Int) ≤ (r : Int) := by omega
      have hdm : d < m := by omega
      have H3 := hide (And.intro (own3.alloc (.cells #[.int .u8 ((r : Int) + 128)] 5)) (And.intro (hb3.alloc (by omega) (.cells #[.int .u8 ((r : Int) + 128)] 5)) (And.intro hk (And.intro hpl (And.intro hx (And.intro hd nx))))))
      clear own3 hb3 hk hpl hx hd hr nx
      go_wp2_with (at_builtin; (refine wpList_app (o := ⟨some 12, _, _, _, _, _⟩) rfl (.tmp 6) (.tmp 11) 26 rfl N 5 i (.int .u8 0) 1 Try.underlying26 hi hz0 hz1 hz2 rfl _ k _ H3.out.1 (some ⟨wr.heap.size, 0, none⟩) 1 1 [.int .u8 ((r : Int) + 128)] (src_one wr (.int .u8 ((r : Int) + 128)) 5 rfl) (by simp only [maxLen]; omega) (by omega) (by rw [size_alloc]; omega) rfl rfl ?_); intro v4 w4 own4 gr4 mv4 _; obtain ⟨A4, cap4, rfl⟩ := owned_slice own4; have H4 := hide (And.intro own4 gr4); clear own4 gr4 mv4)
      go_roundw
      case rel =>
        obtain ⟨own3, hb3, hk, hpl, hx, hd, nx⟩ := H3.out
        obtain ⟨own4, gr4⟩ := H4.out
        rw [nx] at own4
        refine ⟨d, k + 1, p ++ [x], A4, cap4, by go_num, rfl, by rw [List.length_append, hk]; rfl, by omega, ?_, by rw [bvA]; exact own4, hb3.grown gr4 (by rw [size_alloc]; omega) (fun q hq => (owned_lt own3 hq).1)⟩
        rw [← hpl, num_hi h128, hx, hd, List.append_assoc]
        rfl
      case measure => simp [intOf]; omega
end Go.Proofs.Ytjmenaplgndnnaa
