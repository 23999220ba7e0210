/- The walk of the document's padding (spenceref02.padded). -/
import Derived.Test.YtjmenaplgndnnaaRefB
import Derived.Test.YtjmenaplgndnnaaHashOf
namespace Go.Proofs.Ytjmenaplgndnnaa
open Go.RowKit
theorem be_take (N m : Nat) (h : m < 8) : (Sha.be N).take (8 - m) = (Sha.be N).take (8 - (m + 1)) ++ [UInt8.ofNat (N / 2 ^ (8 * m))] := by
  match m, h with
  | 0, _ => simp [Sha.be]
  | 1, _ => simp [Sha.be]
  | 2, _ => simp [Sha.be]
  | 3, _ => simp [Sha.be]
  | 4, _ => simp [Sha.be]
  | 5, _ => simp [Sha.be]
  | 6, _ => simp [Sha.be]
  | 7, _ => simp [Sha.be]
def slen : Value → Nat
  | .slice _ n _ => n
  | _ => 0
theorem noughts_at (n k : Nat) (hk : k < Sha.noughts n) : ¬ (n + 1 + k) % 64 = 56 := by unfold Sha.noughts at hk; omega
theorem noughts_end (n : Nat) : (n + 1 + Sha.noughts n) % 64 = 56 := by unfold Sha.noughts; omega
theorem noughts_lt (n : Nat) : Sha.noughts n < 64 := by unfold Sha.noughts; omega
set_option maxRecDepth 100000 in
set_option maxHeartbeats 1000000 in
theorem padded_any (c : List UInt8) (hc : c.length ≤ 1000000000) (A : Option Addr) (cap B : Nat) (w : World) (hv : BytesAt w B (.slice A c.length cap) c) (hnil : A = none → cap = 0) :
    Calls Try.prog 86 #[.slice A c.length cap] w fun e w' => ∃ v', e = .returned v' ∧ w'.ownsRow w.heap.size 5 1 v' (Sha.pad c).length (bv (Sha.pad c)) ∧ Below w.heap.size w w' := by
  obtain ⟨i, hi, hz0, hz1, hz2⟩ := info_parts info5
  obtain ⟨_, hcap, _, hcells⟩ := hv.cells
  have HV := hide hv
  clear hv hcells
  have HOW := hide (And.intro (owned_new w 5) ((bv_src HV.out hnil).alloc (.cells #[] 5)))
  have HL := hide (Below.refl w.heap.size w)
  go_enter Try.func86, Try.ntmps86
  go_wp2_with (first
    | (at_builtin; (refine wpList_app (o := ⟨some 8, _, _, _, _, _⟩) rfl (.tmp 6) (.tmp 7) 26 rfl w.heap.size 5 i (.int .u8 0) 1 Try.underlying26 hi hz0 hz1 hz2 rfl _ 0 [] HOW.out.1 A c.length cap (bv c) HOW.out.2 (by simp only [maxLen]; omega) (by omega) (by rw [size_alloc]; omega) rfl rfl ?_); intro v1 w1 own1 gr1 mv1 _; simp only [Nat.zero_add, List.nil_append] at own1; obtain ⟨A1, cap1, rfl⟩ := owned_slice own1; have hs1 : w.heap.size + 1 ≤ w1.heap.size := (by have := gr1.size; rw [size_alloc] at this; exact this); have hb1 : Below w.heap.size w w1 := (HL.out.alloc (by omega) _).grown gr1 (by rw [size_alloc]; omega) (by intro k hk; injection hk with hk; change w.heap.size = k at hk; omega); have HX1 := hide (And.intro (own1.alloc (.cells #[.int .u8 128] 5)) (hb1.alloc hb1.size (.cells #[.int .u8 128] 5))); clear own1 gr1 mv1 hb1)
    | (at_builtin; (refine wpList_app (o := ⟨some 10, _, _, _, _, _⟩) rfl (.tmp 8) (.tmp 9) 26 rfl w.heap.size 5 i (.int .u8 0) 1 Try.underlying26 hi hz0 hz1 hz2 rfl _ c.length (bv c) HX1.out.1 (some ⟨w1.heap.size, 0, none⟩) 1 1 [.int .u8 128] (src_one w1 (.int .u8 128) 5 rfl) (by simp only [maxLen]; omega) (by omega) (by rw [size_alloc]; omega) rfl rfl ?_); intro v2 w2 own2 gr2 mv2 _; obtain ⟨A2, cap2, rfl⟩ := owned_slice own2; have hs2 : w1.heap.size + 1 ≤ w2.heap.size := (by have := gr2.size; rw [size_alloc] at this; exact this); have hb2 : Below w.heap.size w w2 := HX1.out.2.grown gr2 (by rw [size_alloc]; omega) (fun k hk => (owned_lt HX1.out.1 hk).1); have HX2 := hide (And.intro own2 hb2); clear own2 gr2 mv2 hb2))
  have hnl := noughts_lt c.length
  go_loopw [3] (fun v3 wr => ∃ (k : Nat) (A3 : Option Addr) (cap3 : Nat), k ≤ Sha.noughts c.length ∧ v3 = .slice A3 (c.length + 1 + k) cap3 ∧ wr.ownsRow w.heap.size 5 1 v3 (c.length + 1 + k) (bv (c ++ [128] ++ List.replicate k 0)) ∧ Below w.heap.size w wr) (fun v3 _ => c.length + 65 - slen v3)
  case atStart => exact ⟨0, A2, cap2, by omega, rfl, by simpa [bv] using HX2.out.1, HX2.out.2⟩
  case round =>
    obtain ⟨k, A3, cap3, hk, rfl, own3, hb3⟩ := hrel
    have hs3 := hb3.size
    have HX3 := hide (And.intro (own3.alloc (.cells #[.int .u8 0] 5)) (hb3.alloc hs3 (.cells #[.int .u8 0] 5)))
    have HX3' := hide (And.intro own3 hb3)
    clear own3 hb3
    by_cases hlt : k < Sha.noughts c.length
    · have hm := noughts_at _ _ hlt
      obtain ⟨m, hm0⟩ : ∃ m, m = c.length + 1 + k := ⟨_, rfl⟩
      rw [← hm0] at hm HX3 HX3' ⊢
      have q0 : ¬ ((m : Int) % 64 = 56) := by omega
      have q1 : (0 : Int) ≤ (m : Int) := by omega
      have q2 : (m : Int).tmod 64 = (m : Int) % 64 := Int.tmod_eq_emod_of_nonneg q1
      have q3 : (((m : Int) % 64) != 56) = true := by simpa [bne] using q0
      have q4 : (((m : Int) % 64) == 56) = false := beq_eq_false_iff_ne.2 q0
      have HM := hide hm0
      clear hm0
      go_wp2_with (at_builtin; (refine wpList_app (o := ⟨some 17, _, _, _, _, _⟩) rfl (.tmp 15) (.tmp 16) 26 rfl w.heap.size 5 i (.int .u8 0) 1 Try.underlying26 hi hz0 hz1 hz2 rfl _ m _ HX3.out.1 (some ⟨wr.heap.size, 0, none⟩) 1 1 [.int .u8 0] (src_one wr (.int .u8 0) 5 rfl) (by have := HM.out; simp only [maxLen]; omega) (by have := HM.out; omega) (by rw [size_alloc]; omega) rfl rfl ?_); intro v4 w4 own4 gr4 mv4 _; obtain ⟨A4, cap4, rfl⟩ := owned_slice own4; have hb4 : Below w.heap.size w w4 := HX3.out.2.grown gr4 (by rw [size_alloc]; omega) (fun k hk => (owned_lt HX3.out.1 hk).1); have HX4 := hide (And.intro own4 hb4); clear own4 gr4 mv4 hb4)
      go_roundw
      case rel =>
        obtain ⟨own4, hb4⟩ := HX4.out
        rw [HM.out] at own4 ⊢
        refine ⟨k + 1, A4, cap4, by omega, rfl, ?_, hb4⟩
        rw [List.replicate_succ', ← List.append_assoc, bvA]
        exact own4
      case measure => have := HM.out; simp only [slen]; omega
    · obtain rfl : k = Sha.noughts c.length := by omega
      have hm := noughts_end c.length
      obtain ⟨m, hm0⟩ : ∃ m, m = c.length + 1 + Sha.noughts c.length := ⟨_, rfl⟩
      rw [← hm0] at hm HX3' ⊢
      have q0 : ((m : Int) % 64 = 56) := by omega
      have q1 : (0 : Int) ≤ (m : Int) := by omega
      have q2 : (m : Int).tmod 64 = (m : Int) % 64 := Int.tmod_eq_emod_of_nonneg q1
      have HM := hide hm0
      obtain ⟨M, hM⟩ : ∃ M, M = 8 * c.length := ⟨_, rfl⟩
      have hM2 : 8 * (c.length : Int) = (M : Int) := by omega
      have hM3 : M ≤ 8000000000 := by omega
      have HMM := hide hM
      clear hm0 HX3 hlt hk hm hM
      go_wp2_with fail
      go_loopw [3, 5] (fun v3 v5 wq => ∃ (j : Nat) (A5 : Option Addr) (cap5 : Nat), j ≤ 8 ∧ v5 = .int .i64 ((j : Int) - 1) ∧ v3 = .slice A5 (m + (8 - j)) cap5 ∧ wq.ownsRow w.heap.size 5 1 v3 (m + (8 - j)) (bv (c ++ [128] ++ List.replicate (Sha.noughts c.length) 0 ++ (Sha.be M).take (8 - j))) ∧ Below w.heap.size w wq) (fun _ v5 _ => (intOf v5 + 1).toNat)
      case atStart => exact ⟨8, A3, cap3, by omega, rfl, rfl, by simpa using HX3'.out.1, HX3'.out.2⟩
      case round =>
        obtain ⟨j, A5, cap5, hj, rfl, rfl, own5, hb5⟩ := hrel
        by_cases hj0 : j = 0
        · subst hj0
          go_wp2_with fail
          go_ret
          have e1 : Sha.pad c = c ++ [128] ++ List.replicate (Sha.noughts c.length) 0 ++ (Sha.be M).take (8 - 0) := by
            rw [Sha.pad, ← HMM.out]
            rfl
          have e2 : (Sha.pad c).length = m + (8 - 0) := by rw [Sha.length_pad, HM.out]
          exact ⟨_, rfl, by rw [e2, e1]; exact own5, hb5⟩
        · obtain ⟨t, rfl⟩ : ∃ t, j = t + 1 := ⟨j - 1, by omega⟩
          have et : ((t + 1 : Nat) : Int) - 1 = (t : Int) := by omega
          rw [et]
          have n0 : (0 : Int) ≤ (t : Int) := by omega
          have n1 : (t : Int) ≤ 7 := by omega
          have n2 : (0 : Int) ≤ 8 * (t : Int) := by omega
          have n3 : 8 * (t : Int) < 64 := by omega
          have n4 : (8 * (t : Int)).toNat = 8 * t := by omega
          have n5 : IntKind.i64.wrap (8 * (t : Int)) = 8 * (t : Int) := IntWalk.i64_in _ (by omega)
          obtain ⟨x, hx⟩ : ∃ x, x = UInt8.ofNat (M / 2 ^ (8 * t)) := ⟨_, rfl⟩
          have n6 : (M : Int) / 2 ^ (8 * t) % 256 = (x.toNat : Int) := by
            rw [hx, UInt8.toNat_ofNat']
            simp
          obtain ⟨r, hr⟩ : ∃ r, r = m + (8 - (t + 1)) := ⟨_, rfl⟩
          rw [← hr] at own5 ⊢
          have hs5 := hb5.size
          have HX5 := hide (And.intro (own5.alloc (.cells #[.int .u8 (x.toNat : Int)] 5)) (hb5.alloc hs5 (.cells #[.int .u8 (x.toNat : Int)] 5)))
          have HRX := hide (And.intro hr (And.intro hx (noughts_lt c.length)))
          clear own5 hb5 hr hx
          go_wp2_with (at_builtin; (refine wpList_app (o := ⟨some 32, _, _, _, _, _⟩) rfl (.tmp 25) (.tmp 31) 26 rfl w.heap.size 5 i (.int .u8 0) 1 Try.underlying26 hi hz0 hz1 hz2 rfl _ r _ HX5.out.1 (some ⟨wr.heap.size, 0, none⟩) 1 1 [.int .u8 (x.toNat : Int)] (src_one wr (.int .u8 (x.toNat : Int)) 5 rfl) (by have := HM.out; have := HRX.out.1; simp only [maxLen]; omega) (by have := HM.out; have := HRX.out.1; omega) (by rw [size_alloc]; omega) rfl rfl ?_); intro v6 w6 own6 gr6 mv6 _; obtain ⟨A6, cap6, rfl⟩ := owned_slice own6; have hb6 : Below w.heap.size w w6 := HX5.out.2.grown gr6 (by rw [size_alloc]; omega) (fun k hk => (owned_lt HX5.out.1 hk).1); have HX6 := hide (And.intro own6 hb6); clear own6 gr6 mv6 hb6)
          go_roundw
          case rel =>
            obtain ⟨own6, hb6⟩ := HX6.out
            have er : r + 1 = m + (8 - t) := by have := HRX.out.1; omega
            rw [er] at own6 ⊢
            refine ⟨t, A6, cap6, by omega, by go_num, rfl, ?_, hb6⟩
            rw [be_take M t (by omega), ← HRX.out.2.1, ← List.append_assoc, bvA]
            exact own6
          case measure => simp [intOf]
end Go.Proofs.Ytjmenaplgndnnaa
