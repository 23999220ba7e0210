/- spenceref01.Number; rows of bytes. -/
import Derived.Test.YtjmenaplgndnnaaMaker3
import Derived.Test.YtjmenaplgndnnaaLent
import Derived.Deep.OwnRows
namespace Go.Proofs.Ytjmenaplgndnnaa
open Go.RowKit
theorem own_nil0 {w : World} {base n cap : Nat} {A : Option Addr} {e : TypeId} {xs : List Value} (h : w.ownsRow base e 1 (.slice A n cap) n xs) : A = none → cap = 0 := by
  intro hA
  rcases owned_form h with ⟨e, _⟩ | ⟨q, cp, cur, e, _⟩
  · injection e
  · injection e with e1
    rw [hA] at e1
    cases e1
theorem bytes_nil {w : World} {B : Nat} {A : Option Addr} {n cap : Nat} {l : List UInt8} (h : BytesAt w B (.slice A n cap) l) (hn : A = none → cap = 0) : A = none → n = 0 ∧ cap = 0 := by
  intro hA
  obtain ⟨A', cap', hv, hc, h0⟩ := h
  injection hv with e1 e2 e3
  refine ⟨?_, hn hA⟩
  rcases Nat.eq_zero_or_pos l.length with hl | hl
  · omega
  · obtain ⟨b, off, h1, _⟩ := h0 hl
    rw [← e1, hA] at h1
    cases h1
theorem owned_src0 {w : World} {base cap : Nat} {A : Option Addr} {l : List UInt8} (h : w.ownsRow base 5 1 (.slice A l.length cap) l.length (bv l)) : Src w A l.length cap (bv l) :=
  bv_src (bytesAt_owned h) (own_nil0 h)
theorem made_bv (n : Nat) : madeCells #[.int .u8 0] n = (bv (List.replicate n 0)).toArray := by
  apply Array.ext'
  apply List.ext_getElem?
  intro j
  by_cases hj : j < n
  · simp [madeCells, hj, bv, Nat.mod_one]
  · simp [madeCells, hj, bv]
set_option maxRecDepth 100000 in
set_option maxHeartbeats 1000000 in
theorem rnumber_any (n : Nat) (hn : n ≤ 1099511627776) (w : World) :
    Calls Try.prog 22 #[.int .i64 (n : Int)] w fun e w' => ∃ v', e = .returned v' ∧ w'.ownsRow w.heap.size 5 1 v' (num n).length (bv (num n)) ∧ Below w.heap.size w w' := by
  obtain ⟨i, hi, hz0, hz1, hz2⟩ := info_parts info5
  obtain ⟨N, hN⟩ : ∃ N, N = w.heap.size := ⟨_, rfl⟩
  rw [← hN]
  have HN := hide hN
  have hlen := num_len n (by omega)
  obtain ⟨l, hl⟩ : ∃ l, l = num n := ⟨_, rfl⟩
  rw [← hl] at hlen ⊢
  have HL := hide (And.intro hlen hl)
  clear hN hlen hl
  go_enter Try.func22, Try.ntmps22
  go_wp2_with fail
  go_loopw [0, 3] (fun v0 v3 wr => ∃ (m k : Nat) (p : List UInt8) (A3 : Option Addr) (cap3 : Nat), v0 = .int .i64 (m : Int) ∧ v3 = .slice A3 k cap3 ∧ k = p.length ∧ m ≤ 1099511627776 ∧ p ++ num m = l ∧ wr.ownsRow N 5 1 v3 k (bv p) ∧ Below N w wr) (fun v0 _ _ => (intOf v0).toNat)
  case atStart => exact ⟨n, 0, [], none, 0, rfl, rfl, rfl, hn, HL.out.2.symm, ⟨rfl, .inl ⟨rfl, rfl⟩⟩, Below.refl _ _⟩
  case round =>
    obtain ⟨m, k, p, A3, cap3, rfl, rfl, hk, hm, hpl, own3, hb3⟩ := hrel
    have hk10 : k ≤ 10 := by
      have h1 := HL.out.1
      rw [← hpl, List.length_append] at h1
      omega
    have hsz := hb3.size
    have hNz : N ≤ wr.heap.size := by have := HN.out; omega
    by_cases h128 : m < 128
    · obtain ⟨x, hx⟩ : ∃ x, x = UInt8.ofNat m := ⟨_, rfl⟩
      have n0 : (0 : Int) ≤ (m : Int) := by omega
      have n1 : (m : Int) ≤ 127 := by omega
      have n3 : (m : Int) = (x.toNat : Int) := by rw [hx, UInt8.toNat_ofNat']; omega
      have n2 : ¬ (128 : Int) ≤ (m : Int) := by omega
      have H3 := hide (And.intro (own3.alloc (.cells #[.int .u8 (m : Int)] 5)) (And.intro (hb3.alloc (by omega) (.cells #[.int .u8 (m : Int)] 5)) (And.intro hk (And.intro hpl (And.intro hx n3)))))
      clear own3 hb3 hk hpl hx n3
      go_wp2_with (at_builtin; (refine wpList_app (o := ⟨some 19, _, _, _, _, _⟩) rfl (.tmp 15) (.tmp 18) 26 rfl N 5 i (.int .u8 0) 1 Try.underlying26 hi hz0 hz1 hz2 rfl _ k _ H3.out.1 (some ⟨wr.heap.size, 0, none⟩) 1 1 [.int .u8 (m : Int)] (src_one wr (.int .u8 (m : Int)) 5 rfl) (by simp only [maxLen]; omega) (by omega) (by rw [size_alloc]; omega) rfl rfl ?_); intro v4 w4 own4 gr4 mv4 _; obtain ⟨A4, cap4, rfl⟩ := owned_slice own4; have H4 := hide (And.intro own4 gr4); clear own4 gr4 mv4)
      go_ret
      obtain ⟨own3, hb3, hk, hpl, hx, n3⟩ := H3.out
      obtain ⟨own4, gr4⟩ := H4.out
      have e : l = p ++ [x] := by rw [← hpl, num_lo h128, hx]
      refine ⟨_, rfl, ?_, hb3.grown gr4 (by rw [size_alloc]; omega) (fun q hq => (owned_lt own3 hq).1)⟩
      rw [n3] at own4
      rw [e, List.length_append, bvA, ← hk]
      exact own4
    · obtain ⟨r, hr⟩ : ∃ r, r = m % 128 := ⟨_, rfl⟩
      obtain ⟨x, hx⟩ : ∃ x, x = UInt8.ofNat (m % 128 + 128) := ⟨_, rfl⟩
      obtain ⟨d, hd⟩ : ∃ d, d = m / 128 := ⟨_, rfl⟩
      have n0 : (0 : Int) ≤ (m : Int) := by omega
      have nx : (r : Int) + 128 = (x.toNat : Int) := by rw [hx, UInt8.toNat_ofNat']; omega
      have n2 : (128 : Int) ≤ (m : Int) := by omega
      have n3 : (m : Int) % 128 = (r : Int) := by omega
      have n4 : (m : Int).tmod 128 = (r : Int) := by rw [Int.tmod_eq_emod_of_nonneg n0, n3]
      have n5 : (m : Int) / 128 = (d : Int) := by omega
      have n6 : (m : Int).tdiv 128 = (d : Int) := by rw [Int.tdiv_eq_ediv_of_nonneg n0, n5]
      have n7 : (r : Int) ≤ 127 := by omega
      have n8 : (0 : Int) ≤ (r : Int) := by omega
      have hdm : d < m := by omega
      have H3 := hide (And.intro (own3.alloc (.cells #[.int .u8 ((r : Int) + 128)] 5)) (And.intro (hb3.alloc (by omega) (.cells #[.int .u8 ((r : Int) + 128)] 5)) (And.intro hk (And.intro hpl (And.intro hx (And.intro hd nx))))))
      clear own3 hb3 hk hpl hx hd hr nx
      go_wp2_with (at_builtin; (refine wpList_app (o := ⟨some 12, _, _, _, _, _⟩) rfl (.tmp 6) (.tmp 11) 26 rfl N 5 i (.int .u8 0) 1 Try.underlying26 hi hz0 hz1 hz2 rfl _ k _ H3.out.1 (some ⟨wr.heap.size, 0, none⟩) 1 1 [.int .u8 ((r : Int) + 128)] (src_one wr (.int .u8 ((r : Int) + 128)) 5 rfl) (by simp only [maxLen]; omega) (by omega) (by rw [size_alloc]; omega) rfl rfl ?_); intro v4 w4 own4 gr4 mv4 _; obtain ⟨A4, cap4, rfl⟩ := owned_slice own4; have H4 := hide (And.intro own4 gr4); clear own4 gr4 mv4)
      go_roundw
      case rel =>
        obtain ⟨own3, hb3, hk, hpl, hx, hd, nx⟩ := H3.out
        obtain ⟨own4, gr4⟩ := H4.out
        rw [nx] at own4
        refine ⟨d, k + 1, p ++ [x], A4, cap4, by go_num, rfl, by rw [List.length_append, hk]; rfl, by omega, ?_, by rw [bvA]; exact own4, hb3.grown gr4 (by rw [size_alloc]; omega) (fun q hq => (owned_lt own3 hq).1)⟩
        rw [← hpl, num_hi h128, hx, hd, List.append_assoc]
        rfl
      case measure => simp [intOf]; omega
end Go.Proofs.Ytjmenaplgndnnaa
