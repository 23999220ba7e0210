/- The chapter's example: spencelaw02.awake is true. -/
import Derived.Test.YtjmenaplgndnnaaShaF
import Derived.Lib.SlBytesConst
namespace Go.Proofs.Ytjmenaplgndnnaa
open Go.RowKit
theorem byte_at (l : List UInt8) (i : Nat) (x : UInt8) (h : l[i]? = some x) : (bv l).toArray[i]? = some (.int .u8 (x.toNat : Int)) := by
  simp [bv, h]
set_option maxRecDepth 100000 in
set_option maxHeartbeats 400000 in
theorem begins_any (l : List UInt8) (a b c d : UInt8) (h0 : l[0]? = some a) (h1 : l[1]? = some b) (h2 : l[2]? = some c) (h3 : l[3]? = some d) (xa xb xc xd : Int) (ea : xa = (a.toNat : Int)) (eb : xb = (b.toNat : Int)) (ec : xc = (c.toNat : Int)) (ed : xd = (d.toNat : Int)) (w : World) :
    Calls Try.prog 37 #[.agg (bv l).toArray, .int .u8 xa, .int .u8 xb, .int .u8 xc, .int .u8 xd] w fun e w' => e = .returned (.bool true) ∧ Below w.heap.size w w' := by
  subst ea eb ec ed
  have HA := hide ((Blk.new w 53 (bv l).toArray).cell 0 |>.trans (byte_at l 0 a h0))
  have HB := hide ((Blk.new w 53 (bv l).toArray).cell 1 |>.trans (byte_at l 1 b h1))
  have HC := hide ((Blk.new w 53 (bv l).toArray).cell 2 |>.trans (byte_at l 2 c h2))
  have HD := hide ((Blk.new w 53 (bv l).toArray).cell 3 |>.trans (byte_at l 3 d h3))
  obtain ⟨L, hL⟩ : ∃ L, L = (bv l).toArray := ⟨_, rfl⟩
  rw [← hL] at HA HB HC HD ⊢
  have ha := HA.out
  have hb := HB.out
  have hc := HC.out
  have hd := HD.out
  clear HA HB HC HD h0 h1 h2 h3 hL
  go_enter Try.func37, Try.ntmps37
  go_wp2
  go_ret
  exact ⟨by simp, (Below.refl _ _).alloc (Nat.le_refl _) _⟩

theorem abc_parts (w : World) (b b2 : Nat) (B : Nat) (hb : b < B) (hb2 : b2 < B) (h : ∀ j, w.cell? ⟨b, j, none⟩ = #[.int .u8 97, .int .u8 98, .int .u8 99][j]?) (h2 : Blk w b2 26 #[.slice (some ⟨b, 0, none⟩) 3 3]) : PartsAt w B (.slice (some ⟨b2, 0, none⟩) 1 1) [[97, 98, 99]] := by
  refine ⟨_, 1, rfl, Nat.le_refl _, fun _ => ⟨b2, 0, rfl, hb2, fun j hj => ?_⟩⟩
  have : j = 0 := by simp at hj; omega
  subst this
  refine ⟨_, h2.cell 0, _, 3, rfl, Nat.le_refl _, fun _ => ⟨b, 0, rfl, hb, fun j hj => ?_⟩⟩
  rw [Nat.zero_add, h]
  have hj3 : j < 3 := hj
  match j, hj3 with
  | 0, _ => rfl
  | 1, _ => rfl
  | 2, _ => rfl
theorem nil_parts (w : World) (B : Nat) : PartsAt w B (.slice none 0 0) [] := ⟨none, 0, rfl, Nat.le_refl _, fun h => absurd h (by simp)⟩

theorem sum0 : (Sha.sum [])[0]? = some 0xe3 ∧ (Sha.sum [])[1]? = some 0xb0 ∧ (Sha.sum [])[2]? = some 0xc4 ∧ (Sha.sum [])[3]? = some 0x42 := by decide +kernel
theorem sum3 : (Sha.sum [97, 98, 99])[0]? = some 0xba ∧ (Sha.sum [97, 98, 99])[1]? = some 0x78 ∧ (Sha.sum [97, 98, 99])[2]? = some 0x16 ∧ (Sha.sum [97, 98, 99])[3]? = some 0xbf := by decide +kernel

set_option maxRecDepth 100000 in
set_option maxHeartbeats 400000 in
theorem awake_any (w : World) : Calls Try.prog 27 #[] w fun e w' => e = .returned (.bool true) ∧ Below w.heap.size w w' := by
  have hcv := fun (w : World) (C : Array Value) (n c : Nat) => Lib.run_convert_bytes_const (P := Try.prog) w 26 5 C n c Try.underlying26 Try.underlying5
  go_enter Try.func27, Try.ntmps27
  go_wp2_with fail
  refine (sum_any [] (by simp) (by simp) _ _ 0 (Nat.zero_le _) (nil_parts _ _)).mono ?_
  rintro e w1 ⟨rfl, hb1⟩
  have HB1 := hide hb1
  clear hb1
  dsimp only
  obtain ⟨L, hL⟩ : ∃ L, L = Sha.sum ([] : List (List UInt8)).flatten := ⟨_, rfl⟩
  rw [← hL]
  have HL := hide hL
  clear hL
  go_wp2_with fail
  refine (begins_any L 0xe3 0xb0 0xc4 0x42 (by rw [HL.out]; exact sum0.1) (by rw [HL.out]; exact sum0.2.1) (by rw [HL.out]; exact sum0.2.2.1) (by rw [HL.out]; exact sum0.2.2.2) _ _ _ _ rfl rfl rfl rfl _).mono ?_
  rintro e w2 ⟨rfl, hb2⟩
  have HB2 := hide hb2
  clear hb2
  dsimp only
  go_wp2_with fail
  have hpt := abc_parts ((w2.alloc (.cells #[.int .u8 97, .int .u8 98, .int .u8 99] 5 (3, 4))).alloc (.cells #[.slice (some ⟨w2.heap.size, 0, none⟩) 3 3] 26)) w2.heap.size (w2.heap.size + 1) (w2.heap.size + 2) (by omega) (by omega) (fun j => (World.cell?_alloc_lt _ _ _ (by simp only [size_alloc]; omega)).trans (World.cell?_alloc_mark w2 _ 5 (3, 4) j)) (Blk.new1 _ _ _ _)
  have HPT := hide hpt
  clear hpt
  refine (sum_any [[97, 98, 99]] (by simp) (by simp) _ _ (w2.heap.size + 2) (by simp only [size_alloc]; exact Nat.le_refl _) HPT.out).mono ?_
  rintro e w3 ⟨rfl, hb3⟩
  have HB3 := hide hb3
  clear hb3
  dsimp only
  obtain ⟨M, hM⟩ : ∃ M, M = Sha.sum ([[97, 98, 99]] : List (List UInt8)).flatten := ⟨_, rfl⟩
  rw [← hM]
  have HM := hide hM
  clear hM
  go_wp2_with fail
  refine (begins_any M 0xba 0x78 0x16 0xbf (by rw [HM.out]; exact sum3.1) (by rw [HM.out]; exact sum3.2.1) (by rw [HM.out]; exact sum3.2.2.1) (by rw [HM.out]; exact sum3.2.2.2) _ _ _ _ rfl rfl rfl rfl _).mono ?_
  rintro e w4 ⟨rfl, hb4⟩
  dsimp only
  go_wp2_with fail
  go_ret
  refine ⟨rfl, ?_⟩
  have h1 := HB1.out
  have h2 := HB2.out
  have h3 := HB3.out
  simp only [size_alloc] at h3
  have s1 := h1.size
  have s2 := h2.size
  have s3 := h3.size
  refine ((((h1.trans (h2.mono s1)).alloc (by omega) _).alloc ?_ _).trans (h3.mono (by omega))).trans (hb4.mono ?_)
  · simp only [size_alloc]; omega
  · simp only [size_alloc] at s3; omega
end Go.Proofs.Ytjmenaplgndnnaa
