/- The chapter's examples: spencelaw01.awake is true. -/
import Derived.Test.YtjmenaplgndnnaaMaker4
import Derived.Test.YtjmenaplgndnnaaCursor3
import Derived.Test.YtjmenaplgndnnaaSameBytes
import Derived.Test.YtjmenaplgndnnaaHashOf
import Derived.Lib.SlBytesConst
namespace Go.Proofs.Ytjmenaplgndnnaa
open Go.RowKit
theorem num300 : num 300 = [172, 2] := by rw [num_hi (by omega), num_lo (by omega)]; rfl
theorem num2 : num 2 = [2] := by rw [num_lo (by omega)]; rfl
theorem num0 : num 0 = [0] := by rw [num_lo (by omega)]; rfl
theorem text300 : mkText (mkNum [] false 300).1 (mkNum [] false 300).2 [97, 98] = ([172, 2, 2, 97, 98], false) := by
  have h1 : mkNum [] false 300 = ([172, 2], false) := by
    unfold mkNum
    rw [if_pos (by omega), if_neg (by simp), show (300 : Int).toNat = 300 from rfl, num300]; rfl
  rw [h1]
  unfold mkText
  rw [if_pos (by simp), if_neg (by simp), show ([97, 98] : List UInt8).length = 2 from rfl, num2]; rfl
theorem got128 : (Cu.mk [128, 0] 0).num 9 = (0, ⟨[], 4⟩) := by
  have h : numOk (scan [128, 0] 0 0) 9 = false := by
    rw [show scan [128, 0] 0 0 = (0, 2) from by decide]
    simp only [numOk, num0]; rfl
  unfold Cu.num
  rw [if_neg (by rw [h]; simp)]
  rfl
theorem got172 : (Cu.mk [172, 2] 0).num 300 = (300, ⟨[], 0⟩) := by
  have h := num_got 300 (by omega) [] 0 300 (by omega)
  rw [num300] at h
  exact h
theorem MkAt.keep {w w' : World} {base g T : Nat} {l : List UInt8} {bad : Bool} {v : Value} (h : MkAt w base g T l bad v) (hb : Below w.heap.size w w') : MkAt w' base g T l bad v :=
  ⟨h.blk.below hb h.blk.lt, owned_keep h.own fun q _ hlt => hb.block q hlt⟩
/-- bytes in a block -/
theorem bytes_blk {w : World} {g : Nat} {l : List UInt8} (hl : g < w.heap.size) (h : ∀ j, w.cell? ⟨g, j, none⟩ = (bv l).toArray[j]?) : BytesAt w w.heap.size (.slice (some ⟨g, 0, none⟩) l.length l.length) l :=
  ⟨_, l.length, rfl, Nat.le_refl _, fun _ => ⟨g, 0, rfl, hl, fun j hj => by rw [Nat.zero_add, h, bv_get _ _ hj]⟩⟩
set_option maxRecDepth 100000 in
set_option maxHeartbeats 2000000 in
theorem awake1_any (w : World) : Calls Try.prog 8 #[] w fun e w' => e = .returned (.bool true) ∧ Below w.heap.size w w' := by
  have hcv := fun (w : World) (C : Array Value) (n c : Nat) => Lib.run_convert_bytes_const (P := Try.prog) w 26 5 C n c Try.underlying26 Try.underlying5
  go_enter Try.func8, Try.ntmps8
  go_wp2_with fail
  have m0 : MkAt (w.alloc (.cells #[.slice none 0 0, .bool false] 30)) w.heap.size w.heap.size 30 [] false (.slice none 0 0) := ⟨Blk.new w _ _, rfl, .inl ⟨rfl, rfl⟩⟩
  have m1 : MkAt ((w.alloc (.cells #[.slice none 0 0, .bool false] 30)).alloc (.cells #[.int .i64 300] 3)) w.heap.size w.heap.size 30 [] false (.slice none 0 0) := ⟨m0.blk.alloc _, m0.own.alloc _⟩
  have c300 := (Blk.new1 w (.cells #[.slice none 0 0, .bool false] 30) 3 #[.int .i64 300]).cell 0
  have hcall := mnum_any 300 (by omega) [] (by simp) false w.heap.size w.heap.size 30 (by decide) (.slice none 0 0) (w.heap.size + 1) _ (by rw [size_alloc, size_alloc]; omega) m1 c300
  have HCALL := hide hcall
  clear m0 m1 c300 hcall
  refine HCALL.out.mono ?_
  rintro e w1 ⟨rfl, v1, hm1, ht1, hmv1⟩
  have hs1 := ht1.size
  simp only [size_alloc] at hs1
  have HM1 := hide (And.intro hm1 (And.intro ht1 hmv1))
  clear hm1 ht1 hmv1 HCALL
  dsimp only
  go_wp2_with fail
  have hc2 : ∀ j, (w1.alloc (.cells #[.int .u8 97, .int .u8 98] 5 (2, 3))).cell? ⟨w1.heap.size, j, none⟩ = (bv [97, 98]).toArray[j]? := fun j => World.cell?_alloc_mark w1 _ 5 (2, 3) j
  have hsz2 : (w1.alloc (.cells #[.int .u8 97, .int .u8 98] 5 (2, 3))).heap.size = w1.heap.size + 1 := size_alloc _ _
  have hby2 := bytes_blk (l := [97, 98]) (by rw [hsz2]; omega) hc2
  have hsrc2 := (bv_src hby2 (by intro h; cases h)).alloc (.cells #[.slice (some ⟨w1.heap.size, 0, none⟩) 2 2] 26)
  have cB := (Blk.new1 w1 (.cells #[.int .u8 97, .int .u8 98] 5 (2, 3)) 26 #[.slice (some ⟨w1.heap.size, 0, none⟩) 2 2]).cell 0
  have m2 : MkAt ((w1.alloc (.cells #[.int .u8 97, .int .u8 98] 5 (2, 3))).alloc (.cells #[.slice (some ⟨w1.heap.size, 0, none⟩) 2 2] 26)) w.heap.size w.heap.size 30 (mkNum [] false 300).1 (mkNum [] false 300).2 v1 := ⟨(HM1.out.1.blk.alloc _).alloc _, (HM1.out.1.own.alloc _).alloc _⟩
  have hlen1 : (mkNum [] false 300).1.length ≤ 1099511620000 := by
    unfold mkNum
    rw [if_pos (by omega), if_neg (by simp), show (300 : Int).toNat = 300 from rfl, num300]; simp
  have hcall := mtext_any [97, 98] (by simp) _ 2 (mkNum [] false 300).1 hlen1 (mkNum [] false 300).2 w.heap.size w.heap.size 30 (by decide) v1 (w1.heap.size + 1) _ (by rw [size_alloc, size_alloc]; omega) m2 cB hsrc2 (by
    intro ad had _ hS
    injection had with had
    subst had
    rcases hS with h | h
    · change w1.heap.size = w.heap.size at h; omega
    · have := (owned_lt HM1.out.1.own h).2; change w1.heap.size < w1.heap.size at this; omega)
  rw [text300] at hcall
  have HCALL := hide hcall
  clear hc2 hsz2 hby2 hsrc2 cB m2 hlen1 hcall
  refine HCALL.out.mono ?_
  rintro e w2 ⟨rfl, v2, hm2, ht2, hmv2⟩
  have hs2 := ht2.size
  simp only [size_alloc] at hs2
  have hbl2 : Below w.heap.size w w2 := by
    have t0 : Below w.heap.size w (w.alloc (.cells #[.slice none 0 0, .bool false] 30)) := (Below.refl _ _).alloc (Nat.le_refl _) _
    have t1 := t0.alloc (by rw [size_alloc]; omega) (.cells #[.int .i64 300] 3)
    have t2 : Below w.heap.size w w1 := HM1.out.2.1.below_new t1 (fun k _ hk => by
      rcases hk with rfl | hk
      · exact Nat.le_refl _
      · cases hk)
    have t3 := (t2.alloc (by omega) (.cells #[.int .u8 97, .int .u8 98] 5 (2, 3)))
    have t4 := (t3.alloc (by rw [size_alloc]; omega) (.cells #[.slice (some ⟨w1.heap.size, 0, none⟩) 2 2] 26))
    exact ht2.below_new t4 (fun k _ hk => by
      rcases hk with rfl | hk
      · exact Nat.le_refl _
      · exact (owned_lt HM1.out.1.own hk).1)
  have HM2 := hide (And.intro hm2 hbl2)
  clear hm2 ht2 hmv2 hbl2 HCALL
  dsimp only
  go_wp2_with fail
  refine (done_ok [172, 2, 2, 97, 98] (by simp) w.heap.size w.heap.size 30 v2 _ HM2.out.1).mono ?_
  rintro e w3 ⟨v3, rfl, own3, hb3⟩
  have hs3 := hb3.size
  have HX3 := hide (And.intro own3 hb3)
  clear own3 hb3
  dsimp only
  go_wp2_with fail
  have hby4 := bytes_blk (w := w3.alloc (.cells #[.int .u8 128, .int .u8 0] 5)) (l := [128, 0]) (by rw [size_alloc]; omega) (fun j => (Blk.new w3 5 #[.int .u8 128, .int .u8 0]).cell j)
  refine (over_any [128, 0] (by simp) _ _ _ _ _ hby4 (by intro h; cases h)).mono ?_
  rintro e w4 ⟨g4, rb4, A4, c4, rfl, hg4, _, hcu4, hb4⟩
  have hs4 := hb4.size
  simp only [size_alloc] at hs4 hg4
  have HX4 := hide (And.intro hcu4 hb4)
  clear hby4 hcu4 hb4
  dsimp only
  go_wp2_with fail
  have hcall := cnum_any 9 (by omega) ⟨[128, 0], 0⟩ (by simp) g4 114 rb4 A4 c4 _ HX4.out.1
  rw [got128] at hcall
  refine hcall.mono ?_
  rintro e w5 ⟨rfl, A5, c5, hcu5, ht5⟩
  have hs5 := ht5.size
  have hb5 : Below w3.heap.size w3 w5 := by
    have t0 : Below w3.heap.size w3 (w3.alloc (.cells #[.int .u8 128, .int .u8 0] 5)) := (Below.refl _ _).alloc (Nat.le_refl _) _
    exact ht5.below_new (t0.trans (HX4.out.2.mono (by rw [size_alloc]; omega))) (fun k _ hk => by rw [hk]; omega)
  have HX5 := hide (And.intro hcu5 hb5)
  clear hcall hcu5 ht5 hb5
  dsimp only
  go_wp2_with fail
  have hby6 := bytes_blk (w := w5.alloc (.cells #[.int .u8 172, .int .u8 2, .int .u8 2, .int .u8 97, .int .u8 98] 5)) (l := [172, 2, 2, 97, 98]) (by rw [size_alloc]; omega) (fun j => (Blk.new w5 5 #[.int .u8 172, .int .u8 2, .int .u8 2, .int .u8 97, .int .u8 98]).cell j)
  have hby3 : BytesAt (w5.alloc (.cells #[.int .u8 172, .int .u8 2, .int .u8 2, .int .u8 97, .int .u8 98] 5)) (w5.alloc (.cells #[.int .u8 172, .int .u8 2, .int .u8 2, .int .u8 97, .int .u8 98] 5)).heap.size v3 [172, 2, 2, 97, 98] :=
    ((TB.of_owned (base := 0) HX3.out.1).below (HX5.out.2.alloc HX5.out.2.size _)).bytes
  refine (sameBytes_any _ _ (by simp) (by simp) _ _ _ _ hby3 hby6).mono ?_
  rintro e w6 ⟨rfl, k6, rfl⟩
  have hdd : decide (([172, 2, 2, 97, 98] : List UInt8) = [172, 2, 2, 97, 98]) = true := by simp
  rw [hdd]
  have hcu6 : CuAt ((w5.alloc (.cells #[.int .u8 172, .int .u8 2, .int .u8 2, .int .u8 97, .int .u8 98] 5)).drewN k6) g4 114 rb4 ⟨[], 4⟩ A5 c5 := HX5.out.1.below (below_drewN ((Below.refl _ _).alloc (Nat.le_refl _) _) k6)
  have HX6 := hide hcu6
  clear hby6 hby3 hdd hcu6
  dsimp only
  go_wp2_with fail
  refine (cend_any ⟨[], 4⟩ g4 114 rb4 A5 c5 _ HX6.out).mono ?_
  rintro e w' ⟨rfl, rfl⟩
  rw [show (Cu.mk [] 4).end_ = 4 from rfl]
  dsimp only
  go_wp2_with fail
  obtain ⟨w7, hw7⟩ : ∃ w7, w7 = (w5.alloc (.cells #[.int .u8 172, .int .u8 2, .int .u8 2, .int .u8 97, .int .u8 98] 5)).drewN k6 := ⟨_, rfl⟩
  have hb7 : Below w5.heap.size w5 w7 := by rw [hw7]; exact below_drewN ((Below.refl _ _).alloc (Nat.le_refl _) _) k6
  have hsz7 : w7.heap.size = w5.heap.size + 1 := by rw [hw7, size_drewN, size_alloc]
  rw [← hw7, ← hsz7]
  have HB7 := hide (And.intro hb7 hsz7)
  clear hw7 hb7 hsz7
  have hby8 := bytes_blk (w := w7.alloc (.cells #[.int .u8 172, .int .u8 2] 5)) (l := [172, 2]) (by rw [size_alloc]; omega) (fun j => (Blk.new w7 5 #[.int .u8 172, .int .u8 2]).cell j)
  refine (over_any [172, 2] (by simp) _ _ _ _ _ hby8 (by intro h; cases h)).mono ?_
  rintro e w8 ⟨g8, rb8, A8, c8, rfl, hg8, _, hcu8, hb8⟩
  have hs8 := hb8.size
  simp only [size_alloc] at hs8 hg8
  have HX8 := hide (And.intro hcu8 hb8)
  clear hby8 hcu8 hb8
  dsimp only
  go_wp2_with fail
  have hcall := cnum_any 300 (by omega) ⟨[172, 2], 0⟩ (by simp) g8 114 rb8 A8 c8 _ HX8.out.1
  rw [got172] at hcall
  refine hcall.mono ?_
  rintro e w9 ⟨rfl, A9, c9, hcu9, ht9⟩
  have hs9 := ht9.size
  have hb9 : Below w7.heap.size w7 w9 := by
    have t0 : Below w7.heap.size w7 (w7.alloc (.cells #[.int .u8 172, .int .u8 2] 5)) := (Below.refl _ _).alloc (Nat.le_refl _) _
    exact ht9.below_new (t0.trans (HX8.out.2.mono (by rw [size_alloc]; omega))) (fun k _ hk => by rw [hk]; omega)
  have HX9 := hide hb9
  clear hcall hcu9 ht9 hb9
  dsimp only
  go_wp2_with fail
  go_ret
  refine ⟨rfl, ?_⟩
  have s2 := HM2.out.2.size
  have s7 := HB7.out.1.size
  exact (((HM2.out.2.trans (HX3.out.2.mono s2)).trans (HX5.out.2.mono (by omega))).trans (HB7.out.1.mono (by omega))).trans (HX9.out.mono (by omega))
end Go.Proofs.Ytjmenaplgndnnaa
