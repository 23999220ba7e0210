/- package dev: spencelaw04.none: where there is no device. -/
import Derived.Test.YtajeohmmobgcjaaDevNone
namespace Go.Proofs.Ytajeohmmobgcjaa
open Go Go.RowKit
theorem none_row (w : World) : ∃ w2 : World, (w.alloc (.cells #[.int .i64 0, .int .i64 0, .bool false, .slice none 0 0, .slice none 0 0] 107)).alloc (.cells #[.pointer none, .pointer (some ⟨w.heap.size, 0, none⟩)] 43) = w2 ∧ Below w.heap.size w w2 ∧ NoDev w2 (some ⟨w.heap.size, 0, none⟩) ∧ Blk w2 (w.heap.size + 1) 43 #[.pointer none, .pointer (some ⟨w.heap.size, 0, none⟩)] := by
  have hb : Blk (w.alloc (.cells #[.int .i64 0, .int .i64 0, .bool false, .slice none 0 0, .slice none 0 0] 107)) w.heap.size 107 (dv 0 0 false (.slice none 0 0) (.slice none 0 0)) := Blk.new _ _ _
  have hb2 := Blk.new (w.alloc (.cells #[.int .i64 0, .int .i64 0, .bool false, .slice none 0 0, .slice none 0 0] 107)) 43 #[.pointer none, .pointer (some ⟨w.heap.size, 0, none⟩)]
  simp only [World.alloc, Array.size_push] at hb2
  exact ⟨_, rfl, ((Below.refl _ w).alloc (Nat.le_refl _) _).alloc (by simp) _, .inr ⟨_, rfl, hb.below ((Below.refl _ _).alloc (Nat.le_refl _) _) hb.lt⟩, hb2⟩
theorem none_at {w2 wr : World} {g : Nat} (h1 : NoDev w2 (some ⟨g, 0, none⟩)) (h2 : Blk w2 (g + 1) 43 #[.pointer none, .pointer (some ⟨g, 0, none⟩)]) (hb : Below w2.heap.size w2 wr) (k : Nat) (hk : k < 2) :
    ∃ p, NoDev wr p ∧ wr.cell? ⟨g + 1, k, none⟩ = some (.pointer p) := by
  have hb2 := h2.below hb h2.lt
  obtain rfl | rfl : k = 0 ∨ k = 1 := by omega
  · exact ⟨none, .inl rfl, hb2.cell 0⟩
  · exact ⟨_, h1.below hb, hb2.cell 1⟩
set_option maxRecDepth 100000
set_option maxHeartbeats 4000000
theorem none_any (w : World) : Calls Try.prog 40 #[] w fun e w' => e = .returned (.bool true) ∧ Below w.heap.size w w' := by
  go_enter Try.func40, Try.ntmps40
  go_wp2_with fail
  obtain ⟨w2, hw2, hB, hN, hR⟩ := none_row w
  rw [hw2]
  have HH := hide (And.intro hB (And.intro hN hR))
  clear hw2 hB hN hR
  go_loopw [2] (fun v wr => ∃ k : Nat, k ≤ 2 ∧ v = .int .i64 (k : Int) ∧ Below w2.heap.size w2 wr) (fun v _ => 2 - (intOf v).toNat)
  case atStart => exact ⟨0, by omega, rfl, Below.refl _ _⟩
  case round =>
    obtain ⟨k, hk, rfl, hbel⟩ := hrel
    have HB := hide hbel
    clear hbel
    by_cases hk2 : k < 2
    · obtain ⟨p, hp, hc⟩ := none_at HH.out.2.1 HH.out.2.2 HB.out k hk2
      have HP := hide hp
      have n1 : (k : Int) < 2 := by omega
      have n2 : ¬ (k : Int) < 0 := by omega
      have n3 : (0 : Int) ≤ (k : Int) := by omega
      have n4 : (k : Int).toNat = k := by omega
      clear hp
      go_wp2_with fail
      refine (read_no _ _ _ HP.out).mono ?_
      rintro e w3 ⟨rfl, hb3⟩
      have HP3 := hide (HP.out.below hb3)
      have HB3 := hide (HB.out.trans (Below.mono hb3 HB.out.size))
      clear hb3 HP HB
      dsimp only
      go_wp2_with fail
      refine (kept_no _ _ HP3.out).mono ?_
      rintro e w' ⟨rfl, rfl⟩
      dsimp only
      go_wp2_with fail
      refine (write_no _ _ _ _ HP3.out).mono ?_
      rintro e w' ⟨rfl, rfl⟩
      dsimp only
      go_wp2_with fail
      refine (flush_no _ _ HP3.out).mono ?_
      rintro e w' ⟨rfl, rfl⟩
      dsimp only
      go_wp2_with fail
      refine (fuse_no _ _ _ HP3.out).mono ?_
      rintro e w' ⟨rfl, rfl⟩
      dsimp only
      go_wp2_with fail
      refine (crash_no _ _ HP3.out).mono ?_
      rintro e w' ⟨rfl, rfl⟩
      dsimp only
      go_wp2_with fail
      refine (wake_no _ _ _ HP3.out).mono ?_
      rintro e w' ⟨rfl, rfl⟩
      dsimp only
      go_wp2_with fail
      refine (spoil_no _ _ _ _ HP3.out).mono ?_
      rintro e w' ⟨rfl, rfl⟩
      dsimp only
      go_wp2_with fail
      refine (stat_no _ _ HP3.out).mono ?_
      rintro e w4 ⟨rfl, hb4⟩
      have HB4 := hide (HB3.out.trans (Below.mono hb4 HB3.out.size))
      have hst := stat_neq 0 0 0 false
      clear hb4 HP3 HB3
      dsimp only
      go_wp2_with fail
      exact ⟨⟨k + 1, by omega, by go_num, HB4.out⟩, by simp [intOf]; omega⟩
    · obtain rfl : k = 2 := by omega
      go_wp2_with fail
      go_ret
      exact ⟨rfl, HH.out.1.trans (Below.mono HB.out HH.out.1.size)⟩
end Go.Proofs.Ytajeohmmobgcjaa
