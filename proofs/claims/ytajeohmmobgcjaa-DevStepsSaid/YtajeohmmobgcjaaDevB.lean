/- package dev: a device is made; its fuse, its crash, what there is to say of it. -/
import Derived.Test.YtajeohmmobgcjaaDevA
namespace Go.Proofs.Ytajeohmmobgcjaa
open Go Go.RowKit
theorem info_sector : (Try.prog.info? 109).map (fun i => (i.zero, i.size, i.bytes)) = some (some (.agg (bv (List.replicate 64 0)).toArray), 64, 64) := by kernel_rfl
section
set_option maxRecDepth 100000
set_option maxHeartbeats 400000 in
theorem new_any (n : Nat) (hn : 1 ≤ n ∧ n ≤ 8192) (w : World) : Calls Try.prog 26 #[.int .i64 (n : Int)] w fun e w' =>
    ∃ g r, e = .returned (.tuple #[.pointer (some ⟨g, 0, none⟩), .int .i64 0]) ∧ w.heap.size ≤ r ∧ r < g ∧ Blk w' g 107 (dv 0 0 false (.slice (some ⟨r, 0, none⟩) n n) (.slice none 0 0)) ∧ w'.ownsRow w.heap.size 109 64 (.slice (some ⟨r, 0, none⟩) n n) n (madeCells (Value.agg (bv (List.replicate 64 0)).toArray).cells (n * 64)).toList ∧ Below w.heap.size w w' := by
  obtain ⟨i, hi, hz0, hz1, hz2⟩ := info_parts info_sector
  have h1 := hn.1
  have h2 := hn.2
  obtain ⟨Z, hz⟩ : ∃ Z, Z = (bv (List.replicate 64 0)).toArray := ⟨_, rfl⟩
  rw [← hz] at hz0 ⊢
  clear hz hn
  go_enter Try.func26, Try.ntmps26
  go_wp2_with (at_make; refine wpList_make_full _ rfl _ _ 102 rfl w.heap.size 109 i (.agg Z) 64 Try.underlying102 hi hz0 hz1 _ _ _ _ n rfl rfl ?e0 ?e1 ?e2 ?e3 ?e4 ?_)
  case e0 => rfl
  case e1 => rfl
  case e2 => rw [hz2]; omega
  case e3 => simp only [maxLen]; omega
  case e4 => exact Nat.le_refl _
  intro w1 own1 gr1
  have H1 := hide (And.intro own1 gr1)
  clear own1 gr1
  go_wp2_with fail
  go_ret2
  obtain ⟨own1, gr1⟩ := H1.out
  have hlt : w.heap.size < w1.heap.size := (own1.lt _ rfl).2
  exact ⟨w1.heap.size, w.heap.size, rfl, Nat.le_refl _, hlt, Blk.new _ _ _, own1.alloc _, ((Below.refl _ _).grown gr1 (Nat.le_refl _) (by intro k hk; cases hk)).alloc (by omega) _⟩
theorem new_bad (n : Int) (hn : n < 1 ∨ 8192 < n) (w : World) : Calls Try.prog 26 #[.int .i64 n] w fun e w' => e = .returned (.tuple #[.pointer none, .int .i64 2]) ∧ w' = w := by
  rcases Int.lt_or_le n 1 with h | h
  · go_enter Try.func26, Try.ntmps26
    go_wp2
    go_ret2
    exact ⟨rfl, rfl⟩
  · have h2 : 8192 < n := by omega
    clear hn
    go_enter Try.func26, Try.ntmps26
    go_wp2
    go_ret2
    exact ⟨rfl, rfl⟩
variable {de fu : Int} {dn : Bool} {vp : Value} {a : Addr} {n c g : Nat}
/-- the fuse is lit, unless it is down -/
theorem fuse_any (x : Int) (w : World) (hb : Blk w g 107 (dv de fu false (.slice (some a) n c) vp)) : Calls Try.prog 35 #[.pointer (some ⟨g, 0, none⟩), .int .i64 x] w fun e w' => e = .returned (.int .i64 0) ∧ Blk w' g 107 (dv de (max x 0) false (.slice (some a) n c) vp) ∧ w.grownBy w' (some g) := by
  have c1 := (hb.cell 1).trans (dv1 ..)
  have f1 := hb.frozen 1
  have hlt := hb.lt
  have H := hide hb
  clear hb
  rcases Int.lt_or_le x 0 with h | h
  · have hm : max x 0 = 0 := by omega
    have h2 : x ≤ 0 := by omega
    rw [hm]
    clear hm
    go_enter Try.func35, Try.ntmps35
    go_wp2_with (go_at_call 58; refine (able_any _ H.out).mono ?_; rintro e w' ⟨rfl, rfl⟩)
    go_ret
    have h := H.out.set_ 1 (.int .i64 0)
    rw [dv_set1] at h
    exact ⟨rfl, h, only_setCell (World.grownBy.refl _ _) (.inl rfl) _⟩
  · have hm : max x 0 = x := by omega
    rw [hm]
    rcases Int.lt_or_le 0 x with h0 | h0
    · clear hm
      go_enter Try.func35, Try.ntmps35
      go_wp2_with (go_at_call 58; refine (able_any _ H.out).mono ?_; rintro e w' ⟨rfl, rfl⟩)
      go_ret
      have h := H.out.set_ 1 (.int .i64 x)
      rw [dv_set1] at h
      exact ⟨rfl, h, only_setCell (World.grownBy.refl _ _) (.inl rfl) _⟩
    · obtain rfl : x = 0 := by omega
      clear hm
      go_enter Try.func35, Try.ntmps35
      go_wp2_with (go_at_call 58; refine (able_any _ H.out).mono ?_; rintro e w' ⟨rfl, rfl⟩)
      go_ret
      have h := H.out.set_ 1 (.int .i64 0)
      rw [dv_set1] at h
      exact ⟨rfl, h, only_setCell (World.grownBy.refl _ _) (.inl rfl) _⟩
/-- it goes down, unless it is down -/
theorem crash_any (w : World) (hb : Blk w g 107 (dv de fu false (.slice (some a) n c) vp)) : Calls Try.prog 32 #[.pointer (some ⟨g, 0, none⟩)] w fun e w' => e = .returned (.int .i64 0) ∧ Blk w' g 107 (dv de fu true (.slice (some a) n c) vp) ∧ w.grownBy w' (some g) := by
  have c2 := (hb.cell 2).trans (dv2 ..)
  have f2 := hb.frozen 2
  have hlt := hb.lt
  have H := hide hb
  clear hb
  go_enter Try.func32, Try.ntmps32
  go_wp2_with (go_at_call 58; refine (able_any _ H.out).mono ?_; rintro e w' ⟨rfl, rfl⟩)
  go_ret
  have h := H.out.set_ 2 (.bool true)
  rw [dv_set2] at h
  exact ⟨rfl, h, only_setCell (World.grownBy.refl _ _) (.inl rfl) _⟩
end
end Go.Proofs.Ytajeohmmobgcjaa
