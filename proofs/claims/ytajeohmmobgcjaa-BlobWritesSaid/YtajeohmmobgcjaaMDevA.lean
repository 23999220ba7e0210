/- package dev: a device's block; the small walks. package dev: a device is made; its fuse, its crash, what there is to say of it. package dev: what there is to say of a device. -/
import Derived.Test.YtajeohmmobgcjaaMEqArr
import Derived.Test.YtajeohmmobgcjaaMLent
import Derived.Test.YtajeohmmobgcjaaMQuietTail
import Derived.BigQuiet
section
namespace Go.Proofs.Ytajeohmmobgcjaa
open Go Go.RowKit
/-- a device's cells: deeds, a fuse, is it down, what is kept, what is pending -/
def dv (de fu : Int) (dn : Bool) (vk vp : Value) : Array Value := #[.int .i64 de, .int .i64 fu, .bool dn, vk, vp]
theorem dv0 (de fu : Int) (dn : Bool) (vk vp : Value) : (dv de fu dn vk vp)[0]? = some (.int .i64 de) := rfl
theorem dv1 (de fu : Int) (dn : Bool) (vk vp : Value) : (dv de fu dn vk vp)[1]? = some (.int .i64 fu) := rfl
theorem dv2 (de fu : Int) (dn : Bool) (vk vp : Value) : (dv de fu dn vk vp)[2]? = some (.bool dn) := rfl
theorem dv3 (de fu : Int) (dn : Bool) (vk vp : Value) : (dv de fu dn vk vp)[3]? = some vk := rfl
theorem dv4 (de fu : Int) (dn : Bool) (vk vp : Value) : (dv de fu dn vk vp)[4]? = some vp := rfl
theorem dv_set0 (de fu x : Int) (dn : Bool) (vk vp : Value) : (dv de fu dn vk vp).setIfInBounds 0 (.int .i64 x) = dv x fu dn vk vp := rfl
theorem dv_set1 (de fu x : Int) (dn : Bool) (vk vp : Value) : (dv de fu dn vk vp).setIfInBounds 1 (.int .i64 x) = dv de x dn vk vp := rfl
theorem dv_set2 (de fu : Int) (dn x : Bool) (vk vp : Value) : (dv de fu dn vk vp).setIfInBounds 2 (.bool x) = dv de fu x vk vp := rfl
theorem dv_set4 (de fu : Int) (dn : Bool) (vk vp x : Value) : (dv de fu dn vk vp).setIfInBounds 4 x = dv de fu dn vk x := rfl
section
set_option maxRecDepth 100000
variable {de fu : Int} {dn : Bool} {vp : Value} {a : Addr} {n c g : Nat}
theorem dnone_any (w : World) (hb : Blk w g 107 (dv de fu dn (.slice (some a) n c) vp)) : Calls Try.prog 63 #[.pointer (some ⟨g, 0, none⟩)] w fun e w' => e = .returned (.bool false) ∧ w' = w := by
  have c3 := (hb.cell 3).trans (dv3 ..)
  have hlt := hb.lt
  have hq := fun (w : World) (a : Option Addr) (n c : Nat) => Lib.run_eql_slice_nil (P := Try.prog) w 102 109 a n c 0 0 Try.underlying102
  clear hb
  go_enter Try.func63, Try.ntmps63
  go_wp2
  go_ret
  exact ⟨rfl, rfl⟩
theorem able_any (w : World) (hb : Blk w g 107 (dv de fu dn (.slice (some a) n c) vp)) : Calls Try.prog 58 #[.pointer (some ⟨g, 0, none⟩)] w fun e w' => e = .returned (.int .i64 (if dn = true then 10 else 0)) ∧ w' = w := by
  have c2 := (hb.cell 2).trans (dv2 ..)
  have hlt := hb.lt
  have H := hide hb
  clear hb
  cases dn with
  | true =>
    go_enter Try.func58, Try.ntmps58
    go_wp2_with (go_at_call 63; refine (dnone_any _ H.out).mono ?_; rintro e w' ⟨rfl, rfl⟩)
    go_ret
    exact ⟨rfl, rfl⟩
  | false =>
    go_enter Try.func58, Try.ntmps58
    go_wp2_with (go_at_call 63; refine (dnone_any _ H.out).mono ?_; rintro e w' ⟨rfl, rfl⟩)
    go_ret
    exact ⟨rfl, rfl⟩
theorem has_any (w : World) (hn : n ≤ 8192) (x : Int) (hx : -9223372036854775808 ≤ x ∧ x ≤ 9223372036854775807) (hb : Blk w g 107 (dv de fu dn (.slice (some a) n c) vp)) : Calls Try.prog 59 #[.pointer (some ⟨g, 0, none⟩), .int .i64 x] w fun e w' => e = .returned (.bool (decide (0 ≤ x ∧ x < (n : Int)))) ∧ w' = w := by
  have c3 := (hb.cell 3).trans (dv3 ..)
  have hlt := hb.lt
  have hx1 := hx.1
  have hx2 := hx.2
  have hu : x < 0 → ¬ IntKind.u64.wrap x < (n : Int) := fun h => by simp [IntKind.wrap, IntKind.signed, IntKind.bits]; omega
  clear hb hx
  rcases Int.lt_or_le x 0 with hneg | hpos
  · have hu2 := hu hneg
    have hd : decide (0 ≤ x ∧ x < (n : Int)) = false := decide_eq_false (by omega)
    rw [hd]
    clear hu hd
    go_enter Try.func59, Try.ntmps59
    go_wp2
    go_ret
    refine ⟨ret_bool ?_, rfl⟩
    simp
  · have hw : IntKind.u64.wrap x = x := by simp [IntKind.wrap, IntKind.signed, IntKind.bits]; omega
    clear hu
    go_enter Try.func59, Try.ntmps59
    go_wp2
    go_ret
    exact ⟨ret_bool (by simp [hpos]), rfl⟩
/-- a deed begins -/
def tick (de fu : Int) (dn : Bool) : Int × Int × Int × Bool := if fu = 1 then (10, de, 0, true) else if fu = 0 then (0, de + 1, 0, dn) else (0, de + 1, fu - 1, dn)
set_option maxHeartbeats 400000 in
theorem next_any (w : World) (vk : Value) (hde : 0 ≤ de ∧ de ≤ 1000000000) (hfu : 0 ≤ fu ∧ fu ≤ 9223372036854775807) (hb : Blk w g 107 (dv de fu dn vk vp)) : Calls Try.prog 60 #[.pointer (some ⟨g, 0, none⟩)] w fun e w' =>
    e = .returned (.int .i64 (tick de fu dn).1) ∧ Blk w' g 107 (dv (tick de fu dn).2.1 (tick de fu dn).2.2.1 (tick de fu dn).2.2.2 vk vp) ∧ w.grownBy w' (some g) := by
  have c0 := (hb.cell 0).trans (dv0 ..)
  have c1 := (hb.cell 1).trans (dv1 ..)
  have f0 := hb.frozen 0
  have f1 := hb.frozen 1
  have f2 := hb.frozen 2
  have c2 := (hb.cell 2).trans (dv2 ..)
  have hlt := hb.lt
  have H := hide hb
  have h1 := hde.1
  have h2 := hde.2
  have h3 := hfu.1
  have h4 := hfu.2
  clear hb hde hfu
  by_cases q1 : fu = 1
  · subst q1
    have ht : tick de 1 dn = (10, de, 0, true) := by simp [tick]
    rw [ht]
    go_enter Try.func60, Try.ntmps60
    go_wp2
    go_ret
    have h := (H.out.set_ 1 (.int .i64 0)).set_ 2 (.bool true)
    rw [dv_set1, dv_set2] at h
    have g1 : w.grownBy (w.setCell ⟨g, 1, none⟩ (.int .i64 0)) (some g) := only_setCell (World.grownBy.refl w _) (.inl rfl) _
    exact ⟨rfl, h, only_setCell g1 (.inl rfl) _⟩
  · by_cases q0 : fu = 0
    · subst q0
      have ht : tick de 0 dn = (0, de + 1, 0, dn) := by simp [tick]
      rw [ht]
      clear ht
      go_enter Try.func60, Try.ntmps60
      go_wp2
      go_ret
      have h := H.out.set_ 0 (.int .i64 (de + 1))
      rw [dv_set0] at h
      exact ⟨rfl, h, only_setCell (World.grownBy.refl w _) (.inl rfl) _⟩
    · have ht : tick de fu dn = (0, de + 1, fu - 1, dn) := by simp [tick, q0, q1]
      rw [ht]
      have b0 : (fu == 0) = false := by simp [q0]
      have b1 : (fu == 1) = false := by simp [q1]
      clear ht
      go_enter Try.func60, Try.ntmps60
      go_wp2
      go_ret
      have h := (H.out.set_ 1 (.int .i64 (fu - 1))).set_ 0 (.int .i64 (de + 1))
      rw [dv_set1, dv_set0] at h
      have g1 : w.grownBy (w.setCell ⟨g, 1, none⟩ (.int .i64 (fu - 1))) (some g) := only_setCell (World.grownBy.refl w _) (.inl rfl) _
      exact ⟨rfl, h, only_setCell g1 (.inl rfl) _⟩
end
end Go.Proofs.Ytajeohmmobgcjaa
end
section
namespace Go.Proofs.Ytajeohmmobgcjaa
open Go Go.RowKit
theorem info_sector : (Try.prog.info? 109).map (fun i => (i.zero, i.size, i.bytes)) = some (some (.agg (bv (List.replicate 64 0)).toArray), 64, 64) := by kernel_rfl
section
set_option maxRecDepth 100000
set_option maxHeartbeats 400000 in
theorem new_any (n : Nat) (hn : 1 ≤ n ∧ n ≤ 8192) (w : World) : Calls Try.prog 26 #[.int .i64 (n : Int)] w fun e w' =>
    ∃ g r, e = .returned (.tuple #[.pointer (some ⟨g, 0, none⟩), .int .i64 0]) ∧ w.heap.size ≤ r ∧ r < g ∧ Blk w' g 107 (dv 0 0 false (.slice (some ⟨r, 0, none⟩) n n) (.slice none 0 0)) ∧ w'.ownsRow w.heap.size 109 64 (.slice (some ⟨r, 0, none⟩) n n) n (madeCells (Value.agg (bv (List.replicate 64 0)).toArray).cells (n * 64)).toList ∧ Below w.heap.size w w' := by
  obtain ⟨i, hi, hz0, hz1, hz2⟩ := info_parts info_sector
  have h1 := hn.1
  have h2 := hn.2
  obtain ⟨Z, hz⟩ : ∃ Z, Z = (bv (List.replicate 64 0)).toArray := ⟨_, rfl⟩
  rw [← hz] at hz0 ⊢
  clear hz hn
  go_enter Try.func26, Try.ntmps26
  go_wp2_with (at_make; refine wpList_make_full _ rfl _ _ 102 rfl w.heap.size 109 i (.agg Z) 64 Try.underlying102 hi hz0 hz1 _ _ _ _ n rfl rfl ?e0 ?e1 ?e2 ?e3 ?e4 ?_)
  case e0 => rfl
  case e1 => rfl
  case e2 => rw [hz2]; omega
  case e3 => simp only [maxLen]; omega
  case e4 => exact Nat.le_refl _
  intro w1 own1 gr1
  have H1 := hide (And.intro own1 gr1)
  clear own1 gr1
  go_wp2_with fail
  go_ret2
  obtain ⟨own1, gr1⟩ := H1.out
  have hlt : w.heap.size < w1.heap.size := (own1.lt _ rfl).2
  exact ⟨w1.heap.size, w.heap.size, rfl, Nat.le_refl _, hlt, Blk.new _ _ _, own1.alloc _, ((Below.refl _ _).grown gr1 (Nat.le_refl _) (by intro k hk; cases hk)).alloc (by omega) _⟩
theorem new_bad (n : Int) (hn : n < 1 ∨ 8192 < n) (w : World) : Calls Try.prog 26 #[.int .i64 n] w fun e w' => e = .returned (.tuple #[.pointer none, .int .i64 2]) ∧ w' = w := by
  rcases Int.lt_or_le n 1 with h | h
  · go_enter Try.func26, Try.ntmps26
    go_wp2
    go_ret2
    exact ⟨rfl, rfl⟩
  · have h2 : 8192 < n := by omega
    clear hn
    go_enter Try.func26, Try.ntmps26
    go_wp2
    go_ret2
    exact ⟨rfl, rfl⟩
variable {de fu : Int} {dn : Bool} {vp : Value} {a : Addr} {n c g : Nat}
/-- the fuse is lit, unless it is down -/
theorem fuse_any (x : Int) (w : World) (hb : Blk w g 107 (dv de fu false (.slice (some a) n c) vp)) : Calls Try.prog 35 #[.pointer (some ⟨g, 0, none⟩), .int .i64 x] w fun e w' => e = .returned (.int .i64 0) ∧ Blk w' g 107 (dv de (max x 0) false (.slice (some a) n c) vp) ∧ w.grownBy w' (some g) := by
  have c1 := (hb.cell 1).trans (dv1 ..)
  have f1 := hb.frozen 1
  have hlt := hb.lt
  have H := hide hb
  clear hb
  rcases Int.lt_or_le x 0 with h | h
  · have hm : max x 0 = 0 := by omega
    have h2 : x ≤ 0 := by omega
    rw [hm]
    clear hm
    go_enter Try.func35, Try.ntmps35
    go_wp2_with (go_at_call 58; refine (able_any _ H.out).mono ?_; rintro e w' ⟨rfl, rfl⟩)
    go_ret
    have h := H.out.set_ 1 (.int .i64 0)
    rw [dv_set1] at h
    exact ⟨rfl, h, only_setCell (World.grownBy.refl _ _) (.inl rfl) _⟩
  · have hm : max x 0 = x := by omega
    rw [hm]
    rcases Int.lt_or_le 0 x with h0 | h0
    · clear hm
      go_enter Try.func35, Try.ntmps35
      go_wp2_with (go_at_call 58; refine (able_any _ H.out).mono ?_; rintro e w' ⟨rfl, rfl⟩)
      go_ret
      have h := H.out.set_ 1 (.int .i64 x)
      rw [dv_set1] at h
      exact ⟨rfl, h, only_setCell (World.grownBy.refl _ _) (.inl rfl) _⟩
    · obtain rfl : x = 0 := by omega
      clear hm
      go_enter Try.func35, Try.ntmps35
      go_wp2_with (go_at_call 58; refine (able_any _ H.out).mono ?_; rintro e w' ⟨rfl, rfl⟩)
      go_ret
      have h := H.out.set_ 1 (.int .i64 0)
      rw [dv_set1] at h
      exact ⟨rfl, h, only_setCell (World.grownBy.refl _ _) (.inl rfl) _⟩
/-- it goes down, unless it is down -/
theorem crash_any (w : World) (hb : Blk w g 107 (dv de fu false (.slice (some a) n c) vp)) : Calls Try.prog 32 #[.pointer (some ⟨g, 0, none⟩)] w fun e w' => e = .returned (.int .i64 0) ∧ Blk w' g 107 (dv de fu true (.slice (some a) n c) vp) ∧ w.grownBy w' (some g) := by
  have c2 := (hb.cell 2).trans (dv2 ..)
  have f2 := hb.frozen 2
  have hlt := hb.lt
  have H := hide hb
  clear hb
  go_enter Try.func32, Try.ntmps32
  go_wp2_with (go_at_call 58; refine (able_any _ H.out).mono ?_; rintro e w' ⟨rfl, rfl⟩)
  go_ret
  have h := H.out.set_ 2 (.bool true)
  rw [dv_set2] at h
  exact ⟨rfl, h, only_setCell (World.grownBy.refl _ _) (.inl rfl) _⟩
end
end Go.Proofs.Ytajeohmmobgcjaa
end
section
namespace Go.Proofs.Ytajeohmmobgcjaa
open Go Go.RowKit
set_option maxRecDepth 100000 in
set_option maxHeartbeats 1000000 in
theorem stat_any {de fu : Int} {dn : Bool} {a : Addr} {n c g m pc : Nat} {pa : Option Addr} (w : World) (hb : Blk w g 107 (dv de fu dn (.slice (some a) n c) (.slice pa m pc))) :
    Calls Try.prog 36 #[.pointer (some ⟨g, 0, none⟩)] w fun e w' => e = .returned (.agg #[.int .i64 (n : Int), .int .i64 (m : Int), .int .i64 de, .bool dn]) ∧ Below w.heap.size w w' := by
  have hlt := hb.lt
  obtain ⟨q, hq⟩ : ∃ q, q = w.heap.size := ⟨_, rfl⟩
  have HQ := hide hq
  have hb0 := hb.alloc (.cells #[.int .i64 0, .int .i64 0, .int .i64 0, .bool false] 58)
  have c0 := (hb.cell 0).trans (dv0 ..)
  have c2 := (hb.cell 2).trans (dv2 ..)
  have c3 := (hb.cell 3).trans (dv3 ..)
  have c4 := (hb.cell 4).trans (dv4 ..)
  have H := hide hb0
  clear hb hb0 hq
  go_enter Try.func36, Try.ntmps36
  go_wp2_with (go_at_call 63; refine (dnone_any _ H.out).mono ?_; rintro e w' ⟨rfl, rfl⟩)
  refine wp_quiet_tail_drewN 21 (by kernel_rfl) (by kernel_rfl) ?_
  simp only [List.take_succ_cons, List.take_zero, List.drop_succ_cons, List.drop_zero]
  repeat (go_big_quiet_step (fail))
  refine wpQuiet_nil ?_
  intro nq
  go_wp2_with fail
  have hblk := (((((Blk.new w 58 #[.int .i64 0, .int .i64 0, .int .i64 0, .bool false]).drewN nq).set_ 0 (.int .i64 (n : Int))).set_ 1 (.int .i64 (m : Int))).set_ 2 (.int .i64 de)).set_ 3 (.bool dn)
  refine bodyPost_ret (results_cell_row rfl _ _ w.heap.size 58 #[.int .i64 (n : Int), .int .i64 (m : Int), .int .i64 de, .bool dn] (0, 0) _ rfl hblk Try.underlying58 rfl (by kernel_rfl)) rfl ⟨rfl, ?_⟩
  have h1 : Below w.heap.size w (w.alloc (.cells #[.int .i64 0, .int .i64 0, .int .i64 0, .bool false] 58)) := (Below.refl _ _).alloc (Nat.le_refl _) _
  exact ((((below_drewN h1 nq).setCell (Nat.le_refl _) _).setCell (Nat.le_refl _) _).setCell (Nat.le_refl _) _).setCell (Nat.le_refl _) _
end Go.Proofs.Ytajeohmmobgcjaa
end
