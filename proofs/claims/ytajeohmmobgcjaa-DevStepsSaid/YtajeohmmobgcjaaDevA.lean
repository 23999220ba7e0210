/- package dev: a device's block; the small walks. -/
import Derived.Test.YtajeohmmobgcjaaExec
import Derived.Test.YtajeohmmobgcjaaLent
namespace Go.Proofs.Ytajeohmmobgcjaa
open Go Go.RowKit
/-- a device's cells: deeds, a fuse, is it down, what is kept, what is pending -/
def dv (de fu : Int) (dn : Bool) (vk vp : Value) : Array Value := #[.int .i64 de, .int .i64 fu, .bool dn, vk, vp]
theorem dv0 (de fu : Int) (dn : Bool) (vk vp : Value) : (dv de fu dn vk vp)[0]? = some (.int .i64 de) := rfl
theorem dv1 (de fu : Int) (dn : Bool) (vk vp : Value) : (dv de fu dn vk vp)[1]? = some (.int .i64 fu) := rfl
theorem dv2 (de fu : Int) (dn : Bool) (vk vp : Value) : (dv de fu dn vk vp)[2]? = some (.bool dn) := rfl
theorem dv3 (de fu : Int) (dn : Bool) (vk vp : Value) : (dv de fu dn vk vp)[3]? = some vk := rfl
theorem dv4 (de fu : Int) (dn : Bool) (vk vp : Value) : (dv de fu dn vk vp)[4]? = some vp := rfl
theorem dv_set0 (de fu x : Int) (dn : Bool) (vk vp : Value) : (dv de fu dn vk vp).setIfInBounds 0 (.int .i64 x) = dv x fu dn vk vp := rfl
theorem dv_set1 (de fu x : Int) (dn : Bool) (vk vp : Value) : (dv de fu dn vk vp).setIfInBounds 1 (.int .i64 x) = dv de x dn vk vp := rfl
theorem dv_set2 (de fu : Int) (dn x : Bool) (vk vp : Value) : (dv de fu dn vk vp).setIfInBounds 2 (.bool x) = dv de fu x vk vp := rfl
theorem dv_set4 (de fu : Int) (dn : Bool) (vk vp x : Value) : (dv de fu dn vk vp).setIfInBounds 4 x = dv de fu dn vk x := rfl
section
set_option maxRecDepth 100000
variable {de fu : Int} {dn : Bool} {vp : Value} {a : Addr} {n c g : Nat}
theorem dnone_any (w : World) (hb : Blk w g 107 (dv de fu dn (.slice (some a) n c) vp)) : Calls Try.prog 63 #[.pointer (some ⟨g, 0, none⟩)] w fun e w' => e = .returned (.bool false) ∧ w' = w := by
  have c3 := (hb.cell 3).trans (dv3 ..)
  have hlt := hb.lt
  have hq := fun (w : World) (a : Option Addr) (n c : Nat) => Lib.run_eql_slice_nil (P := Try.prog) w 102 109 a n c 0 0 Try.underlying102
  clear hb
  go_enter Try.func63, Try.ntmps63
  go_wp2
  go_ret
  exact ⟨rfl, rfl⟩
theorem able_any (w : World) (hb : Blk w g 107 (dv de fu dn (.slice (some a) n c) vp)) : Calls Try.prog 58 #[.pointer (some ⟨g, 0, none⟩)] w fun e w' => e = .returned (.int .i64 (if dn = true then 10 else 0)) ∧ w' = w := by
  have c2 := (hb.cell 2).trans (dv2 ..)
  have hlt := hb.lt
  have H := hide hb
  clear hb
  cases dn with
  | true =>
    go_enter Try.func58, Try.ntmps58
    go_wp2_with (go_at_call 63; refine (dnone_any _ H.out).mono ?_; rintro e w' ⟨rfl, rfl⟩)
    go_ret
    exact ⟨rfl, rfl⟩
  | false =>
    go_enter Try.func58, Try.ntmps58
    go_wp2_with (go_at_call 63; refine (dnone_any _ H.out).mono ?_; rintro e w' ⟨rfl, rfl⟩)
    go_ret
    exact ⟨rfl, rfl⟩
theorem has_any (w : World) (hn : n ≤ 8192) (x : Int) (hx : -9223372036854775808 ≤ x ∧ x ≤ 9223372036854775807) (hb : Blk w g 107 (dv de fu dn (.slice (some a) n c) vp)) : Calls Try.prog 59 #[.pointer (some ⟨g, 0, none⟩), .int .i64 x] w fun e w' => e = .returned (.bool (decide (0 ≤ x ∧ x < (n : Int)))) ∧ w' = w := by
  have c3 := (hb.cell 3).trans (dv3 ..)
  have hlt := hb.lt
  have hx1 := hx.1
  have hx2 := hx.2
  have hu : x < 0 → ¬ IntKind.u64.wrap x < (n : Int) := fun h => by simp [IntKind.wrap, IntKind.signed, IntKind.bits]; omega
  clear hb hx
  rcases Int.lt_or_le x 0 with hneg | hpos
  · have hu2 := hu hneg
    have hd : decide (0 ≤ x ∧ x < (n : Int)) = false := decide_eq_false (by omega)
    rw [hd]
    clear hu hd
    go_enter Try.func59, Try.ntmps59
    go_wp2
    go_ret
    refine ⟨ret_bool ?_, rfl⟩
    simp
  · have hw : IntKind.u64.wrap x = x := by simp [IntKind.wrap, IntKind.signed, IntKind.bits]; omega
    clear hu
    go_enter Try.func59, Try.ntmps59
    go_wp2
    go_ret
    exact ⟨ret_bool (by simp [hpos]), rfl⟩
/-- a deed begins -/
def tick (de fu : Int) (dn : Bool) : Int × Int × Int × Bool := if fu = 1 then (10, de, 0, true) else if fu = 0 then (0, de + 1, 0, dn) else (0, de + 1, fu - 1, dn)
set_option maxHeartbeats 400000 in
theorem next_any (w : World) (vk : Value) (hde : 0 ≤ de ∧ de ≤ 1000000000) (hfu : 0 ≤ fu ∧ fu ≤ 9223372036854775807) (hb : Blk w g 107 (dv de fu dn vk vp)) : Calls Try.prog 60 #[.pointer (some ⟨g, 0, none⟩)] w fun e w' =>
    e = .returned (.int .i64 (tick de fu dn).1) ∧ Blk w' g 107 (dv (tick de fu dn).2.1 (tick de fu dn).2.2.1 (tick de fu dn).2.2.2 vk vp) ∧ w.grownBy w' (some g) := by
  have c0 := (hb.cell 0).trans (dv0 ..)
  have c1 := (hb.cell 1).trans (dv1 ..)
  have f0 := hb.frozen 0
  have f1 := hb.frozen 1
  have f2 := hb.frozen 2
  have c2 := (hb.cell 2).trans (dv2 ..)
  have hlt := hb.lt
  have H := hide hb
  have h1 := hde.1
  have h2 := hde.2
  have h3 := hfu.1
  have h4 := hfu.2
  clear hb hde hfu
  by_cases q1 : fu = 1
  · subst q1
    have ht : tick de 1 dn = (10, de, 0, true) := by simp [tick]
    rw [ht]
    go_enter Try.func60, Try.ntmps60
    go_wp2
    go_ret
    have h := (H.out.set_ 1 (.int .i64 0)).set_ 2 (.bool true)
    rw [dv_set1, dv_set2] at h
    have g1 : w.grownBy (w.setCell ⟨g, 1, none⟩ (.int .i64 0)) (some g) := only_setCell (World.grownBy.refl w _) (.inl rfl) _
    exact ⟨rfl, h, only_setCell g1 (.inl rfl) _⟩
  · by_cases q0 : fu = 0
    · subst q0
      have ht : tick de 0 dn = (0, de + 1, 0, dn) := by simp [tick]
      rw [ht]
      clear ht
      go_enter Try.func60, Try.ntmps60
      go_wp2
      go_ret
      have h := H.out.set_ 0 (.int .i64 (de + 1))
      rw [dv_set0] at h
      exact ⟨rfl, h, only_setCell (World.grownBy.refl w _) (.inl rfl) _⟩
    · have ht : tick de fu dn = (0, de + 1, fu - 1, dn) := by simp [tick, q0, q1]
      rw [ht]
      have b0 : (fu == 0) = false := by simp [q0]
      have b1 : (fu == 1) = false := by simp [q1]
      clear ht
      go_enter Try.func60, Try.ntmps60
      go_wp2
      go_ret
      have h := (H.out.set_ 1 (.int .i64 (fu - 1))).set_ 0 (.int .i64 (de + 1))
      rw [dv_set1, dv_set0] at h
      have g1 : w.grownBy (w.setCell ⟨g, 1, none⟩ (.int .i64 (fu - 1))) (some g) := only_setCell (World.grownBy.refl w _) (.inl rfl) _
      exact ⟨rfl, h, only_setCell g1 (.inl rfl) _⟩
end
end Go.Proofs.Ytajeohmmobgcjaa
