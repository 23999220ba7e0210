/- class.must, class.tried: an error that is thrown, and caught. -/
import Derived.Test.YtidiepbmbbflhaaBel
import Derived.Test.YtidiepbmbbflhaaOps
import Derived.Test.YtidiepbmbbflhaaAt
import Derived.Recover
import Derived.Laws.Pointers
namespace Go.Proofs.Ytidiepbmbbflhaa
open Go Go.RowKit
set_option maxRecDepth 100000
/-- an error that was thrown -/
def thrown (e : Int) : Value := .iface 28 (.int .i64 e)
theorem must_ok (e : Int) (w : World) : Calls Try.prog 36 #[.bool true, .int .i64 e] w fun x w' => x = .returned (.tuple #[]) ∧ w' = w := by
  go_enter Try.func36, Try.ntmps36
  go_wp2_with fail
  go_end0
  exact ⟨rfl, rfl⟩
theorem must_no (e : Int) (w : World) : Calls Try.prog 36 #[.bool false, .int .i64 e] w fun x w' => x = .panicked [{ v := thrown e, recovered := false }] ∧ w' = w := by
  go_enter Try.func36, Try.ntmps36
  go_wp2_with fail
  simp [bodyPost, thrown]
theorem assert_thrown {ρ : Operand → Value} {o : Oper} (x : Operand) (ho : o.op = .typeAssert x 20 28 true) (e : Int) (hx : ρ x = thrown e) (w : World) : (execOp ρ o).run Try.prog w = .ok (.value (.tuple #[.int .i64 e, .bool true])) w := by
  unfold execOp
  simp only [ho, hx]
  kernel_rfl
theorem catch_thrown (g : Nat) (x e : Int) (older : List PanicEntry) (w : World) (hb : Blk w g 28 #[.int .i64 x]) :
    CallsD Try.prog 35 #[.pointer (some ⟨g, 0, none⟩)] (.panicking ({ v := thrown e, recovered := false } :: older)) w fun r u' w' =>
      r = .returned (.tuple #[]) ∧ u' = .panicking ({ v := thrown e, recovered := true } :: older) ∧ Blk w' g 28 #[.int .i64 e] ∧ w.grownBy w' (some g) := by
  refine callsD_of_wpS Try.func35 rfl fun c₀ cs hu => ?_
  unfold thrown at hu ⊢
  apply wpS_seq
  apply wpS_region
  simp [wpOpsS, go_sem, recoverD, hu, Try.ntmps35, Exit.thenS]
  apply wpS_seq
  apply wpS_region
  simp [wpOpsS, go_sem, Exit.thenS]
  refine wpS_cond (t := true) (by simp [Act.eval, Array.replicate]) ?_
  simp only [if_true]
  refine wpS_of_wp ?_
  change Code.wp Try.prog _ _ { tmps := #[.pointer (some ⟨g, 0, none⟩), thrown e, undef, thrown e, thrown e, .bool true, undef, undef, undef, undef, undef, undef, undef, undef], defers := [] } w
  unfold thrown
  go_wp2_with (first | ((with_reducible refine at_slot 8 ?_); (refine wpList_value (o := ⟨some 8, _, _, _, _, _⟩) rfl (.tuple #[.int .i64 e, .bool true]) w (assert_thrown (.tmp 7) rfl e rfl w) ?_)) | ((with_reducible refine at_store 0 9 ?_); (refine wpList_store1 (o := ⟨none, _, _, _, _, _⟩) rfl 28 (.tmp 0) (.tmp 9) rfl g 0 28 #[.int .i64 x] hb (Nat.zero_lt_one) (by kernel_rfl) (.int .i64 e) rfl rfl rfl ?_); intro w8 hk hg hz; have H8 := hide (And.intro hk hg); clear hk hg hz; simp only [Act.put, List.setIfInBounds_toArray, List.set_cons_zero, List.set_cons_succ]))
  simp [bodyPostS, results, Try.results35]
  exact ⟨H8.out.1, H8.out.2⟩
theorem catch_none (p : Addr) (w : World) :
    CallsD Try.prog 35 #[.pointer (some p)] .returning w fun r u' w' => r = .returned (.tuple #[]) ∧ u' = .returning ∧ w' = w := by
  refine callsD_of_wpS Try.func35 rfl fun c₀ cs hu => ?_
  apply wpS_seq
  apply wpS_region
  simp [wpOpsS, go_sem, recoverD, hu, Try.ntmps35, Exit.thenS]
  apply wpS_seq
  apply wpS_region
  simp [wpOpsS, go_sem, Exit.thenS]
  refine wpS_cond (t := false) (by simp [Act.eval, Array.replicate]) ?_
  simp only [Bool.false_eq_true, if_false]
  refine wpS_of_wp (wp_skip ?_)
  cases c₀
  simp_all [bodyPostS, results, Try.results35]
set_option maxHeartbeats 1000000 in
/-- what is tried, and throws an error, ends with that error -/
theorem tried_no (fn : Nat) (cap : Array Value) (e0 : Int) (R : World → Prop) (w : World) (heg : ∀ args w, (callFunc fn args).run Try.prog w = .ok (.enter fn args) w)
    (hc : ∀ w1, New1 w w1 28 #[.int .i64 0] → Calls Try.prog fn cap w1 fun e w' => e = .panicked [{ v := thrown e0, recovered := false }] ∧ Blk w' w.heap.size 28 #[.int .i64 0] ∧ R w') :
    Calls Try.prog 18 #[.func (.func fn) #[] cap] w fun e w' => e = .returned (.int .i64 e0) ∧ ∃ w2, R w2 ∧ w2.grownBy w' (some w.heap.size) := by
  have hmf : ∀ (fn : Fn) (first cap : Array Value) (w : World), (Instr.makeFunc fn first cap).run Try.prog w = .ok (.func fn first cap) w := fun _ _ _ _ => rfl
  go_enter_defers Try.func18, Try.ntmps18
  go_wp2_with ((with_reducible refine at_slot 2 ?_); (refine wpList_newZ (o := ⟨some 2, _, _, _, _, _⟩) rfl 28 #[.int .i64 0] (by kernel_rfl) ?_); intro w1 hn; have H1 := hide hn; clear hn; simp only [Act.put, List.setIfInBounds_toArray, List.set_cons_zero, List.set_cons_succ])
  refine (hc w1 H1.out).mono ?_
  rintro e w2 ⟨rfl, hk, hR⟩
  dsimp only
  refine leaves_cons (f := 35) (args := #[.pointer (some ⟨w.heap.size, 0, none⟩)]) (by simp) (by simp [go_sem]) ?_
  refine (catch_thrown w.heap.size 0 e0 [] w2 hk).mono ?_
  rintro r u' w3 ⟨rfl, rfl, hk3, hg3⟩
  have c3 : w3.cell? ⟨w.heap.size, 0, none⟩ = some (.int .i64 e0) := hk3.cell 0
  simp [Leaves, settle, results, Try.results18, go_sem, c3]
  exact ⟨w2, hR, hg3⟩
set_option maxHeartbeats 1000000 in
/-- what is tried, and ends, is no error -/
theorem tried_ok (fn : Nat) (cap : Array Value) (R : World → Prop) (w : World) (heg : ∀ args w, (callFunc fn args).run Try.prog w = .ok (.enter fn args) w)
    (hc : ∀ w1, New1 w w1 28 #[.int .i64 0] → Calls Try.prog fn cap w1 fun e w' => e = .returned (.tuple #[]) ∧ Blk w' w.heap.size 28 #[.int .i64 0] ∧ R w') :
    Calls Try.prog 18 #[.func (.func fn) #[] cap] w fun e w' => e = .returned (.int .i64 0) ∧ ∃ w2, R w2 ∧ w2.grownBy w' (some w.heap.size) := by
  have hmf : ∀ (fn : Fn) (first cap : Array Value) (w : World), (Instr.makeFunc fn first cap).run Try.prog w = .ok (.func fn first cap) w := fun _ _ _ _ => rfl
  go_enter_defers Try.func18, Try.ntmps18
  go_wp2_with ((with_reducible refine at_slot 2 ?_); (refine wpList_newZ (o := ⟨some 2, _, _, _, _, _⟩) rfl 28 #[.int .i64 0] (by kernel_rfl) ?_); intro w1 hn; have H1 := hide hn; clear hn; simp only [Act.put, List.setIfInBounds_toArray, List.set_cons_zero, List.set_cons_succ])
  refine (hc w1 H1.out).mono ?_
  rintro e w2 ⟨rfl, hk, hR⟩
  dsimp only
  go_wp2_with ((with_reducible refine at_storeC 2 ?_); (refine wpList_store1 (o := ⟨none, _, _, _, _, _⟩) rfl 28 (.tmp 2) (.const (.int .i64 0)) rfl w.heap.size 0 28 #[.int .i64 0] hk (Nat.zero_lt_one) (by kernel_rfl) (.int .i64 0) rfl rfl rfl ?_); intro w8 hk8 hg8 hz8; have H8 := hide (And.intro hk8 hg8); clear hk8 hg8 hz8; simp only [Act.put, List.setIfInBounds_toArray, List.set_cons_zero, List.set_cons_succ])
  refine leaves_cons (f := 35) (args := #[.pointer (some ⟨w.heap.size, 0, none⟩)]) (by simp) (by simp [go_sem]) ?_
  refine (catch_none ⟨w.heap.size, 0, none⟩ w8).mono ?_
  rintro r u' w3 ⟨rfl, rfl, rfl⟩
  have c3 : w3.cell? ⟨w.heap.size, 0, none⟩ = some (.int .i64 0) := Blk.cell (t := 28) (cs := #[.int .i64 0]) H8.out.1 0
  simp [Leaves, settle, results, Try.results18, go_sem, c3]
  exact ⟨w2, hR, H8.out.2⟩
end Go.Proofs.Ytidiepbmbbflhaa
