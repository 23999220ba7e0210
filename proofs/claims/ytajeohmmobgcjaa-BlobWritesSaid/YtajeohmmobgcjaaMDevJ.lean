/- package dev: the pending writes, the last one first: the iterator. -/
import Derived.Test.YtajeohmmobgcjaaMDevI
import Derived.RangeFuncNested
import Derived.RangeFuncBound
import Derived.RangeFuncCalls
import Derived.RangeFuncLeaves
import Derived.Shelf.Abstract
import Derived.OwnWalkIn
import Derived.TacticsInMore
import Derived.LoopNIn
import Derived.LoopIn
namespace Go.Proofs.Ytajeohmmobgcjaa
open Go Go.RowKit Go.Shelf
attribute [local go_sem] Oper.semAt_some
set_option maxRecDepth 100000 in
set_option maxHeartbeats 2000000 in
theorem latest1_in (F : Fence) (n : Nat) (h1 : F.fn 87) (hro : F.round = none) (hn : 1 ≤ n) (l Bd n₀ g m cp : Nat) (A : Option Addr) (rp : Nat) (hA : 0 < m → A = some ⟨rp, 0, none⟩) (hm : m ≤ 1000000) (hg : g < n₀) (hBd : Bd < n₀) (J Jx : List Nat → World → Prop)
    (hY : ∀ pre x W, J pre W → pre.length < m → YieldAt F (n - 1) Try.prog l #[.pointer (some ⟨rp, (m - 1 - x) * 65, none⟩)] W fun e W' =>
      (e = .returned (.bool true) ∧ J (pre ++ [x]) W' ∧ Below n₀ W W') ∨ (e = .returned (.bool false) ∧ Jx (pre ++ [x]) W'))
    (W : World) (hb : W.cell? ⟨Bd, 0, none⟩ = some (.pointer (some ⟨g, 0, none⟩))) (hc : W.cell? ⟨g, 4, none⟩ = some (.slice A m cp)) (h0 : J [] W) :
    CallsIn F n Try.prog 87 #[.func (.yield l) #[] #[], .pointer (some ⟨Bd, 0, none⟩)] W fun e W' => (∃ v, e = .returned v) ∧
      ((∃ ys, ys = List.range m ∧ J ys W') ∨ (∃ pre, (∃ k, k ≤ m ∧ pre = List.range k) ∧ Jx pre W')) := by
  refine callsIn_of_wp Try.func87 rfl h1 ?_ hro
  simp only [Try.ntmps87, List.size_toArray, List.length_cons, List.length_nil, Nat.reduceAdd, Nat.reduceSub, Array.replicate_succ, Array.replicate_zero, List.push_toArray, List.append_toArray, List.nil_append, List.cons_append]
  gi_wp2
  gi_loopw [3] (fun i wr => ∃ k : Nat, ((k = m ∧ i = .int .i64 (-1)) ∨ ∃ p : Nat, k + p + 1 = m ∧ i = .int .i64 (p : Int)) ∧ J (List.range k) wr ∧ Below n₀ W wr)
    (fun i _ => (intOf i + 1).toNat)
  case atStart =>
    refine ⟨0, ?_, h0, Below.refl _ _⟩
    rcases Nat.eq_zero_or_pos m with h | h
    · exact .inl ⟨h.symm, by rw [h]; rfl⟩
    · obtain ⟨q, rfl⟩ : ∃ q, m = q + 1 := ⟨m - 1, by omega⟩
      exact .inr ⟨q, by omega, by go_num⟩
  case round =>
    obtain ⟨k, hk, hJs, hnx⟩ := hrel
    rcases hk with ⟨rfl, rfl⟩ | ⟨p, hp, rfl⟩
    · gi_wp2
      go_end0
      exact ⟨⟨_, rfl⟩, .inl ⟨_, rfl, hJs⟩⟩
    · obtain ⟨fn, tmps, assign, body, hy, hR⟩ := hY (List.range k) k wr hJs (by rw [List.length_range]; omega)
      rw [show m - 1 - k = p by omega] at hy
      have hb' := (hnx.cell (p := ⟨Bd, 0, none⟩) hBd).trans hb
      have hc' := (hnx.cell (p := ⟨g, 4, none⟩) hg).trans hc
      obtain rfl := hA (by omega)
      have n1 : (0 : Int) ≤ (p : Int) := by omega
      have n2 : (p : Int) < (m : Int) := by omega
      gi_wp2
      refine hR.mono ?_
      rintro e W3 (⟨rfl, hJ3, hk3⟩ | ⟨rfl, hJx3⟩)
      · gi_wp2
        go_roundw
        case rel =>
          refine ⟨k + 1, ?_, by rw [List.range_succ]; exact hJ3, hnx.trans hk3⟩
          rcases Nat.eq_zero_or_pos p with rfl | h
          · exact .inl ⟨by omega, by go_num⟩
          · obtain ⟨q, rfl⟩ : ∃ q, p = q + 1 := ⟨p - 1, by omega⟩
            exact .inr ⟨q, by omega, by go_num⟩
        case measure => simp [intOf]
      · gi_wp2
        refine bodyPost_ret (results_none rfl _ _ _) rfl ?_
        exact ⟨⟨_, rfl⟩, .inr ⟨_, ⟨k + 1, by omega, (List.range_succ).symm⟩, hJx3⟩⟩
theorem latest_any (w : World) (g : Nat) : Calls Try.prog 81 #[.pointer (some ⟨g, 0, none⟩)] w fun e w' => e = .returned (.func (.func 87) #[] #[.pointer (some ⟨w.heap.size, 0, none⟩)]) ∧ w' = w.alloc (.cells #[.pointer (some ⟨g, 0, none⟩)] 43) := by
  go_enter Try.func81, Try.ntmps81
  go_wp2
  go_ret
  exact ⟨rfl, rfl⟩
/-- the pending writes, the last one first, as a loop is owed them -/
theorem latest_stops (F : Fence) (n : Nat) (h1 : F.fn 87) (hro : F.round = none) (hn : 1 ≤ n) (Bd n₀ g m cp : Nat) (A : Option Addr) (rp : Nat) (hA : 0 < m → A = some ⟨rp, 0, none⟩) (hm : m ≤ 1000000) (w : World) (hw : n₀ ≤ w.heap.size) (hg : g < n₀) (hBd : Bd < n₀)
    (hb : w.cell? ⟨Bd, 0, none⟩ = some (.pointer (some ⟨g, 0, none⟩))) (hc : w.cell? ⟨g, 4, none⟩ = some (.slice A m cp)) :
    SeqStopsK F n Try.prog 87 #[.pointer (some ⟨Bd, 0, none⟩)] (fun x : Nat => #[.pointer (some ⟨rp, (m - 1 - x) * 65, none⟩)]) (Below n₀) (fun ys => ys = List.range m) (fun pre => ∃ k, k ≤ m ∧ pre = List.range k) m w := fun l J Jx W hW _ _ hY h0 =>
  latest1_in F n h1 hro hn l Bd n₀ g m cp A rp hA hm hg hBd J Jx hY W ((hW.cell (p := ⟨Bd, 0, none⟩) (by show Bd < _; omega)).trans hb) ((hW.cell (p := ⟨g, 4, none⟩) (by show g < _; omega)).trans hc) h0
end Go.Proofs.Ytajeohmmobgcjaa
