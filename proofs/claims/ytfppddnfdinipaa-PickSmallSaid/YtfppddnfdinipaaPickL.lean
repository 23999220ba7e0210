/- package pick: rows of numbers: slices.Clone. -/
import Derived.Test.YtfppddnfdinipaaPickK
import Derived.Test.YtfppddnfdinipaaApp
import Derived.Lib.Builder
namespace Go.Proofs.Ytfppddnfdinipaa
open Go Go.RowKit
theorem info_intI : (Try.prog.info? 3).map (fun i => (i.zero, i.size, i.bytes)) = some (some (.int .i64 0), 1, 8) := by kernel_rfl
def iv (l : List Nat) : List Value := l.map fun k => .int .i64 ((k : Nat) : Int)
theorem iv_len (l : List Nat) : (iv l).length = l.length := by simp [iv]
theorem iv_one (l : List Nat) : ∀ x ∈ iv l, x.oneCell' = true := by
  intro x hx
  obtain ⟨k, _, rfl⟩ := List.mem_map.1 hx
  rfl
theorem iv_app (a b : List Nat) : iv (a ++ b) = iv a ++ iv b := by simp [iv]
/-- a row of numbers of one's own -/
def OwnI (N : Nat) (w : World) (v : Value) (l : List Nat) : Prop := w.ownsRow N 3 1 v l.length (iv l)
theorem OwnI.nil (N : Nat) (w : World) : OwnI N w (.slice none 0 0) [] := World.ownsRow_nil _ _ _ _
theorem OwnI.src {N : Nat} {w : World} {A : Option Addr} {cap : Nat} {l : List Nat} (h : OwnI N w (.slice A l.length cap) l) : Src w A l.length cap (iv l) := by
  rcases owned_formN h with ⟨e, h0, h1⟩ | ⟨g, c, cur, e, _, _, _, hb, hs, ht, _⟩
  · injection e with e1 _ e3
    subst e1 e3
    exact ⟨iv_len l, fun _ => ⟨h0, rfl⟩, iv_one l, (fun ad h => by cases h)⟩
  · injection e with e1 _ e3
    subst e1 e3
    refine ⟨iv_len l, (fun h => by cases h), iv_one l, fun ad had j u hu => ?_⟩
    injection had with had
    subst had
    rw [Addr.add_mid, Nat.zero_add, hb.cell, ← Array.getElem?_toList]
    have hj : j < l.length := by
      have := (List.getElem?_eq_some_iff.1 hu).1
      rwa [iv_len] at this
    rw [← ht, List.getElem?_take_of_lt (by omega)] at hu
    exact hu
set_option maxRecDepth 100000 in
set_option maxHeartbeats 400000 in
theorem cloneI_any (l : List Nat) (hl : l.length ≤ 1000000) (N : Nat) (v : Value) (w : World) (hv : OwnI N w v l) :
    Calls Try.prog 140 #[v] w fun e w' => ∃ v', e = .returned v' ∧ OwnI w.heap.size w' v' l ∧ Below w.heap.size w w' := by
  obtain ⟨i, hi, hz0, hz1, hz2⟩ := info_parts info_intI
  have hq := fun (w : World) (a : Option Addr) (n c : Nat) => Lib.run_eql_slice_nil (P := Try.prog) w 33 3 a n c 0 0 Try.underlying33
  rcases owned_formN hv with ⟨rfl, h0, h1⟩ | ⟨g, cap, cur, rfl, _⟩
  · obtain rfl : l = [] := List.eq_nil_of_length_eq_zero h0
    go_enter Try.func140, Try.ntmps140
    go_wp2_with fail
    go_ret
    exact ⟨_, rfl, OwnI.nil _ _, Below.refl _ _⟩
  · have hs := hv.src
    have HS := hide hs
    clear hs hv
    go_enter Try.func140, Try.ntmps140
    have hown := owned_new w 3
    have HO := hide hown
    clear hown
    go_wp2_with (at_builtin; (refine wpList_app rfl _ _ 33 rfl w.heap.size 3 i (.int .i64 0) 8 Try.underlying33 hi hz0 hz1 hz2 rfl _ 0 [] HO.out (some ⟨g, 0, none⟩) l.length cap (iv l) ?h0 ?h1 ?h2 ?h3 rfl rfl ?_))
    case h0 => exact HS.out.alloc _
    case h1 => simp only [maxLen]; omega
    case h2 => omega
    case h3 => rw [size_alloc]; omega
    intro v' w1 own1 gr1 _ _
    go_wp2_with fail
    go_ret
    refine ⟨v', rfl, by unfold OwnI; simpa using own1, ((Below.refl _ _).alloc (Nat.le_refl _) _).grown gr1 (by rw [size_alloc]; omega) ?_⟩
    intro k hk
    injection hk with hk
    change w.heap.size = k at hk
    omega
end Go.Proofs.Ytfppddnfdinipaa
