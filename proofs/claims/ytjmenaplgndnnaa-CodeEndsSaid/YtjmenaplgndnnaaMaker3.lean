/- The walks of code.Maker: what was put is told. -/
import Derived.Test.YtjmenaplgndnnaaMaker2
namespace Go.Proofs.Ytjmenaplgndnnaa
open Go.RowKit
theorem bv_src {w : World} {B : Nat} {A : Option Addr} {l : List UInt8} {cap : Nat} (h : BytesAt w B (.slice A l.length cap) l) (hn : A = none → cap = 0) : Src w A l.length cap (bv l) := by
  obtain ⟨A', cap', hv, hc, hA⟩ := h
  injection hv with e1 e2 e3
  subst e1 e3
  refine ⟨bvL l, fun h => ?_, bv1 l, fun ad had j u hu => ?_⟩
  · have := hn h
    exact ⟨by omega, this⟩
  · have hj : j < l.length := by
      have := (List.getElem?_eq_some_iff.1 hu).1
      simpa [bv] using this
    obtain ⟨b, off, h1, _, h3⟩ := hA (by omega)
    rw [h1] at had
    obtain rfl := Option.some.inj had
    have e : (⟨b, off, none⟩ : Addr).add j = ⟨b, off + j, none⟩ := by unfold Addr.add; split <;> simp_all
    rw [e, h3 j hj]
    have e2 : (bv l)[j]? = some (.int .u8 ((l.getD j 0).toNat : Int)) := by simp [bv, List.getD, hj]
    rw [e2] at hu
    exact hu
/-- a row that one owns reads as its bytes -/
theorem bytesAt_owned {w : World} {base : Nat} {v : Value} {l : List UInt8} (h : w.ownsRow base 5 1 v l.length (bv l)) : BytesAt w w.heap.size v l := by
  rcases owned_form h with ⟨rfl, h0, _⟩ | ⟨g, cap, cur, rfl, _, hc, _, hb, _, ht, hlt⟩
  · exact ⟨none, 0, by rw [h0], by omega, fun h => by omega⟩
  · refine ⟨_, cap, rfl, hc, fun _ => ⟨g, 0, rfl, hlt, fun j hj => ?_⟩⟩
    rw [Nat.zero_add, hb.cell]
    have h1 : cur.toList[j]? = (bv l)[j]? := by
      rw [← ht, List.getElem?_take_of_lt hj]
    rw [← Array.getElem?_toList, h1]
    simp [bv, List.getD, hj]
theorem owned_new (w : World) (e : TypeId) : (w.alloc (.cells #[] e)).ownsRow w.heap.size e 1 (.slice (some ⟨w.heap.size, 0, none⟩) 0 0) 0 [] :=
  ⟨rfl, .inr ⟨w.heap.size, 0, #[], rfl, Nat.le_refl _, Blk.new w e #[], Nat.le_refl _, Nat.zero_le _, rfl, rfl⟩⟩
set_option maxRecDepth 100000 in
set_option maxHeartbeats 400000 in
theorem clone_nil (w : World) : Calls Try.prog 44 #[.slice none 0 0] w fun e w' => e = .returned (.slice none 0 0) ∧ w = w' := by
  have hq := fun (w : World) (a : Option Addr) (n c : Nat) => Lib.run_eql_slice_nil (P := Try.prog) w 26 5 a n c 0 0 Try.underlying26
  go_enter Try.func44, Try.ntmps44
  go_wp2
  go_ret
  exact ⟨rfl, rfl⟩
set_option maxRecDepth 100000 in
set_option maxHeartbeats 400000 in
theorem clone_some (l : List UInt8) (hl : l.length ≤ 1099511627776) (ad : Addr) (cap : Nat) (w : World) (hs : Src w (some ad) l.length cap (bv l)) :
    Calls Try.prog 44 #[.slice (some ad) l.length cap] w fun e w' => ∃ v', e = .returned v' ∧ w'.ownsRow w.heap.size 5 1 v' l.length (bv l) ∧ Below w.heap.size w w' := by
  obtain ⟨i, hi, hz0, hz1, hz2⟩ := info_parts info_u8
  have HS := hide hs
  clear hs
  have hq := fun (w : World) (a : Option Addr) (n c : Nat) => Lib.run_eql_slice_nil (P := Try.prog) w 26 5 a n c 0 0 Try.underlying26
  go_enter Try.func44, Try.ntmps44
  have hown := owned_new w 5
  have HO := hide hown
  clear hown
  go_wp2_with (at_builtin; (refine wpList_app rfl _ _ 26 rfl w.heap.size 5 i (.int .u8 0) 1 Try.underlying26 hi hz0 hz1 hz2 rfl _ 0 [] HO.out (some ad) l.length cap (bv l) ?h0 ?h1 ?h2 ?h3 rfl rfl ?_))
  case h0 => exact HS.out.alloc _
  case h1 => simp only [maxLen]; omega
  case h2 => omega
  case h3 => rw [size_alloc]; omega
  intro v' w1 own1 gr1 _ _
  go_wp2_with fail
  go_ret
  refine ⟨v', rfl, by simpa using own1, ((Below.refl _ _).alloc (Nat.le_refl _) _).grown gr1 (by rw [size_alloc]; omega) ?_⟩
  intro k hk
  injection hk with hk
  change w.heap.size = k at hk
  omega
/-- a copy of bytes that can be read -/
theorem clone_any (l : List UInt8) (hl : l.length ≤ 1099511627776) (A : Option Addr) (n cap : Nat) (B : Nat) (w : World) (hv : BytesAt w B (.slice A n cap) l) (hnil : A = none → cap = 0) :
    Calls Try.prog 44 #[.slice A n cap] w fun e w' => ∃ v', e = .returned v' ∧ w'.ownsRow w.heap.size 5 1 v' l.length (bv l) ∧ Below w.heap.size w w' := by
  have hnl : n = l.length := by obtain ⟨_, _, h, _⟩ := hv; injection h
  subst hnl
  cases A with
  | none =>
    obtain rfl := hnil rfl
    have h0 : l = [] := by
      obtain ⟨A', c', h, hc, _⟩ := hv
      injection h with _ _ h
      exact List.eq_nil_of_length_eq_zero (by omega)
    subst h0
    exact (clone_nil w).mono fun e w' ⟨he, hw⟩ => by
      subst hw
      exact ⟨_, he, ⟨rfl, .inl ⟨rfl, rfl⟩⟩, Below.refl _ _⟩
  | some ad => exact clone_some l hl ad cap w (bv_src hv (by simp))
set_option maxRecDepth 100000 in
set_option maxHeartbeats 400000 in
theorem done_bad (l : List UInt8) (base g T : Nat) (v : Value) (w : World) (hm : MkAt w base g T l true v) :
    Calls Try.prog 17 #[.pointer (some ⟨g, 0, none⟩)] w fun e w' => e = .returned (.tuple #[.slice none 0 0, .int .i64 2]) ∧ w = w' := by
  have c1 := hm.blk.cell 1
  simp only [List.getElem?_toArray, List.getElem?_cons_succ, List.getElem?_cons_zero] at c1
  have hlt := hm.blk.lt
  clear hm
  go_enter Try.func17, Try.ntmps17
  go_wp2
  go_ret2
  exact ⟨rfl, rfl⟩
set_option maxRecDepth 100000 in
set_option maxHeartbeats 400000 in
theorem done_ok (l : List UInt8) (hl : l.length ≤ 1099511627776) (base g T : Nat) (v : Value) (w : World) (hm : MkAt w base g T l false v) :
    Calls Try.prog 17 #[.pointer (some ⟨g, 0, none⟩)] w fun e w' => ∃ v', e = .returned (.tuple #[v', .int .i64 0]) ∧ w'.ownsRow w.heap.size 5 1 v' l.length (bv l) ∧ Below w.heap.size w w' := by
  obtain ⟨A, cap, rfl⟩ := owned_slice hm.own
  have hA : A = none → cap = 0 := by
    intro h
    rcases owned_form hm.own with ⟨h2, _⟩ | ⟨_, _, _, h2, _⟩
    · injection h2
    · injection h2 with h2; rw [h] at h2; cases h2
  have c0 := hm.blk.cell 0
  have c1 := hm.blk.cell 1
  simp only [List.getElem?_toArray, List.getElem?_cons_succ, List.getElem?_cons_zero] at c0 c1
  have hlt := hm.blk.lt
  have HB := hide (bytesAt_owned hm.own)
  have HA := hide hA
  clear hm hA
  go_enter Try.func17, Try.ntmps17
  go_wp2_with (go_at_call 44; refine (clone_any l hl A l.length cap w.heap.size _ HB.out HA.out).mono ?_; rintro e w1 ⟨v1, rfl, own1, hb1⟩)
  go_ret2
  exact ⟨v1, rfl, own1, hb1⟩
end Go.Proofs.Ytjmenaplgndnnaa
