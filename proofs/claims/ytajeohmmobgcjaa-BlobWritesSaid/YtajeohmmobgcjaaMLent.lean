/- spencekit: lists that are lent, with marks behind them. -/
import Derived.Test.YtajeohmmobgcjaaMBytes
import Derived.Test.YtajeohmmobgcjaaMFreshTail
import Derived.Test.YtajeohmmobgcjaaMBase
import Derived.OwnWalk
import Derived.Laws.AppendOwnNone
namespace Go.Proofs.Ytajeohmmobgcjaa
open Go.RowKit
/-- the mark of a place in a list of bytes -/
def mk (k i : Nat) : UInt8 := UInt8.ofNat ((1000003 * (k + 7) + i) * 11400714819323198485 % 18446744073709551616 / 72057594037927936)
theorem wrap_u64 (n : Nat) : IntKind.u64.wrap (n : Int) = ((n % 18446744073709551616 : Nat) : Int) := by simp [IntKind.wrap, IntKind.signed, IntKind.bits]
theorem mark_val (m : Nat) : IntKind.u64.wrap (IntKind.u64.wrap (m : Int) * 11400714819323198485) / 72057594037927936 % 256 = ((UInt8.ofNat (m * 11400714819323198485 % 18446744073709551616 / 72057594037927936)).toNat : Int) := by
  have h1 : ((m % 18446744073709551616 : Nat) : Int) * 11400714819323198485 = ((m % 18446744073709551616 * 11400714819323198485 : Nat) : Int) := by omega
  rw [wrap_u64, h1, wrap_u64]
  have h2 : ((m % 18446744073709551616 * 11400714819323198485 % 18446744073709551616 : Nat) : Int) / 72057594037927936 = ((m % 18446744073709551616 * 11400714819323198485 % 18446744073709551616 / 72057594037927936 : Nat) : Int) := by omega
  rw [h2, UInt8.toNat_ofNat', Nat.mod_mul_mod]
  rfl
set_option maxHeartbeats 400000 in
theorem mark_any (k i : Int) (hk : 0 ≤ k ∧ k ≤ 1000000000) (hi : 0 ≤ i ∧ i ≤ 1000000000) (w : World) : Calls Try.prog 85 #[.int .i64 k, .int .i64 i] w fun e w' => e = .returned (.int .i64 (1000003 * (k + 7) + i)) ∧ w' = w := by
  go_enter Try.func85, Try.ntmps85
  go_wp2
  go_ret
  exact ⟨rfl, rfl⟩
set_option maxRecDepth 100000 in
set_option maxHeartbeats 400000 in
theorem markByte_any (k i : Nat) (hk : k ≤ 1000000000) (hi : i ≤ 1000000000) (w : World) : Calls Try.prog 75 #[.int .i64 (k : Int), .int .i64 (i : Int)] w fun e w' => e = .returned (.int .u8 ((mk k i).toNat : Int)) ∧ w' = w := by
  go_enter Try.func75, Try.ntmps75
  go_wp2_with fail
  refine (mark_any (k : Int) (i : Int) (by omega) (by omega) _).mono ?_
  rintro e w' ⟨rfl, rfl⟩
  obtain ⟨m, hm⟩ : ∃ m : Nat, (m : Int) = 1000003 * ((k : Int) + 7) + i := ⟨1000003 * (k + 7) + i, by omega⟩
  rw [← hm]
  have hm2 : m = 1000003 * (k + 7) + i := by omega
  have HM := hide hm2
  clear hm hm2
  dsimp only
  repeat go_step
  go_ret
  refine ⟨ret_int ?_, rfl⟩
  rw [mark_val m, HM.out, mk]

def marks : List UInt8 := (List.range 12).map (mk 1)
theorem marks_take (i : Nat) (h : i < 12) : marks.take (i + 1) = marks.take i ++ [mk 1 i] := by
  rw [List.take_add_one, marks, List.getElem?_map, List.getElem?_range h]; rfl
theorem info5 : (Try.prog.info? 5).map (fun i => (i.zero, i.size, i.bytes)) = some (some (.int .u8 0), 1, 1) := by kernel_rfl
theorem bv_append (a b : List UInt8) : bv (a ++ b) = bv a ++ bv b := by simp [bv]
theorem bv_length (a : List UInt8) : (bv a).length = a.length := by simp [bv]
theorem bv_oneCell (a : List UInt8) : ∀ u ∈ bv a, u.oneCell' = true := by
  intro u hu
  obtain ⟨_, _, rfl⟩ := List.mem_map.1 hu
  rfl
theorem owned_blk {w : World} {base g n : Nat} {e : TypeId} {xs : List Value} (h : w.ownsRow base e 1 (.slice (some ⟨g, 0, none⟩) n n) n xs) : Blk w g e xs.toArray := by
  obtain ⟨hl, h⟩ := h
  rcases h with ⟨h, _⟩ | ⟨g', cap, cur, h, _, hb, _, _, hs, ht⟩
  · cases h
  · injection h with e1 e2 e3
    injection e1 with e1
    injection e1 with e1
    subst e1 e3
    have : cur = xs.toArray := by
      rw [← ht, List.take_of_length_le (by simp; omega)]
    rw [← this]
    exact hb
/-- the cells of bytes, as a law on append asks them -/
theorem BytesAt.cells {w : World} {B : Nat} {A : Option Addr} {n cap : Nat} {l : List UInt8} (h : BytesAt w B (.slice A n cap) l) : n = l.length ∧ l.length ≤ cap ∧ ((A = none ∨ l = []) ∨ (0 < l.length ∧ ∃ b off, A = some ⟨b, off, none⟩ ∧ b < B)) ∧ ∀ ad, A = some ad → ∀ j u, (bv l)[j]? = some u → w.cell? (ad.add j) = some u := by
  obtain ⟨A', cap', hv, hc, hA⟩ := h
  injection hv with e1 e2 e3
  subst e1 e2 e3
  refine ⟨rfl, hc, ?_, fun ad had j u hu => ?_⟩
  · rcases Nat.eq_zero_or_pos l.length with h0 | h0
    · exact .inl (.inr (List.eq_nil_of_length_eq_zero h0))
    · obtain ⟨b, off, h1, h2, _⟩ := hA h0
      exact .inr ⟨h0, b, off, h1, h2⟩
  · have hj : j < l.length := by
      have := (List.getElem?_eq_some_iff.1 hu).1
      simpa [bv] using this
    obtain ⟨b, off, h1, _, h3⟩ := hA (by omega)
    rw [h1] at had
    obtain rfl := Option.some.inj had
    have e : (⟨b, off, none⟩ : Addr).add j = ⟨b, off + j, none⟩ := by unfold Addr.add; split <;> simp_all
    rw [e, h3 j hj]
    have e2 : (bv l)[j]? = some (.int .u8 ((l.getD j 0).toNat : Int)) := by simp [bv, List.getD, hj]
    rw [e2] at hu
    exact hu

set_option maxRecDepth 100000 in
set_option maxHeartbeats 1000000 in
theorem lentBytes_any (l : List UInt8) (hl : l.length ≤ 1000000) (A : Option Addr) (n cap : Nat) (B : Nat) (w : World) (hB : B ≤ w.heap.size) (hv : BytesAt w B (.slice A n cap) l) (hnil : A = none → n = 0 ∧ cap = 0) :
    Calls Try.prog 44 #[.slice A n cap] w fun e w' => ∃ g, e = .returned (.slice (some ⟨g, 0, none⟩) l.length (l.length + 12)) ∧ w.heap.size ≤ g ∧ Blk w' g 5 (bv (l ++ marks)).toArray ∧ Below w.heap.size w w' := by
  obtain ⟨rfl, hcap, _, hcells⟩ := hv.cells
  obtain ⟨i, hi, hz0, hz1, hz2⟩ := info_parts info5
  have HV := hide hv
  have HC := hide hcells
  clear hv hcells
  go_enter Try.func44, Try.ntmps44
  go_wp2_with (at_make; refine wpList_make_own _ rfl _ _ 48 rfl w.heap.size 5 i (.int .u8 0) 1 Try.underlying48 hi hz0 hz1 _ _ _ (l.length + 12) rfl rfl ?e0 ?e1 ?e2 ?e3 ?_)
  case e0 => omega
  case e1 => rw [hz2]; omega
  case e2 => simp only [maxLen]; omega
  case e3 => exact Nat.le_refl _
  intro w1 own1 gr1
  obtain ⟨g, hg⟩ : ∃ g, g = w.heap.size := ⟨_, rfl⟩
  rw [← hg] at own1 ⊢
  have hcells1 : ∀ ad, A = some ad → ∀ j u, (bv l)[j]? = some u → w1.cell? (ad.add j) = some u := by
    intro ad had
    have hv1 : BytesAt w1 B (.slice A l.length cap) l := HV.out.alike fun k hk => gr1.block k (by omega) (by simp)
    exact hv1.cells.2.2.2 ad had
  have HC1 := hide hcells1
  have HG := hide hg
  clear hcells1 hg
  go_wp2_with (at_builtin; (refine wpList_append_fits_any w1 rfl _ _ 48 rfl g 5 i 1 Try.underlying48 hi hz1 g 0 (l.length + 12) [] rfl own1 A l.length cap (bv l) rfl ?f0 ?f1 ?f2 ?f3 ?f4 ?_))
  case f0 => simp [bv]
  case f1 => exact hnil
  case f2 => exact HC1.out
  case f3 => exact bv_oneCell l
  case f4 => omega
  intro w2 own2 gr2
  have hg := HG.out
  have hb2 : Below w.heap.size w w2 := by
    have b1 : Below w.heap.size w w1 := (Below.refl _ _).grown gr1 (Nat.le_refl _) (by simp)
    exact b1.grown gr2 b1.size (by intro k hk; injection hk with hk; omega)
  have HO := hide (And.intro own2 hb2)
  clear own1 own2 gr1 gr2 hb2 hg
  go_wp2_with fail
  go_loopw [3, 4] (fun v3 v4 wr => ∃ j : Nat, j ≤ 12 ∧ v4 = .int .i64 (j : Int) ∧ v3 = .slice (some ⟨g, 0, none⟩) (l.length + j) (l.length + 12) ∧ wr.ownsRow g 5 1 v3 (l.length + j) (bv (l ++ marks.take j)) ∧ Below w.heap.size w wr) (fun _ v4 _ => (12 - intOf v4).toNat)
  case atStart => exact ⟨0, by omega, rfl, rfl, by simpa using HO.out.1, HO.out.2⟩
  case round =>
    obtain ⟨j, hj, rfl, rfl, own3, hb3⟩ := hrel
    by_cases h12 : j < 12
    · go_wp2_with fail
      refine (markByte_any 1 j (by omega) (by omega) _).mono ?_
      rintro e w3 ⟨rfl, rfl⟩
      dsimp only
      have own4 := own3.alloc (.cells #[.int .u8 ((mk 1 j).toNat : Int)] 5)
      obtain ⟨X, hX⟩ : ∃ X, X = w3.heap.size := ⟨_, rfl⟩
      have hbx := Blk.new w3 5 #[.int .u8 ((mk 1 j).toNat : Int)]
      rw [← hX] at hbx
      have hb4 : Below w.heap.size w (w3.alloc (.cells #[.int .u8 ((mk 1 j).toNat : Int)] 5)) := hb3.alloc hb3.size _
      have HX := hide hX
      have HBX := hide hbx
      clear own3 hb3 hbx
      go_wp2_with (at_builtin; (refine wpList_append_fits _ rfl _ _ 48 rfl g 5 i 1 Try.underlying48 hi hz1 g (l.length + j) (l.length + 12) (bv (l ++ marks.take j)) rfl own4 ⟨w3.heap.size, 0, none⟩ 1 1 [.int .u8 ((mk 1 j).toNat : Int)] rfl ?h0 ?h1 ?h2 ?h3 ?_))
      case h0 => rfl
      case h1 =>
        intro q u hu
        match q, hu with
        | 0, hu =>
          have h := HBX.out.cell 0
          rw [HX.out] at h
          rw [← hu]; exact h
      case h2 =>
        intro u hu
        simp only [List.mem_singleton] at hu
        rw [hu]; rfl
      case h3 => omega
      intro w5 own5 gr5
      have HO5 := hide (And.intro own5 (And.intro gr5 hb4))
      clear own5 gr5 hb4 own4
      go_wp2_with fail
      go_roundw
      case rel =>
        obtain ⟨own5, gr5, hb4⟩ := HO5.out
        have hg := HG.out
        refine ⟨j + 1, by omega, by go_num, rfl, ?_, hb4.grown gr5 hb4.size (by intro k hk; injection hk with hk; omega)⟩
        rw [marks_take j h12, ← List.append_assoc, bv_append]
        exact own5
      case measure => simp [intOf]; omega
    · obtain rfl : j = 12 := by omega
      go_wp2_with fail
      go_ret
      refine ⟨g, rfl, by have := HG.out; omega, ?_, hb3⟩
      have h := owned_blk own3
      rwa [show marks.take 12 = marks from rfl] at h
end Go.Proofs.Ytajeohmmobgcjaa
