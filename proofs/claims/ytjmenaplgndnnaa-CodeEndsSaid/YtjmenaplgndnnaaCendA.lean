/- spencelaw01.CodeEnds: what it makes; no maker, no cursor. -/
import Derived.Test.YtjmenaplgndnnaaGets
import Derived.Test.YtjmenaplgndnnaaMakes
namespace Go.Proofs.Ytjmenaplgndnnaa
open Go Go.RowKit
theorem bytes_mono0 {w : World} {B B' : Nat} {v : Value} {l : List UInt8} (h : BytesAt w B v l) (hB : B ≤ B') : BytesAt w B' v l := by
  obtain ⟨A, cap, hv, hc, hA⟩ := h
  exact ⟨A, cap, hv, hc, fun h0 => by obtain ⟨b, off, h1, h2, h3⟩ := hA h0; exact ⟨b, off, h1, by omega, h3⟩⟩
theorem flat4 : ∀ (L : List (List Value)), (∀ x ∈ L, x.length = 4) → ∀ j i, i < 4 → L.flatten[j * 4 + i]? = (L[j]?).bind (·[i]?)
  | [], _, j, i, _ => by simp
  | x :: L, h, j, i, hi => by
    have hx := h x (by simp)
    cases j with
    | zero => rw [List.flatten_cons, Nat.zero_mul, Nat.zero_add, List.getElem?_append_left (by omega)]; rfl
    | succ j =>
      rw [List.flatten_cons, List.getElem?_append_right (by omega), show (j + 1) * 4 + i - x.length = j * 4 + i by omega, flat4 L (fun y hy => h y (by simp [hy])) j i hi]
      rfl
/-- a part's four cells, as values -/
def pc (p : Part × Value) : List Value := [.int .i64 p.1.what, .int .i64 p.1.n, .int .i64 p.1.most, p.2]
structure PV (w : World) (p : Part × Value) : Prop where
  v : ∃ A c, p.2 = .slice A p.1.b.length c ∧ BytesAt w w.heap.size p.2 p.1.b ∧ (A = none → c = 0)
  k0 : i64 p.1.what
  k1 : i64 p.1.n
  k2 : i64 p.1.most
theorem parts_new (w : World) (ps : List (Part × Value)) (h : ∀ p ∈ ps, PV w p) (cells : Array Value) (hc : cells = (ps.map pc).flatten.toArray) (n : Nat) (hn : n = ps.length) :
    PartsM (w.alloc (.cells cells 36)) (w.alloc (.cells cells 36)).heap.size (.slice (some ⟨w.heap.size, 0, none⟩) n n) (ps.map (·.1)) := by
  subst hn
  have hb := Blk.new w 36 cells
  have hal : Below w.heap.size w (w.alloc (.cells cells 36)) := (Below.refl _ _).alloc (Nat.le_refl _) _
  refine ⟨_, ps.length, by rw [List.length_map], by rw [List.length_map]; exact Nat.le_refl _, fun _ => ⟨w.heap.size, 0, rfl, hb.lt, fun j hj => ?_⟩⟩
  rw [List.length_map] at hj
  obtain ⟨p, hp⟩ : ∃ p, ps[j]? = some p := ⟨_, List.getElem?_eq_getElem hj⟩
  have hpm := h p (List.mem_of_getElem? hp)
  have hgd : (ps.map (·.1)).getD j ⟨0, 0, 0, []⟩ = p.1 := by simp [List.getD, hp]
  rw [hgd]
  have hcell : ∀ i, i < 4 → (w.alloc (.cells cells 36)).cell? ⟨w.heap.size, 0 + j * 4 + i, none⟩ = (pc p)[i]? := fun i hi => by
    rw [hb.cell, hc, List.getElem?_toArray, Nat.zero_add, flat4 _ (by intro x hx; obtain ⟨y, _, rfl⟩ := List.mem_map.1 hx; rfl) j i hi, List.getElem?_map, hp]
    rfl
  obtain ⟨A, c, hv, hby, hn⟩ := hpm.v
  have hby2 := hby.alike (alike_of_below hal)
  rw [hv] at hby2
  refine ⟨hcell 0 (by omega), hcell 1 (by omega), hcell 2 (by omega), ⟨A, c, ?_, bytes_mono0 hby2 hal.size, hn⟩, hpm.k0, hpm.k1, hpm.k2⟩
  rw [← hv]
  exact hcell 3 (by omega)
theorem makes_new (w : World) (ps : List (Part × Value)) (h : ∀ p ∈ ps, PV w p) (hsm : ps.length + many (ps.map (·.1)) ≤ 4000) (cells : Array Value) (hc : cells = (ps.map pc).flatten.toArray) (n : Nat) (hn : n = ps.length) :
    Calls Try.prog 3 #[.slice (some ⟨w.heap.size, 0, none⟩) n n] (w.alloc (.cells cells 36)) fun e w' => e = .returned (.bool true) ∧ Below w.heap.size w w' := by
  have hal : Below w.heap.size w (w.alloc (.cells cells 36)) := (Below.refl _ _).alloc (Nat.le_refl _) _
  exact (codeMakes_small _ (by rw [List.length_map]; exact hsm) _ _ _ (Nat.le_refl _) (parts_new w ps h cells hc n hn)).mono fun e w' ⟨h1, h2⟩ => ⟨h1, hal.trans (h2.mono hal.size)⟩
theorem gets_new (w : World) (l : List UInt8) (A : Option Addr) (cap m : Nat) (hm : m = l.length) (hby : BytesAt w w.heap.size (.slice A m cap) l) (hnil : A = none → cap = 0) (ps : List (Part × Value)) (h : ∀ p ∈ ps, PV w p) (hsm : ps.length + many (ps.map (·.1)) + l.length ≤ 4000) (cells : Array Value) (hc : cells = (ps.map pc).flatten.toArray) (n : Nat) (hn : n = ps.length) :
    Calls Try.prog 23 #[.slice A m cap, .slice (some ⟨w.heap.size, 0, none⟩) n n] (w.alloc (.cells cells 36)) fun e w' => e = .returned (.bool true) ∧ Below w.heap.size w w' := by
  subst hm
  have hal : Below w.heap.size w (w.alloc (.cells cells 36)) := (Below.refl _ _).alloc (Nat.le_refl _) _
  exact (codeGets_small l A cap hnil _ (by rw [List.length_map]; exact hsm) _ _ _ (Nat.le_refl _) (parts_new w ps h cells hc n hn) (bytes_mono0 (hby.alike (alike_of_below hal)) hal.size)).mono fun e w' ⟨h1, h2⟩ => ⟨h1, hal.trans (h2.mono hal.size)⟩
theorem pv_nil (w : World) (a b c : Int) (ha : i64 a) (hb : i64 b) (hc : i64 c) : PV w (⟨a, b, c, []⟩, .slice none 0 0) := ⟨⟨none, 0, rfl, bytes_none0 _ _, fun _ => rfl⟩, ha, hb, hc⟩
theorem i64_lit (a : Int) (h : -9223372036854775808 ≤ a ∧ a ≤ 9223372036854775807) : i64 a := h
section
set_option maxRecDepth 100000
theorem mnum_nil (A : Option Addr) (n c : Nat) (w : World) : Calls Try.prog 11 #[.pointer none, .slice A n c] w fun e w' => e = .returned (.pointer none) ∧ w' = w := by
  go_enter Try.func11, Try.ntmps11
  go_wp2
  go_ret
  exact ⟨rfl, rfl⟩
theorem mraw_nil (A : Option Addr) (n c : Nat) (w : World) : Calls Try.prog 13 #[.pointer none, .slice A n c] w fun e w' => e = .returned (.pointer none) ∧ w' = w := by
  go_enter Try.func13, Try.ntmps13
  go_wp2
  go_ret
  exact ⟨rfl, rfl⟩
theorem done_nil (w : World) : Calls Try.prog 17 #[.pointer none] w fun e w' => e = .returned (.tuple #[.slice none 0 0, .int .i64 1]) ∧ w' = w := by
  go_enter Try.func17, Try.ntmps17
  go_wp2
  go_ret2
  exact ⟨rfl, rfl⟩
theorem mtext_nil (q : Nat) (u : Value) (w : World) (hc : w.cell? ⟨q, 0, none⟩ = some u) : Calls Try.prog 15 #[.pointer none, .slice (some ⟨q, 0, none⟩) 1 1] w fun e w' => e = .returned (.pointer none) ∧ w' = w := by
  go_enter Try.func15, Try.ntmps15
  go_wp2_with fail
  go_loopw [9] (fun i wr => ∃ k : Nat, k ≤ 1 ∧ i = .int .i64 (k : Int) ∧ w = wr) (fun i _ => (1 - intOf i).toNat)
  case atStart => exact ⟨0, by omega, rfl, rfl⟩
  case round =>
    obtain ⟨k, hk, rfl, rfl⟩ := hrel
    by_cases h0 : k = 0
    · subst h0
      go_wp2_with fail
      go_roundw
      case rel => exact ⟨1, by omega, by go_num, trivial⟩
      case measure => simp [intOf]
    · obtain rfl : k = 1 := by omega
      go_wp2_with fail
      go_ret
      exact ⟨rfl, rfl⟩
theorem cnum_nil (n : Int) (w : World) : Calls Try.prog 39 #[.pointer none, .int .i64 n] w fun e w' => e = .returned (.int .i64 0) ∧ w' = w := by
  go_enter Try.func39, Try.ntmps39
  go_wp2_with fail
  go_step3
  go_wp2_with fail
  simp only [Exit.noGoto]
  go_ret
  exact ⟨rfl, rfl⟩
theorem craw_nil (n : Int) (w : World) : Calls Try.prog 48 #[.pointer none, .int .i64 n] w fun e w' => e = .returned (.slice none 0 0) ∧ w' = w := by
  go_enter Try.func48, Try.ntmps48
  go_wp2
  go_ret
  exact ⟨rfl, rfl⟩
theorem ctext_nil (n : Int) (w : World) : Calls Try.prog 51 #[.pointer none, .int .i64 n] w fun e w' => e = .returned (.slice none 0 0) ∧ w' = w := by
  go_enter Try.func51, Try.ntmps51
  go_wp2_with (go_at_call 39; refine (cnum_nil _ _).mono ?_; rintro e w' ⟨rfl, rfl⟩)
  go_ret
  exact ⟨rfl, rfl⟩
theorem cleft_nil (w : World) : Calls Try.prog 53 #[.pointer none] w fun e w' => e = .returned (.int .i64 0) ∧ w' = w := by
  go_enter Try.func53, Try.ntmps53
  go_wp2
  go_ret
  exact ⟨rfl, rfl⟩
theorem cend_nil (w : World) : Calls Try.prog 40 #[.pointer none] w fun e w' => e = .returned (.int .i64 1) ∧ w' = w := by
  go_enter Try.func40, Try.ntmps40
  go_wp2
  go_ret
  exact ⟨rfl, rfl⟩
end
end Go.Proofs.Ytjmenaplgndnnaa
