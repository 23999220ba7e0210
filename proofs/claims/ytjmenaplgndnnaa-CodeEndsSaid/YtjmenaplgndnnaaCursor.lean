/- The walks of code.Cursor: how long a number is; a cursor breaks; a number is got. -/
import Derived.Test.YtjmenaplgndnnaaMaker3
import Derived.Test.YtjmenaplgndnnaaCur
import Derived.Deep.DeepCutAuto
import Derived.Deep.CutBlock
import Derived.Deep.QuietTactic
import Derived.BigQuiet
namespace Go.Proofs.Ytjmenaplgndnnaa
open Go.RowKit
set_option maxRecDepth 100000 in
set_option maxHeartbeats 400000 in
theorem clength_any (n : Nat) (hn : n < 18446744073709551616) (w : World) : Calls Try.prog 61 #[.int .u64 (n : Int)] w fun e w' => e = .returned (.int .i64 ((num n).length : Int)) ∧ w = w' := by
  have hN := num_len n hn
  go_enter Try.func61, Try.ntmps61
  go_wp2_with fail
  go_loop [0, 3] (fun s c => ∃ (m j : Nat), s = .int .u64 (m : Int) ∧ m < 18446744073709551616 ∧ c = .int .i64 ((j : Int) + 1) ∧ j + (num m).length = (num n).length) (fun s _ => (intOf s).toNat)
  case atStart => exact ⟨n, 0, rfl, hn, rfl, by omega⟩
  case round =>
    obtain ⟨m, j, rfl, hm, rfl, hj⟩ := hrel
    have hp := num_pos m
    have hj2 : (j : Int) ≤ 10 := by omega
    have HJ := hide hj
    clear hj
    by_cases hge : 128 ≤ m
    · go_wp2_with fail
      go_round
      case rel =>
        have h := HJ.out
        rw [num_hi (n := m) (by omega), List.length_cons] at h
        exact ⟨m / 128, j + 1, by go_num, by omega, by go_num, by omega⟩
      case measure => simp [intOf]; omega
    · go_wp2_with fail
      go_ret
      have h := HJ.out
      rw [num_lo (n := m) (by omega)] at h
      simp only [List.length_cons, List.length_nil] at h
      exact ⟨ret_int (by omega), rfl⟩
/-- a cursor's block, what is left lies in block rb -/
structure CuAt (w : World) (g T rb : Nat) (c : Cu) (A : Option Addr) (cap : Nat) : Prop where
  blk : Blk w g T #[.slice A c.rest.length cap, .int .i64 (c.wrong : Int)]
  fits : c.rest.length ≤ cap
  nil : A = none → cap = 0
  ne : rb ≠ g
  rd : 0 < c.rest.length → ∃ off, A = some ⟨rb, off, none⟩ ∧ rb < w.heap.size ∧ ∀ j, j < c.rest.length → w.cell? ⟨rb, off + j, none⟩ = some (.int .u8 ((c.rest.getD j 0).toNat : Int))
theorem CuAt.rest {w : World} {g T rb : Nat} {c : Cu} {A : Option Addr} {cap : Nat} (h : CuAt w g T rb c A cap) : BytesAt w w.heap.size (.slice A c.rest.length cap) c.rest :=
  ⟨A, cap, rfl, h.fits, fun h0 => by obtain ⟨off, h1, h2, h3⟩ := h.rd h0; exact ⟨rb, off, h1, h2, h3⟩⟩
theorem CuAt.turned {w w' : World} {S : Nat → Prop} {g T rb : Nat} {c : Cu} {A : Option Addr} {cap : Nat} (h : CuAt w g T rb c A cap) (ht : Turned S w w') (hg : ¬ S g) (hr : 0 < c.rest.length → ¬ S rb) : CuAt w' g T rb c A cap :=
  ⟨h.blk.turned ht hg, h.fits, h.nil, h.ne, fun h0 => by
    obtain ⟨off, h1, h2, h3⟩ := h.rd h0
    exact ⟨off, h1, Nat.lt_of_lt_of_le h2 ht.size, fun j hj => (World.cell?_of_block (ht.block rb h2 (hr h0))).trans (h3 j hj)⟩⟩
theorem CuAt.below {w w' : World} {g T rb : Nat} {c : Cu} {A : Option Addr} {cap : Nat} (h : CuAt w g T rb c A cap) (hb : Below w.heap.size w w') : CuAt w' g T rb c A cap := h.turned (Turned.of_below hb (fun _ => False)) (fun h => h) (fun _ h => h)
set_option maxRecDepth 100000 in
set_option maxHeartbeats 400000 in
theorem cfail_any (e0 : Int) (he : e0 = 3 ∨ e0 = 4) (c : Cu) (g T rb : Nat) (A : Option Addr) (cap : Nat) (w : World) (h : CuAt w g T rb c A cap) :
    Calls Try.prog 62 #[.pointer (some ⟨g, 0, none⟩), .int .i64 e0] w fun e w' => e = .returned (.tuple #[]) ∧ CuAt w' g T rb (c.fail e0.toNat) none 0 ∧ Turned (· = g) w w' := by
  have hb := h.blk
  have hne0 := h.ne
  have c0 := hb.cell 0
  have c1 := hb.cell 1
  have f0 := hb.frozen 0
  have f1 := hb.frozen 1
  simp only [List.getElem?_toArray, List.getElem?_cons_succ, List.getElem?_cons_zero] at c0 c1
  have hlt := hb.lt
  have HB := hide hb
  clear h hb
  obtain ⟨z, hz⟩ : ∃ z : Int, z = (c.wrong : Int) := ⟨_, rfl⟩
  rw [← hz] at c1
  have hz0 : 0 ≤ z := by omega
  have HZ := hide hz
  have HE := hide he
  clear hz he
  have fin : ∀ w', Blk w' g T #[.slice none 0 0, .int .i64 ((c.fail e0.toNat).wrong : Int)] → CuAt w' g T rb (c.fail e0.toNat) none 0 := fun w' hw => ⟨hw, Nat.le_refl _, fun _ => rfl, hne0, fun h => absurd h (by simp [Cu.fail])⟩
  have HF := hide fin
  clear fin
  by_cases h0 : z = 0
  · subst h0
    go_enter Try.func62, Try.ntmps62
    go_wp2
    go_end0
    refine ⟨rfl, HF.out _ ?_, (((Turned.refl (fun k => k = g) w).setCell (fun _ => rfl) _).setCell (fun _ => rfl) _)⟩
    have hw : c.wrong = 0 := by have := HZ.out; omega
    have h2 := (HB.out.set_ 1 (.int .i64 e0)).set_ 0 (.slice none 0 0)
    have e2 : ((c.fail e0.toNat).wrong : Int) = e0 := by
      simp only [Cu.fail, hw, if_true]
      rcases HE.out with h | h <;> rw [h] <;> rfl
    rw [e2]
    exact h2
  · have hne : (z == 0) = false := by simp [h0]
    go_enter Try.func62, Try.ntmps62
    go_wp2
    go_end0
    refine ⟨rfl, HF.out _ ?_, ((Turned.refl (fun k => k = g) w).setCell (fun _ => rfl) _)⟩
    have hw : ¬ c.wrong = 0 := by have := HZ.out; omega
    have h2 := HB.out.set_ 0 (.slice none 0 0)
    have e2 : ((c.fail e0.toNat).wrong : Int) = (c.wrong : Int) := by simp only [Cu.fail, if_neg hw]
    rw [e2]
    exact h2
end Go.Proofs.Ytjmenaplgndnnaa
