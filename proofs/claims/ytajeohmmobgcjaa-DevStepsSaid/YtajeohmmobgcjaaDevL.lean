/- package dev: a device of one's own, deed by deed; the chapter's example. -/
import Derived.Test.YtajeohmmobgcjaaDevK
namespace Go.Proofs.Ytajeohmmobgcjaa
open Go Go.RowKit
/-- a device of one's own: it lies behind block R, what lies ahead of that is as it was -/
structure Mine (R : Nat) (w0 w : World) (F : Nat → Prop) (g : Nat) (D : Dv) : Prop where
  dev : DevAt w F g D
  bel : Below R w0 w
  low : ∀ k, F k → R ≤ k
section
variable {R g : Nat} {w0 w w' : World} {F : Nat → Prop} {D D' : Dv}
theorem Mine.left (h : Mine R w0 w F g D) (hR : R ≤ w0.heap.size) (hl : Left w F g D' w') : ∃ F', Mine R w0 w' F' g D' := by
  obtain ⟨F', h1, h2, h3⟩ := hl
  have hs := h.bel.size
  refine ⟨F', h1, ⟨h2.os.trans h.bel.os, h2.tape.trans h.bel.tape, h2.output.trans h.bel.output, Nat.le_trans hs h2.size, fun k hk => (h2.block k (by omega) (fun hf => by have := h.low k hf; omega)).trans (h.bel.block k hk)⟩, fun k hk => ?_⟩
  rcases h3 k hk with h3 | h3
  · exact h.low k h3
  · omega
theorem Mine.grow (h : Mine R w0 w F g D) (hR : R ≤ w0.heap.size) (hb : Below w.heap.size w w') : Mine R w0 w' F g D :=
  ⟨h.dev.keep fun k hk _ => hb.block k hk, h.bel.trans (Below.mono hb (by have := h.bel.size; omega)), h.low⟩
theorem Mine.new (h : Mine R w0 w F g D) {k : Nat} (hk : w.heap.size ≤ k) : ¬ F k := fun hf => by have := h.dev.lt k hf; omega
theorem mineNew (n : Nat) (hn : 1 ≤ n ∧ n ≤ 8192) (hb : Below R w0 w) (hR : R ≤ w0.heap.size) : Calls Try.prog 26 #[.int .i64 (n : Int)] w fun e w' => ∃ g F, e = .returned (.tuple #[.pointer (some ⟨g, 0, none⟩), .int .i64 0]) ∧ Mine R w0 w' F g (Dv.new n) := by
  refine (newDev_any n hn w).mono ?_
  rintro e w' ⟨g, F, rfl, h1, h2, h3⟩
  have hs := hb.size
  exact ⟨g, F, rfl, h1, hb.trans (Below.mono h2 (by omega)), fun k hk => by have := h3 k hk; omega⟩
theorem mineWrite (h : Mine R w0 w F g D) (hR : R ≤ w0.heap.size) (x : Int) (l : List UInt8) (A : Option Addr) (cap : Nat) (hde : D.de ≤ 1000000000) (hm : D.pend.length ≤ 100000) (hx : -9223372036854775808 ≤ x ∧ x ≤ 9223372036854775807) (hl : l.length ≤ 1000000000)
    (hs : Src w A l.length cap (bv l)) (hsb : ∀ ad, A = some ad → 0 < l.length → ¬ F ad.block) :
    Calls Try.prog 27 #[.pointer (some ⟨g, 0, none⟩), .int .i64 x, .slice A l.length cap] w fun e w' => e = .returned (.int .i64 (D.write x l).1) ∧ ∃ F', Mine R w0 w' F' g (D.write x l).2 :=
  (write_any x l A cap w h.dev hde hm hx hl hs hsb).mono fun _ _ ⟨h1, h2⟩ => ⟨h1, h.left hR h2⟩
theorem mineFlush (h : Mine R w0 w F g D) (hR : R ≤ w0.heap.size) (hde : D.de ≤ 1000000000) (hm : D.pend.length ≤ 100000) : Calls Try.prog 29 #[.pointer (some ⟨g, 0, none⟩)] w fun e w' => e = .returned (.int .i64 D.flush.1) ∧ ∃ F', Mine R w0 w' F' g D.flush.2 :=
  (flush_any w h.dev hde hm).mono fun _ _ ⟨h1, h2⟩ => ⟨h1, h.left hR h2⟩
theorem mineWake (h : Mine R w0 w F g D) (hR : R ≤ w0.heap.size) (x : Int) (hm : D.pend.length ≤ 100000) : Calls Try.prog 33 #[.pointer (some ⟨g, 0, none⟩), .int .i64 x] w fun e w' => e = .returned (.int .i64 (D.wake x).1) ∧ ∃ F', Mine R w0 w' F' g (D.wake x).2 :=
  (wake_any x w h.dev hm).mono fun _ _ ⟨h1, h2⟩ => ⟨h1, h.left hR h2⟩
theorem mineCrash (h : Mine R w0 w F g D) (hR : R ≤ w0.heap.size) : Calls Try.prog 32 #[.pointer (some ⟨g, 0, none⟩)] w fun e w' => e = .returned (.int .i64 D.crash.1) ∧ ∃ F', Mine R w0 w' F' g D.crash.2 :=
  (crashDev_any w h.dev).mono fun _ _ ⟨h1, h2⟩ => ⟨h1, h.left hR h2⟩
theorem mineFuse (h : Mine R w0 w F g D) (hR : R ≤ w0.heap.size) (x : Int) (hx : x ≤ 9223372036854775807) : Calls Try.prog 35 #[.pointer (some ⟨g, 0, none⟩), .int .i64 x] w fun e w' => e = .returned (.int .i64 (D.fuse x).1) ∧ ∃ F', Mine R w0 w' F' g (D.fuse x).2 :=
  (fuseDev_any x hx w h.dev).mono fun _ _ ⟨h1, h2⟩ => ⟨h1, h.left hR h2⟩
theorem mineStat (h : Mine R w0 w F g D) (hR : R ≤ w0.heap.size) : Calls Try.prog 36 #[.pointer (some ⟨g, 0, none⟩)] w fun e w' => e = .returned (.agg #[.int .i64 (D.kept.length : Int), .int .i64 (D.pend.length : Int), .int .i64 D.de, .bool D.dn]) ∧ Mine R w0 w' F g D :=
  (statDev_any w h.dev).mono fun _ _ ⟨h1, h2⟩ => ⟨h1, h.grow hR h2⟩
theorem mineRead (h : Mine R w0 w F g D) (hR : R ≤ w0.heap.size) (x : Nat) (hx : x < D.kept.length) (hdn : D.dn = false) (hm : D.pend.length ≤ 1000000) : Calls Try.prog 57 #[.pointer (some ⟨g, 0, none⟩), .int .i64 (x : Int)] w fun e w' => ∃ v, e = .returned (.tuple #[v, .int .i64 0]) ∧ w'.ownsRow w.heap.size 5 1 v 64 (bv (D.read x)) ∧ Mine R w0 w' F g D :=
  (readDev_any x hx w h.dev hdn hm).mono fun _ _ ⟨v, h1, h2, h3⟩ => ⟨v, h1, h2, h.grow hR h3⟩
theorem mineKept (h : Mine R w0 w F g D) (hR : R ≤ w0.heap.size) : Calls Try.prog 30 #[.pointer (some ⟨g, 0, none⟩)] w fun e w' => ∃ v, e = .returned v ∧ w'.ownsRow w.heap.size 5 1 v (D.kept.length * 64) (bv D.kept.flatten) ∧ Mine R w0 w' F g D :=
  (keptDev_any w h.dev).mono fun _ _ ⟨v, h1, h2, h3⟩ => ⟨v, h1, h2, h.grow hR h3⟩
end
/-- a row of one's own, just made of bytes -/
theorem src_new (w : World) (l : List UInt8) (n cap : Nat) (h : l.length = n) : Src (w.alloc (.cells (bv l).toArray 5)) (some ⟨w.heap.size, 0, none⟩) n cap (bv l) :=
  ⟨by rw [bvL, h], (fun h => by cases h), bv1 l, fun ad had j u hu => by
    injection had with had
    subst had
    rw [Addr.add_mid, Nat.zero_add, (Blk.new w 5 (bv l).toArray).cell]
    simpa using hu⟩
theorem mineWriteNew {R g : Nat} {w0 w : World} {F : Nat → Prop} {D : Dv} (h : Mine R w0 w F g D) (hR : R ≤ w0.heap.size) (x : Int) (b : UInt8) (z : Int) (hz : z = (b.toNat : Int)) (hde : D.de ≤ 1000000000) (hm : D.pend.length ≤ 100000) (hx : -9223372036854775808 ≤ x ∧ x ≤ 9223372036854775807) :
    Calls Try.prog 27 #[.pointer (some ⟨g, 0, none⟩), .int .i64 x, .slice (some ⟨w.heap.size, 0, none⟩) 1 1] (w.alloc (.cells #[.int .u8 z] 5)) fun e w' => e = .returned (.int .i64 (D.write x [b]).1) ∧ ∃ F', Mine R w0 w' F' g (D.write x [b]).2 := by
  subst hz
  have h2 : Mine R w0 (w.alloc (.cells #[.int .u8 (b.toNat : Int)] 5)) F g D := h.grow hR ((Below.refl _ w).alloc (Nat.le_refl _) _)
  exact mineWrite h2 hR x [b] _ 1 hde hm hx (by simp) (src_new w [b] 1 1 rfl) (fun ad had _ => by
    injection had with had
    subst had
    exact h.new (Nat.le_refl _))
/-- the example's device -/
def aw1 : Dv := ((Dv.new 2).write 0 [1]).2
def aw2 : Dv := aw1.flush.2
def aw3 : Dv := (aw2.write 0 [2]).2
def aw4 : Dv := aw3.crash.2
def aw5 (k : Nat) : Dv := (aw4.wake (k : Int)).2
theorem aw_facts : ((Dv.new 2).write 0 [1]).1 = 0 ∧ aw1.flush.1 = 0 ∧ (aw2.write 0 [2]).1 = 0 ∧ aw3.crash.1 = 0 := by decide +kernel
theorem aw_small : aw1.de ≤ 1000000000 ∧ aw1.pend.length ≤ 100000 ∧ aw2.de ≤ 1000000000 ∧ aw2.pend.length ≤ 100000 ∧ aw4.pend.length ≤ 100000 := by decide +kernel
theorem aw_end : ∀ k : Nat, k < 2 → (aw4.wake (k : Int)).1 = 0 ∧ (aw5 k).kept.length = 2 ∧ (aw5 k).dn = false ∧ (aw5 k).pend.length ≤ 1000000 ∧ (aw5 k).read 0 = UInt8.ofNat (1 + k) :: List.replicate 63 0 := by decide +kernel
theorem info_1 : (Try.prog.info? 5).map (fun i => (i.zero, i.size, i.bytes)) = some (some (.int .u8 0), 1, 1) := by kernel_rfl
set_option maxRecDepth 100000 in
set_option maxHeartbeats 2000000 in
theorem awake4_any (w : World) : Calls Try.prog 24 #[] w fun e w' => e = .returned (.bool true) ∧ Below w.heap.size w w' := by
  go_enter Try.func24, Try.ntmps24
  go_wp2_with fail
  go_loopw [1] (fun v wr => ∃ k : Nat, k ≤ 2 ∧ v = .int .i64 (k : Int) ∧ Below w.heap.size w wr) (fun v _ => 2 - (intOf v).toNat)
  case atStart => exact ⟨0, by omega, rfl, Below.refl _ _⟩
  case round =>
    obtain ⟨k, hk, rfl, hbel⟩ := hrel
    have HB := hide hbel
    clear hbel
    by_cases hk2 : k < 2
    · have n1 : (k : Int) < 2 := by omega
      go_wp2_with fail
      refine (mineNew (R := w.heap.size) (w0 := w) 2 (by omega) HB.out (Nat.le_refl _)).mono ?_
      rintro e w1 ⟨g, F, rfl, hM⟩
      have M1 := hide hM
      clear hM
      dsimp only
      go_wp2_with fail
      refine (mineWriteNew M1.out (Nat.le_refl _) 0 1 1 rfl (by decide +kernel) (by decide +kernel) (by omega)).mono ?_
      rintro e w2 ⟨rfl, F2, hM⟩
      rw [aw_facts.1]
      have M2 : Hid (Mine w.heap.size w w2 F2 g aw1) := hide hM
      clear hM M1
      dsimp only
      go_wp2_with fail
      refine (mineFlush M2.out (Nat.le_refl _) aw_small.1 aw_small.2.1).mono ?_
      rintro e w3 ⟨rfl, F3, hM⟩
      rw [aw_facts.2.1]
      have M3 : Hid (Mine w.heap.size w w3 F3 g aw2) := hide hM
      clear hM M2
      dsimp only
      go_wp2_with fail
      refine (mineWriteNew M3.out (Nat.le_refl _) 0 2 2 rfl aw_small.2.2.1 aw_small.2.2.2.1 (by omega)).mono ?_
      rintro e w4 ⟨rfl, F4, hM⟩
      rw [aw_facts.2.2.1]
      have M4 : Hid (Mine w.heap.size w w4 F4 g aw3) := hide hM
      clear hM M3
      dsimp only
      go_wp2_with fail
      refine (mineCrash M4.out (Nat.le_refl _)).mono ?_
      rintro e w5 ⟨rfl, F5, hM⟩
      rw [aw_facts.2.2.2]
      have M5 : Hid (Mine w.heap.size w w5 F5 g aw4) := hide hM
      clear hM M4
      dsimp only
      go_wp2_with fail
      have he := aw_end k hk2
      refine (mineWake M5.out (Nat.le_refl _) (k : Int) aw_small.2.2.2.2).mono ?_
      rintro e w6 ⟨rfl, F6, hM⟩
      rw [he.1]
      have M6 : Hid (Mine w.heap.size w w6 F6 g (aw5 k)) := hide hM
      have HE := hide he
      clear hM M5 he
      dsimp only
      go_wp2_with fail
      refine (mineRead M6.out (Nat.le_refl _) 0 (by rw [HE.out.2.1]; omega) HE.out.2.2.1 HE.out.2.2.2.1).mono ?_
      rintro e w7 ⟨v, rfl, ho, hM⟩
      rw [HE.out.2.2.2.2] at ho
      obtain ⟨q, cap, hv⟩ := owned_placeN ho (by omega)
      subst hv
      have c0 : w7.cell? ⟨q, 0, none⟩ = some (.int .u8 ((UInt8.ofNat (1 + k)).toNat : Int)) := own_range ho 0 64 (bv (UInt8.ofNat (1 + k) :: List.replicate 63 0)) (by rw [List.drop_zero]; exact List.take_of_length_le (by rw [bvL, List.length_cons, List.length_replicate]; omega)) 0 _ rfl
      have hz : ((UInt8.ofNat (1 + k)).toNat : Int) = 1 + (k : Int) := by
        rw [UInt8.toNat_ofNat']
        omega
      rw [hz] at c0
      have M7 := hide hM
      clear hM M6 ho hz
      dsimp only
      go_wp2_with fail
      exact ⟨⟨k + 1, by omega, by go_num, M7.out.bel⟩, by simp [intOf]; omega⟩
    · obtain rfl : k = 2 := by omega
      go_wp2_with fail
      go_ret
      exact ⟨rfl, HB.out⟩
end Go.Proofs.Ytajeohmmobgcjaa
