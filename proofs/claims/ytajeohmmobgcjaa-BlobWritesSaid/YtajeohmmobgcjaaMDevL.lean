/- package dev: a device of one's own, deed by deed; the chapter's example. spencelaw04: deeds in memory. spencelaw04: great, full; what settles of a sector. -/
import Derived.Test.YtajeohmmobgcjaaMDevK
import Derived.Test.YtajeohmmobgcjaaMBytes
import Derived.Test.YtajeohmmobgcjaaMBase
section
namespace Go.Proofs.Ytajeohmmobgcjaa
open Go Go.RowKit
/-- a device of one's own: it lies behind block R, what lies ahead of that is as it was -/
structure Mine (R : Nat) (w0 w : World) (F : Nat → Prop) (g : Nat) (D : Dv) : Prop where
  dev : DevAt w F g D
  bel : Below R w0 w
  low : ∀ k, F k → R ≤ k
section
variable {R g : Nat} {w0 w w' : World} {F : Nat → Prop} {D D' : Dv}
theorem Mine.left (h : Mine R w0 w F g D) (hR : R ≤ w0.heap.size) (hl : Left w F g D' w') : ∃ F', Mine R w0 w' F' g D' := by
  obtain ⟨F', h1, h2, h3⟩ := hl
  have hs := h.bel.size
  refine ⟨F', h1, ⟨h2.os.trans h.bel.os, h2.tape.trans h.bel.tape, h2.output.trans h.bel.output, Nat.le_trans hs h2.size, fun k hk => (h2.block k (by omega) (fun hf => by have := h.low k hf; omega)).trans (h.bel.block k hk)⟩, fun k hk => ?_⟩
  rcases h3 k hk with h3 | h3
  · exact h.low k h3
  · omega
theorem Mine.grow (h : Mine R w0 w F g D) (hR : R ≤ w0.heap.size) (hb : Below w.heap.size w w') : Mine R w0 w' F g D :=
  ⟨h.dev.keep fun k hk _ => hb.block k hk, h.bel.trans (Below.mono hb (by have := h.bel.size; omega)), h.low⟩
theorem Mine.new (h : Mine R w0 w F g D) {k : Nat} (hk : w.heap.size ≤ k) : ¬ F k := fun hf => by have := h.dev.lt k hf; omega
theorem mineNew (n : Nat) (hn : 1 ≤ n ∧ n ≤ 8192) (hb : Below R w0 w) (hR : R ≤ w0.heap.size) : Calls Try.prog 26 #[.int .i64 (n : Int)] w fun e w' => ∃ g F, e = .returned (.tuple #[.pointer (some ⟨g, 0, none⟩), .int .i64 0]) ∧ Mine R w0 w' F g (Dv.new n) := by
  refine (newDev_any n hn w).mono ?_
  rintro e w' ⟨g, F, rfl, h1, h2, h3⟩
  have hs := hb.size
  exact ⟨g, F, rfl, h1, hb.trans (Below.mono h2 (by omega)), fun k hk => by have := h3 k hk; omega⟩
theorem mineWrite (h : Mine R w0 w F g D) (hR : R ≤ w0.heap.size) (x : Int) (l : List UInt8) (A : Option Addr) (cap : Nat) (hde : D.de ≤ 1000000000) (hm : D.pend.length ≤ 100000) (hx : -9223372036854775808 ≤ x ∧ x ≤ 9223372036854775807) (hl : l.length ≤ 1000000000)
    (hs : Src w A l.length cap (bv l)) (hsb : ∀ ad, A = some ad → 0 < l.length → ¬ F ad.block) :
    Calls Try.prog 27 #[.pointer (some ⟨g, 0, none⟩), .int .i64 x, .slice A l.length cap] w fun e w' => e = .returned (.int .i64 (D.write x l).1) ∧ ∃ F', Mine R w0 w' F' g (D.write x l).2 :=
  (write_any x l A cap w h.dev hde hm hx hl hs hsb).mono fun _ _ ⟨h1, h2⟩ => ⟨h1, h.left hR h2⟩
theorem mineFlush (h : Mine R w0 w F g D) (hR : R ≤ w0.heap.size) (hde : D.de ≤ 1000000000) (hm : D.pend.length ≤ 100000) : Calls Try.prog 29 #[.pointer (some ⟨g, 0, none⟩)] w fun e w' => e = .returned (.int .i64 D.flush.1) ∧ ∃ F', Mine R w0 w' F' g D.flush.2 :=
  (flush_any w h.dev hde hm).mono fun _ _ ⟨h1, h2⟩ => ⟨h1, h.left hR h2⟩
theorem mineWake (h : Mine R w0 w F g D) (hR : R ≤ w0.heap.size) (x : Int) (hm : D.pend.length ≤ 100000) : Calls Try.prog 33 #[.pointer (some ⟨g, 0, none⟩), .int .i64 x] w fun e w' => e = .returned (.int .i64 (D.wake x).1) ∧ ∃ F', Mine R w0 w' F' g (D.wake x).2 :=
  (wake_any x w h.dev hm).mono fun _ _ ⟨h1, h2⟩ => ⟨h1, h.left hR h2⟩
theorem mineCrash (h : Mine R w0 w F g D) (hR : R ≤ w0.heap.size) : Calls Try.prog 32 #[.pointer (some ⟨g, 0, none⟩)] w fun e w' => e = .returned (.int .i64 D.crash.1) ∧ ∃ F', Mine R w0 w' F' g D.crash.2 :=
  (crashDev_any w h.dev).mono fun _ _ ⟨h1, h2⟩ => ⟨h1, h.left hR h2⟩
theorem mineFuse (h : Mine R w0 w F g D) (hR : R ≤ w0.heap.size) (x : Int) (hx : x ≤ 9223372036854775807) : Calls Try.prog 35 #[.pointer (some ⟨g, 0, none⟩), .int .i64 x] w fun e w' => e = .returned (.int .i64 (D.fuse x).1) ∧ ∃ F', Mine R w0 w' F' g (D.fuse x).2 :=
  (fuseDev_any x hx w h.dev).mono fun _ _ ⟨h1, h2⟩ => ⟨h1, h.left hR h2⟩
theorem mineStat (h : Mine R w0 w F g D) (hR : R ≤ w0.heap.size) : Calls Try.prog 36 #[.pointer (some ⟨g, 0, none⟩)] w fun e w' => e = .returned (.agg #[.int .i64 (D.kept.length : Int), .int .i64 (D.pend.length : Int), .int .i64 D.de, .bool D.dn]) ∧ Mine R w0 w' F g D :=
  (statDev_any w h.dev).mono fun _ _ ⟨h1, h2⟩ => ⟨h1, h.grow hR h2⟩
theorem mineRead (h : Mine R w0 w F g D) (hR : R ≤ w0.heap.size) (x : Nat) (hx : x < D.kept.length) (hdn : D.dn = false) (hm : D.pend.length ≤ 1000000) : Calls Try.prog 57 #[.pointer (some ⟨g, 0, none⟩), .int .i64 (x : Int)] w fun e w' => ∃ v, e = .returned (.tuple #[v, .int .i64 0]) ∧ w'.ownsRow w.heap.size 5 1 v 64 (bv (D.read x)) ∧ Mine R w0 w' F g D :=
  (readDev_any x hx w h.dev hdn hm).mono fun _ _ ⟨v, h1, h2, h3⟩ => ⟨v, h1, h2, h.grow hR h3⟩
theorem mineKept (h : Mine R w0 w F g D) (hR : R ≤ w0.heap.size) : Calls Try.prog 30 #[.pointer (some ⟨g, 0, none⟩)] w fun e w' => ∃ v, e = .returned v ∧ w'.ownsRow w.heap.size 5 1 v (D.kept.length * 64) (bv D.kept.flatten) ∧ Mine R w0 w' F g D :=
  (keptDev_any w h.dev).mono fun _ _ ⟨v, h1, h2, h3⟩ => ⟨v, h1, h2, h.grow hR h3⟩
end
/-- a row of one's own, just made of bytes -/
theorem src_new (w : World) (l : List UInt8) (n cap : Nat) (h : l.length = n) : Src (w.alloc (.cells (bv l).toArray 5)) (some ⟨w.heap.size, 0, none⟩) n cap (bv l) :=
  ⟨by rw [bvL, h], (fun h => by cases h), bv1 l, fun ad had j u hu => by
    injection had with had
    subst had
    rw [Addr.add_mid, Nat.zero_add, (Blk.new w 5 (bv l).toArray).cell]
    simpa using hu⟩
theorem mineWriteNew {R g : Nat} {w0 w : World} {F : Nat → Prop} {D : Dv} (h : Mine R w0 w F g D) (hR : R ≤ w0.heap.size) (x : Int) (b : UInt8) (z : Int) (hz : z = (b.toNat : Int)) (hde : D.de ≤ 1000000000) (hm : D.pend.length ≤ 100000) (hx : -9223372036854775808 ≤ x ∧ x ≤ 9223372036854775807) :
    Calls Try.prog 27 #[.pointer (some ⟨g, 0, none⟩), .int .i64 x, .slice (some ⟨w.heap.size, 0, none⟩) 1 1] (w.alloc (.cells #[.int .u8 z] 5)) fun e w' => e = .returned (.int .i64 (D.write x [b]).1) ∧ ∃ F', Mine R w0 w' F' g (D.write x [b]).2 := by
  subst hz
  have h2 : Mine R w0 (w.alloc (.cells #[.int .u8 (b.toNat : Int)] 5)) F g D := h.grow hR ((Below.refl _ w).alloc (Nat.le_refl _) _)
  exact mineWrite h2 hR x [b] _ 1 hde hm hx (by simp) (src_new w [b] 1 1 rfl) (fun ad had _ => by
    injection had with had
    subst had
    exact h.new (Nat.le_refl _))
/-- the example's device -/
def aw1 : Dv := ((Dv.new 2).write 0 [1]).2
def aw2 : Dv := aw1.flush.2
def aw3 : Dv := (aw2.write 0 [2]).2
def aw4 : Dv := aw3.crash.2
def aw5 (k : Nat) : Dv := (aw4.wake (k : Int)).2
theorem aw_facts : ((Dv.new 2).write 0 [1]).1 = 0 ∧ aw1.flush.1 = 0 ∧ (aw2.write 0 [2]).1 = 0 ∧ aw3.crash.1 = 0 := by decide +kernel
theorem aw_small : aw1.de ≤ 1000000000 ∧ aw1.pend.length ≤ 100000 ∧ aw2.de ≤ 1000000000 ∧ aw2.pend.length ≤ 100000 ∧ aw4.pend.length ≤ 100000 := by decide +kernel
theorem aw_end : ∀ k : Nat, k < 2 → (aw4.wake (k : Int)).1 = 0 ∧ (aw5 k).kept.length = 2 ∧ (aw5 k).dn = false ∧ (aw5 k).pend.length ≤ 1000000 ∧ (aw5 k).read 0 = UInt8.ofNat (1 + k) :: List.replicate 63 0 := by decide +kernel
theorem info_1 : (Try.prog.info? 5).map (fun i => (i.zero, i.size, i.bytes)) = some (some (.int .u8 0), 1, 1) := by kernel_rfl
set_option maxRecDepth 100000 in
set_option maxHeartbeats 2000000 in
theorem awake4_any (w : World) : Calls Try.prog 24 #[] w fun e w' => e = .returned (.bool true) ∧ Below w.heap.size w w' := by
  go_enter Try.func24, Try.ntmps24
  go_wp2_with fail
  go_loopw [1] (fun v wr => ∃ k : Nat, k ≤ 2 ∧ v = .int .i64 (k : Int) ∧ Below w.heap.size w wr) (fun v _ => 2 - (intOf v).toNat)
  case atStart => exact ⟨0, by omega, rfl, Below.refl _ _⟩
  case round =>
    obtain ⟨k, hk, rfl, hbel⟩ := hrel
    have HB := hide hbel
    clear hbel
    by_cases hk2 : k < 2
    · have n1 : (k : Int) < 2 := by omega
      go_wp2_with fail
      refine (mineNew (R := w.heap.size) (w0 := w) 2 (by omega) HB.out (Nat.le_refl _)).mono ?_
      rintro e w1 ⟨g, F, rfl, hM⟩
      have M1 := hide hM
      clear hM
      dsimp only
      go_wp2_with fail
      refine (mineWriteNew M1.out (Nat.le_refl _) 0 1 1 rfl (by decide +kernel) (by decide +kernel) (by omega)).mono ?_
      rintro e w2 ⟨rfl, F2, hM⟩
      rw [aw_facts.1]
      have M2 : Hid (Mine w.heap.size w w2 F2 g aw1) := hide hM
      clear hM M1
      dsimp only
      go_wp2_with fail
      refine (mineFlush M2.out (Nat.le_refl _) aw_small.1 aw_small.2.1).mono ?_
      rintro e w3 ⟨rfl, F3, hM⟩
      rw [aw_facts.2.1]
      have M3 : Hid (Mine w.heap.size w w3 F3 g aw2) := hide hM
      clear hM M2
      dsimp only
      go_wp2_with fail
      refine (mineWriteNew M3.out (Nat.le_refl _) 0 2 2 rfl aw_small.2.2.1 aw_small.2.2.2.1 (by omega)).mono ?_
      rintro e w4 ⟨rfl, F4, hM⟩
      rw [aw_facts.2.2.1]
      have M4 : Hid (Mine w.heap.size w w4 F4 g aw3) := hide hM
      clear hM M3
      dsimp only
      go_wp2_with fail
      refine (mineCrash M4.out (Nat.le_refl _)).mono ?_
      rintro e w5 ⟨rfl, F5, hM⟩
      rw [aw_facts.2.2.2]
      have M5 : Hid (Mine w.heap.size w w5 F5 g aw4) := hide hM
      clear hM M4
      dsimp only
      go_wp2_with fail
      have he := aw_end k hk2
      refine (mineWake M5.out (Nat.le_refl _) (k : Int) aw_small.2.2.2.2).mono ?_
      rintro e w6 ⟨rfl, F6, hM⟩
      rw [he.1]
      have M6 : Hid (Mine w.heap.size w w6 F6 g (aw5 k)) := hide hM
      have HE := hide he
      clear hM M5 he
      dsimp only
      go_wp2_with fail
      refine (mineRead M6.out (Nat.le_refl _) 0 (by rw [HE.out.2.1]; omega) HE.out.2.2.1 HE.out.2.2.2.1).mono ?_
      rintro e w7 ⟨v, rfl, ho, hM⟩
      rw [HE.out.2.2.2.2] at ho
      obtain ⟨q, cap, hv⟩ := owned_placeN ho (by omega)
      subst hv
      have c0 : w7.cell? ⟨q, 0, none⟩ = some (.int .u8 ((UInt8.ofNat (1 + k)).toNat : Int)) := own_range ho 0 64 (bv (UInt8.ofNat (1 + k) :: List.replicate 63 0)) (by rw [List.drop_zero]; exact List.take_of_length_le (by rw [bvL, List.length_cons, List.length_replicate]; omega)) 0 _ rfl
      have hz : ((UInt8.ofNat (1 + k)).toNat : Int) = 1 + (k : Int) := by
        rw [UInt8.toNat_ofNat']
        omega
      rw [hz] at c0
      have M7 := hide hM
      clear hM M6 ho hz
      dsimp only
      go_wp2_with fail
      exact ⟨⟨k + 1, by omega, by go_num, M7.out.bel⟩, by simp [intOf]; omega⟩
    · obtain rfl : k = 2 := by omega
      go_wp2_with fail
      go_ret
      exact ⟨rfl, HB.out⟩
end Go.Proofs.Ytajeohmmobgcjaa
end
section
namespace Go.Proofs.Ytajeohmmobgcjaa
open Go.RowKit
structure Deed where
  what : Int
  n : Int
  most : Int
  b : List UInt8
def i64 (z : Int) : Prop := -9223372036854775808 ≤ z ∧ z ≤ 9223372036854775807
/-- a part's four cells -/
structure DeedAt (w : World) (B b o : Nat) (p : Deed) : Prop where
  c0 : w.cell? ⟨b, o, none⟩ = some (.int .i64 p.what)
  c1 : w.cell? ⟨b, o + 1, none⟩ = some (.int .i64 p.n)
  c2 : w.cell? ⟨b, o + 2, none⟩ = some (.int .i64 p.most)
  c3 : ∃ A c, w.cell? ⟨b, o + 3, none⟩ = some (.slice A p.b.length c) ∧ BytesAt w B (.slice A p.b.length c) p.b ∧ (A = none → c = 0)
  k0 : i64 p.what
  k1 : i64 p.n
  k2 : i64 p.most
def DeedsM (w : World) (B : Nat) (v : Value) (ls : List Deed) : Prop :=
  ∃ A cap, v = .slice A ls.length cap ∧ ls.length ≤ cap ∧ (0 < ls.length → ∃ b off, A = some ⟨b, off, none⟩ ∧ b < B ∧ ∀ j, j < ls.length → DeedAt w B b (off + j * 4) (ls.getD j ⟨0, 0, 0, []⟩))
theorem DeedAt.alike {w w' : World} {B b o : Nat} {p : Deed} (h : DeedAt w B b o p) (hb : b < B) (ha : Alike B w w') : DeedAt w' B b o p := by
  obtain ⟨A, c, h1, h2, h3⟩ := h.c3
  have e : ∀ q, w'.cell? ⟨b, q, none⟩ = w.cell? ⟨b, q, none⟩ := fun q => ha.cell (p := ⟨b, q, none⟩) hb
  exact ⟨(e _).trans h.c0, (e _).trans h.c1, (e _).trans h.c2, ⟨A, c, (e _).trans h1, h2.alike ha, h3⟩, h.k0, h.k1, h.k2⟩
theorem DeedsM.alike {w w' : World} {B : Nat} {v : Value} {ls : List Deed} (h : DeedsM w B v ls) (ha : Alike B w w') : DeedsM w' B v ls := by
  obtain ⟨A, cap, hv, hc, hA⟩ := h
  exact ⟨A, cap, hv, hc, fun h0 => by
    obtain ⟨b, off, h1, h2, h3⟩ := hA h0
    exact ⟨b, off, h1, h2, fun j hj => (h3 j hj).alike h2 ha⟩⟩
/-- how many bytes some parts have -/
def many (ls : List Deed) : Nat := (ls.map fun p => p.b.length).sum
theorem many_take (ls : List Deed) (k : Nat) (h : k < ls.length) : many (ls.take (k + 1)) = many (ls.take k) + (ls.getD k ⟨0, 0, 0, []⟩).b.length := by
  unfold many
  rw [List.take_succ_eq_append_getElem h, List.map_append, List.sum_append]
  simp [List.getD, h]
theorem many_take_le (ls : List Deed) (k : Nat) : many (ls.take k) ≤ many ls := by
  have h : many ls = many (ls.take k) + many (ls.drop k) := by
    unfold many
    rw [← List.sum_append, ← List.map_append, List.take_append_drop]
  omega
theorem many_get (ls : List Deed) (k : Nat) (h : k < ls.length) : (ls.getD k ⟨0, 0, 0, []⟩).b.length ≤ many ls := by
  have h1 := many_take ls k h
  have h2 := many_take_le ls (k + 1)
  omega
end Go.Proofs.Ytajeohmmobgcjaa
end
section
namespace Go.Proofs.Ytajeohmmobgcjaa
open Go Go.RowKit
def greatB (s : Int) (ls : List Deed) : Bool := decide (150 < ls.length) || decide (10000 < many (ls.take 150)) || (decide (60 < s) && decide (s ≤ 8192))
theorem great_no {s : Int} {ls : List Deed} (h : greatB s ls = false) : ls.length ≤ 150 ∧ many ls ≤ 10000 ∧ (s ≤ 60 ∨ 8192 < s) := by
  simp only [greatB, Bool.or_eq_false_iff, decide_eq_false_iff_not, Bool.and_eq_false_iff] at h
  obtain ⟨⟨h1, h2⟩, h3⟩ := h
  have h4 : ls.take 150 = ls := List.take_of_length_le (by omega)
  rw [h4] at h2
  exact ⟨by omega, by omega, by omega⟩
set_option maxRecDepth 100000 in
set_option maxHeartbeats 1000000 in
theorem great_any (s : Int) (ls : List Deed) (hl : ls.length ≤ 140737488355328) (hb : ∀ p ∈ ls, p.b.length ≤ 140737488355328) (v : Value) (B : Nat) (w : World) (hv : DeedsM w B v ls) :
    Calls Try.prog 25 #[.int .i64 s, v] w fun e w' => e = .returned (.bool (greatB s ls)) ∧ w' = w := by
  obtain ⟨A, cap, rfl, hcap, hA⟩ := hv
  have HA := hide hA
  have HB := hide hb
  clear hA hb
  go_enter Try.func25, Try.ntmps25
  go_wp2_with fail
  go_loop [5, 6] (fun n i => ∃ k r : Nat, k ≤ ls.length ∧ k ≤ 150 ∧ i = .int .i64 (k : Int) ∧ n = .int .i64 (r : Int) ∧ r = many (ls.take k) ∧ r ≤ k * 140737488355328) (fun _ i => 150 - (intOf i).toNat)
  case atStart => exact ⟨0, 0, by omega, by omega, rfl, rfl, by simp [many], by omega⟩
  case round =>
    obtain ⟨k, r, hk, hk2, rfl, rfl, hr, hr2⟩ := hrel
    have HR := hide hr
    clear hr
    by_cases hlt : k < ls.length
    · by_cases hm : k < 150
      · obtain ⟨b, off, rfl, _, hp⟩ := HA.out (by omega)
        obtain ⟨A', c', c3, _, _⟩ := (hp k hlt).c3
        obtain ⟨n, hn⟩ : ∃ n, n = (ls.getD k ⟨0, 0, 0, []⟩).b.length := ⟨_, rfl⟩
        rw [← hn] at c3
        have hn2 : n ≤ 140737488355328 := by rw [hn]; exact HB.out _ (by simp [List.getD, hlt])
        have HN := hide hn
        have i1 : (0 : Int) ≤ (k : Int) := by omega
        have i2 : (k : Int) < (ls.length : Int) := by omega
        have i3 : (k : Int) < 150 := by omega
        clear hp hn
        go_wp2_with fail
        go_round
        case rel => exact ⟨k + 1, r + n, by omega, by omega, by go_num, by go_num, by rw [many_take ls k hlt, ← HN.out, HR.out], by omega⟩
        case measure => simp [intOf]; omega
      · obtain rfl : k = 150 := by omega
        have i2 : (150 : Int) < (ls.length : Int) := by omega
        have hg : greatB s ls = true := by simp [greatB, hlt]
        have HG := hide hg
        clear hg
        go_wp2_with fail
        go_ret
        rw [HG.out]
        exact ⟨ret_bool (by simp), rfl⟩
    · obtain rfl : k = ls.length := by omega
      have i2 : ¬ (150 : Int) < (ls.length : Int) := by omega
      have hr3 := HR.out
      rw [List.take_of_length_le (Nat.le_refl _)] at hr3
      have hg : greatB s ls = (decide (10000 < r) || (decide (60 < s) && decide (s ≤ 8192))) := by
        rw [greatB, List.take_of_length_le hk2, ← hr3, decide_eq_false (by omega), Bool.false_or]
      have HG := hide hg
      clear hr3 hg
      go_wp2_with fail
      all_goals go_ret
      all_goals rw [HG.out]
      all_goals refine ⟨ret_bool ?_, rfl⟩
      all_goals rw [Bool.eq_iff_iff]
      all_goals simp only [Bool.or_eq_true, Bool.and_eq_true, decide_eq_true_eq, true_iff]
      all_goals omega
theorem own_blk {w : World} {base g n : Nat} {e : TypeId} {xs : List Value} (h : w.ownsRow base e 1 (.slice (some ⟨g, 0, none⟩) n n) n xs) : Blk w g e xs.toArray ∧ base ≤ g := by
  rcases owned_formN h with ⟨h, _⟩ | ⟨g', cap', cur, h', hb, hn, hc, hh, hs, ht, _⟩
  · cases h
  · injection h' with e1 e2 e3
    injection e1 with e1
    injection e1 with e1
    subst e1 e3
    rw [List.take_of_length_le (by simp; omega)] at ht
    rw [← ht]
    exact ⟨hh, hb⟩
theorem blk_own {w : World} {base g n : Nat} {e : TypeId} {xs : List Value} (h : Blk w g e xs.toArray) (hb : base ≤ g) (hl : xs.length = n) (hm : n ≤ maxLen) : w.ownsRow base e 1 (.slice (some ⟨g, 0, none⟩) n n) n xs :=
  ⟨by omega, .inr ⟨g, n, _, rfl, hb, h, Nat.le_refl _, hm, by simp [hl], by simp [← hl]⟩⟩
theorem pad_copy (l : List UInt8) : ((bv (List.replicate 64 0)).toArray.toList.take 0 ++ (bv l ++ (bv (List.replicate 64 0)).toArray.toList.drop (0 + (bv l).length))).toArray = (bv (pad l)).toArray := by
  have h1 : (bv l).length = l.length := bvL l
  rw [h1, Nat.zero_add, List.take_zero, List.nil_append, pad, bvA]
  congr 2
  unfold bv
  rw [← List.map_drop, List.drop_replicate]
set_option maxRecDepth 100000 in
set_option maxHeartbeats 400000 in
theorem full_any (l : List UInt8) (hl : l.length ≤ 64) (A : Option Addr) (cap : Nat) (w : World) (hs : Src w A l.length cap (bv l)) : Calls Try.prog 34 #[.slice A l.length cap] w fun e w' => ∃ v, e = .returned v ∧ w'.ownsRow w.heap.size 5 1 v 64 (bv (pad l)) ∧ Below w.heap.size w w' := by
  obtain ⟨i, hi, hz0, hz1, hz2⟩ := info_parts info_1
  have HS := hide hs
  clear hs
  go_enter Try.func34, Try.ntmps34
  go_wp2_with (at_make; refine wpList_make_full _ rfl _ _ 48 rfl w.heap.size 5 i (.int .u8 0) 1 Try.underlying48 hi hz0 hz1 _ _ _ _ 64 rfl rfl ?e0 ?e1 ?e2 ?e3 ?e4 ?_)
  case e0 => rfl
  case e1 => rfl
  case e2 => rw [hz2]; omega
  case e3 => simp only [maxLen]; omega
  case e4 => exact Nat.le_refl _
  intro w1 own1 gr1
  rw [made_bv] at own1
  have own1 : w1.ownsRow w.heap.size 5 1 (.slice (some ⟨w.heap.size, 0, none⟩) 64 64) 64 (bv (List.replicate 64 0)) := own1
  have hb1 := (own_blk own1).1
  have hB1 : Below w.heap.size w w1 := (Below.refl _ _).grown gr1 (Nat.le_refl _) (by intro k hk; cases hk)
  have hs1 : Src w1 A l.length cap (bv l) := HS.out.turned2 (Turned.of_below hB1 (fun _ => False)) (fun _ _ _ h => h)
  have HL : Hid ((bv l).length = Nat.min l.length 64) := hide (by rw [bvL]; exact (Nat.min_eq_left hl).symm)
  have HF : Hid (0 + (bv l).length ≤ (bv (List.replicate 64 0)).toArray.size) := hide (by rw [bvL]; simp [bv]; omega)
  have H1 := hide (And.intro hb1 (And.intro hB1 hs1))
  clear hb1 hB1 hs1 own1 gr1
  go_wp2_with (first
    | ((with_reducible refine wpList_copyS (o := ⟨some 7, _, _, _, _, _⟩) rfl (.tmp 5) (.tmp 6) 48 48 rfl 5 Try.underlying48 size5 w.heap.size 0 64 64 A l.length cap (bv (List.replicate 64 0)).toArray 5 H1.out.1 (bv l) HL.out H1.out.2.2 HF.out ?_ ?_ ?_); rfl; rfl; intro w3 h3 hg3; have H4 := hide (And.intro h3 hg3); clear h3 hg3; dsimp only [Act.put, List.setIfInBounds_toArray, List.set_cons_zero, List.set_cons_succ]))
  go_ret
  have h4 := H4.out
  rw [pad_copy l] at h4
  refine ⟨_, rfl, blk_own h4.1 (Nat.le_refl _) (by rw [bvL, pad_len l hl]) (by simp only [maxLen]; omega), H1.out.2.1.grown h4.2 H1.out.2.1.size (fun k hk => by injection hk with hk; omega)⟩
end Go.Proofs.Ytajeohmmobgcjaa
end
