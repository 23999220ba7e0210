/- The walk of spencelaw01.CodeGets, of what is gone through. -/
import Derived.Test.YtjmenaplgndnnaaGetsA
import Derived.Test.YtjmenaplgndnnaaOneLaw
import Derived.Test.YtjmenaplgndnnaaSameBytes
import Derived.Test.YtjmenaplgndnnaaAwakeCode
import Derived.Test.YtjmenaplgndnnaaPick
import Derived.Deep.RegionHeld3
import Derived.Deep.CutBlock
import Derived.Deep.CutRange
import Derived.BigQuiet
namespace Go.Proofs.Ytjmenaplgndnnaa
open Go Go.RowKit
set_option maxRecDepth 100000 in
set_option maxHeartbeats 4000000 in
theorem codeGets_small (l : List UInt8) (A : Option Addr) (cap : Nat) (hnil : A = none → cap = 0) (ls : List Part) (hsm : ls.length + many ls + l.length ≤ 4000) (v : Value) (B : Nat) (w : World) (hB : B ≤ w.heap.size) (hv : PartsM w B v ls) (hby : BytesAt w B (.slice A l.length cap) l) :
    Calls Try.prog 23 #[.slice A l.length cap, v] w fun e w' => e = .returned (.bool true) ∧ Below w.heap.size w w' := by
  have hv2 := hv
  obtain ⟨Ap, capp, rfl, hcap, hA⟩ := hv
  have HA := hide hA
  have HV := hide hv2
  have HSM := hide hsm
  have HBY := hide (And.intro hby (bytes_nil hby hnil))
  have HNIL := hide hnil
  have hll : ls.length ≤ 4000 := by omega
  have hl4 : l.length ≤ 4000 := by omega
  obtain ⟨R, hR⟩ : ∃ R, R = w.heap.size := ⟨_, rfl⟩
  have hBR : B ≤ R := by omega
  have HR := hide hR
  clear hv2 hsm hA hR hby hnil
  go_enter Try.func23, Try.ntmps23
  go_wp2_with fail
  refine (size1_any ls (by omega) (fun p hp => by have := mem_many hp; have := HSM.out; omega) _ B w HV.out).mono ?_
  rintro e w' ⟨r, rfl, rfl, hr, hor⟩
  have h1 : ¬ (4000 : Int) < (r : Int) + (l.length : Int) := by have := HSM.out; omega
  have h2 : (r : Int) ≤ 4000 := by have := HSM.out; omega
  clear hor
  dsimp only
  go_wp2_with fail
  refine (lentBytes_any l (by omega) A l.length cap B _ hB HBY.out.1 HBY.out.2).mono ?_
  rintro e w1 ⟨gi, rfl, hgi, hbk, hb1⟩
  have hs1 := hb1.size
  have H1 := hide (And.intro hbk hb1)
  clear hbk hb1 h1
  dsimp only
  go_wp2_with fail
  refine (over_any l (by omega) (some ⟨gi, 0, none⟩) l.length (l.length + 12) _ w1 (bytes_lent H1.out.1) (by intro h; cases h)).mono ?_
  rintro e w2 ⟨gc, rbc, A1, k1, rfl, hgc, hrbc, hcu, hb2⟩
  have hs2 := hb2.size
  have H2 := hide (And.intro hcu (And.intro hrbc hb2))
  clear hcu hrbc hb2
  dsimp only
  go_wp2_with fail
  obtain ⟨gr, hgr⟩ : ∃ gr, gr = w2.heap.size := ⟨_, rfl⟩
  obtain ⟨w3, hw3⟩ : ∃ w3, w3 = w2.alloc (.cells #[.slice A l.length cap, .int .i64 0] 100) := ⟨_, rfl⟩
  have hst : ∃ rbr, G2 w w3 R gc gr rbc rbr gi (bv (l ++ marks)).toArray ⟨l, 0⟩ A1 k1 ⟨l, 0⟩ A cap := by
    obtain ⟨hcu, hrbc, hb2⟩ := H2.out
    have hal : Below w2.heap.size w2 w3 := by rw [hw3]; exact (Below.refl _ _).alloc (Nat.le_refl _) _
    have hbw2 : Below R w w2 := by rw [HR.out]; exact H1.out.2.trans (hb2.mono (by have := H1.out.2.size; omega))
    have hbw : Below R w w3 := hbw2.trans (hal.mono (by have := hbw2.size; have := HR.out; omega))
    have hrw := HR.out
    have hby3 : BytesAt w3 B (.slice A l.length cap) l := HBY.out.1.alike (alike_of_below (hbw.mono hBR))
    obtain ⟨rbr, hcr, hrb⟩ := ref_begin (gr := gr) (by rw [hw3, hgr]; exact Blk.new _ _ _) hby3 HNIL.out (by omega) (by have := hbw.size; omega)
    refine ⟨rbr, hcu.below hal, hcr, hbw, (H1.out.1.below hb2 H1.out.1.lt).below hal (by have := H1.out.1.lt; omega), fun h0 => ?_, fun h0 => ?_, by omega, by omega⟩
    · have := hrbc h0; have := hcu.blk.lt; omega
    · have := hrb h0; omega
  obtain ⟨rbr, hst⟩ := hst
  have H0 := hide hst
  rw [← hgr, ← hw3]
  clear hst hgr hw3 H2
  go_loopw [8] (fun i wr => ∃ (k : Nat) (c : Cu) (A1 : Option Addr) (k1 : Nat) (A2 : Option Addr) (k2 : Nat), k ≤ ls.length ∧ i = .int .i64 (k : Int) ∧ c.ok ∧ c.rest.length ≤ l.length ∧ G2 w wr R gc gr rbc rbr gi (bv (l ++ marks)).toArray c A1 k1 c A2 k2) (fun i _ => ls.length - (intOf i).toNat)
  case atStart => exact ⟨0, _, _, _, _, _, by omega, rfl, .inl rfl, Nat.le_refl _, H0.out⟩
  case round =>
    obtain ⟨k, c, A1, k1, A2, k2, hk, rfl, hok, hrl, hst⟩ := hrel
    have H3 := hide (And.intro hst hok)
    clear hst hok H0
    by_cases hlt : k < ls.length
    · obtain ⟨b, off, rfl, hbB, hpc⟩ := HA.out (by omega)
      have hp0 := hpc k hlt
      obtain ⟨p, hpe⟩ : ∃ p, p = ls.getD k ⟨0, 0, 0, []⟩ := ⟨_, rfl⟩
      rw [← hpe] at hp0
      have hp := hp0.alike hbB (alike_of_below (H3.out.1.bl.mono hBR))
      have q0 := hp.c0
      have i1 : (0 : Int) ≤ (k : Int) := by omega
      have i2 : (k : Int) < (ls.length : Int) := by omega
      obtain ⟨d, hd⟩ : ∃ d : Nat, (d : Int) = p.what % 3 := ⟨(p.what % 3).toNat, Int.toNat_of_nonneg (Int.emod_nonneg _ (by omega))⟩
      have hd3 : d = 0 ∨ d = 1 ∨ d = 2 := by have := Int.emod_lt_of_pos p.what (show (0 : Int) < 3 by omega); omega
      have HD := hide hd
      have HP := hide hp0
      have hBw : B ≤ wr.heap.size := by have := H3.out.1.bl.size; have := HR.out; omega
      clear hp hp0 hpc hpe hd
      go_wp2_with fail
      refine (pick_any p.what 3 _ (by omega) (by omega) HP.out.k0).mono ?_
      rintro e w' ⟨rfl, rfl⟩
      rw [← HD.out]
      dsimp only
      go_upto_block 2 with fail
      go_cut [9] from 26 to 111 (fun s9 wx => s9 = .bool true ∧ ∃ (c' : Cu) (A1 : Option Addr) (k1 : Nat) (A2 : Option Addr) (k2 : Nat), c'.ok ∧ c'.rest.length ≤ l.length ∧ G2 w wx R gc gr rbc rbr gi (bv (l ++ marks)).toArray c' A1 k1 c' A2 k2)
      case first =>
        rcases hd3 with h0 | h0 | h0
        · subst h0
          have hle := rest_le_num c p.most
          obtain ⟨n, hn⟩ : ∃ n, n = (c.num p.most).1 := ⟨_, rfl⟩
          obtain ⟨c', hc'⟩ : ∃ c', c' = (c.num p.most).2 := ⟨_, rfl⟩
          have hok' : c'.ok := by rw [hc']; exact ok_num H3.out.2 _
          rw [← hc'] at hle
          have hC : ∀ W, CuAt W gc 114 rbc c A1 k1 → Calls Try.prog 39 #[.pointer (some ⟨gc, 0, none⟩), .int .i64 p.most] W fun e w' => e = .returned (.int .i64 (n : Int)) ∧ ∃ A' cap', CuAt w' gc 114 rbc c' A' cap' ∧ Turned (· = gc) W w' := fun W h => by rw [hn, hc']; exact cnum_any p.most HP.out.k2 c (by omega) gc _ rbc A1 k1 W h
          have hCr : ∀ W, CuAt W gr 100 rbr c A2 k2 → Calls Try.prog 47 #[.pointer (some ⟨gr, 0, none⟩), .int .i64 p.most] W fun e w' => e = .returned (.int .i64 (n : Int)) ∧ ∃ A' cap', CuAt w' gr 100 rbr c' A' cap' ∧ Turned (· = gr) W w' := fun W h => by rw [hn, hc']; exact rcnum_any p.most HP.out.k2 c H3.out.2 (by omega) gr _ rbr A2 k2 W h
          have q2 := (HP.out.alike hbB (alike_of_below (H3.out.1.bl.mono hBR))).c2
          have HC := hide (And.intro hC hCr)
          have HLE := hide hle
          clear hC hCr hn hc' hle
          go_wp2_with fail
          go_region_held3 (fun w' => w'.cell? ⟨b, off + k * 4 + 2, none⟩ = some (.int .i64 p.most)) (first | go_keep | exact hkeep | exact hkeep2)
            (first
              | (go_at_call 39; refine (HC.out.1 _ (H3.out.1.c.below (below_drewN (Below.refl _ _) _))).mono ?_; rintro e w4 ⟨rfl, A4, k4, hc4, ht4⟩; have hst4 := H3.out.1.stepC hc4 ⟨ht4.os, ht4.tape, ht4.output, ht4.size, ht4.block⟩ HLE.out; have hkeep : w4.cell? ⟨b, off + k * 4 + 2, none⟩ = some (.int .i64 p.most) := (HP.out.alike hbB (alike_of_below (hst4.bl.mono hBR))).c2; have H4 := hide hst4; clear hc4 ht4 hst4)
              | (go_at_call 47; refine (HC.out.2 _ H4.out.r).mono ?_; rintro e w5 ⟨rfl, A5, k5, hc5, ht5⟩; have hst5 := H4.out.stepR hc5 ⟨ht5.os, ht5.tape, ht5.output, ht5.size, ht5.block⟩ HLE.out; have hkeep2 : w5.cell? ⟨b, off + k * 4 + 2, none⟩ = some (.int .i64 p.most) := (HP.out.alike hbB (alike_of_below (hst5.bl.mono hBR))).c2; have H5 := hide hst5; clear hc5 ht5 hst5)
              | (go_at_call 47; refine (HC.out.2 _ (H4.out.r.below (below_drewN (Below.refl _ _) _))).mono ?_; rintro e w5 ⟨rfl, A5, k5, hc5, ht5⟩; have hst5 := H4.out.stepR hc5 ⟨ht5.os, ht5.tape, ht5.output, ht5.size, ht5.block⟩ HLE.out; have hkeep2 : w5.cell? ⟨b, off + k * 4 + 2, none⟩ = some (.int .i64 p.most) := (HP.out.alike hbB (alike_of_below (hst5.bl.mono hBR))).c2; have H5 := hide hst5; clear hc5 ht5 hst5))
          go_wp2_with fail
          go_meet
          exact ⟨rfl, c', A4, k4, A5, k5, hok', by have := HLE.out; omega, H5.out⟩
        · subst h0
          have hle := rest_le_raw c p.most
          obtain ⟨u, hu⟩ : ∃ u, u = (c.raw p.most).1 := ⟨_, rfl⟩
          obtain ⟨c', hc'⟩ : ∃ c', c' = (c.raw p.most).2 := ⟨_, rfl⟩
          have hok' : c'.ok := by rw [hc']; exact ok_raw H3.out.2 _
          rw [← hu, ← hc'] at hle
          have hC : ∀ W, CuAt W gc 114 rbc c A1 k1 → Calls Try.prog 48 #[.pointer (some ⟨gc, 0, none⟩), .int .i64 p.most] W fun e w' => ∃ v, e = .returned v ∧ w'.ownsRow W.heap.size 5 1 v u.length (bv u) ∧ ∃ A' cap', CuAt w' gc 114 rbc c' A' cap' ∧ Turned (· = gc) W w' := fun W h => by rw [hu, hc']; exact craw_any p.most HP.out.k2 c (by omega) gc _ rbc A1 k1 W h
          have hCr : ∀ W, CuAt W gr 100 rbr c A2 k2 → Calls Try.prog 49 #[.pointer (some ⟨gr, 0, none⟩), .int .i64 p.most] W fun e w' => ∃ v, e = .returned v ∧ w'.ownsRow W.heap.size 5 1 v u.length (bv u) ∧ ∃ A' cap', CuAt w' gr 100 rbr c' A' cap' ∧ Turned (· = gr) W w' := fun W h => by rw [hu, hc']; exact rcraw_any p.most HP.out.k2 c (by omega) gr _ rbr A2 k2 W h
          have q2 := (HP.out.alike hbB (alike_of_below (H3.out.1.bl.mono hBR))).c2
          have HC := hide (And.intro hC hCr)
          have HLE := hide hle
          clear hC hCr hu hc' hle
          go_wp2_with fail
          refine (HC.out.1 _ H3.out.1.c).mono ?_
          rintro e w4 ⟨v4, rfl, own4, A4, k4, hc4, ht4⟩
          obtain ⟨Av, kv, rfl⟩ := owned_slice own4
          have hst4 := H3.out.1.stepC hc4 ht4 HLE.out.1
          have q2' := (HP.out.alike hbB (alike_of_below (hst4.bl.mono hBR))).c2
          have H4 := hide (And.intro hst4 own4)
          clear hc4 ht4 hst4 own4 q2
          dsimp only
          go_wp2_with fail
          refine (HC.out.2 _ H4.out.1.r).mono ?_
          rintro e w5 ⟨v5, rfl, own5, A5, k5, hc5, ht5⟩
          obtain ⟨Aw, kw, rfl⟩ := owned_slice own5
          have hst5 := H4.out.1.stepR hc5 ht5 HLE.out.1
          have own4' := owned_turned H4.out.2 ht5 (fun g hg e => by
            subst e
            exact owned_ne H4.out.2 H4.out.1.r.blk (by decide) hg)
          have H5 := hide (And.intro hst5 (And.intro own4' own5))
          clear hc5 ht5 hst5 own4' own5 q2'
          dsimp only
          go_wp2_with fail
          refine (sameBytes_any u u (by have := HLE.out.2; omega) (by have := HLE.out.2; omega) _ _ _ w5 (bytesAt_owned H5.out.2.1) (bytesAt_owned H5.out.2.2)).mono ?_
          rintro e w6 ⟨rfl, k6, hw6⟩
          have hd6 : Below w5.heap.size w5 w6 := by rw [hw6]; exact below_drewN (Below.refl _ _) k6
          have own6 := owned_keep H5.out.2.1 (w' := w6) fun q _ hlt => hd6.block q hlt
          have H6 := hide (And.intro (H5.out.1.below hd6) own6)
          clear hw6 hd6 own6
          dsimp only
          simp only [decide_true]
          go_wp2_with fail
          refine (overBytes_any _ u.length (by have := HLE.out.2; omega) _ _ w6 H6.out.2).mono ?_
          rintro e w7 ⟨rfl, ht7⟩
          have hroom := H3.out.1.room
          have hle := HLE.out.1
          have H7 := hide (H6.out.1.turned ht7 _ ⟨hroom.1, hroom.2.1, hroom.2.2.1, fun h0 => hroom.2.2.2.1 (by omega), fun h0 => hroom.2.2.2.2 (by omega)⟩ (fun q hq => (owned_lt H6.out.2 hq).1))
          clear ht7 hroom hle
          dsimp only
          go_wp2_with fail
          go_meet
          exact ⟨rfl, c', A4, k4, A5, k5, hok', by have := HLE.out.1; omega, H7.out⟩
        · subst h0
          have hle := rest_le_text c p.most
          obtain ⟨u, hu⟩ : ∃ u, u = (c.text p.most).1 := ⟨_, rfl⟩
          obtain ⟨c', hc'⟩ : ∃ c', c' = (c.text p.most).2 := ⟨_, rfl⟩
          have hok' : c'.ok := by rw [hc']; exact ok_text H3.out.2 _
          rw [← hu, ← hc'] at hle
          have hC : ∀ W, CuAt W gc 114 rbc c A1 k1 → Calls Try.prog 51 #[.pointer (some ⟨gc, 0, none⟩), .int .i64 p.most] W fun e w' => ∃ v, e = .returned v ∧ w'.ownsRow W.heap.size 5 1 v u.length (bv u) ∧ ∃ A' cap', CuAt w' gc 114 rbc c' A' cap' ∧ Turned (· = gc) W w' := fun W h => by rw [hu, hc']; exact ctext_any p.most HP.out.k2 c (by omega) gc _ rbc A1 k1 W h
          have hCr : ∀ W, CuAt W gr 100 rbr c A2 k2 → Calls Try.prog 52 #[.pointer (some ⟨gr, 0, none⟩), .int .i64 p.most] W fun e w' => ∃ v, e = .returned v ∧ w'.ownsRow W.heap.size 5 1 v u.length (bv u) ∧ ∃ A' cap', CuAt w' gr 100 rbr c' A' cap' ∧ Turned (· = gr) W w' := fun W h => by rw [hu, hc']; exact rctext_any p.most HP.out.k2 c H3.out.2 (by omega) gr _ rbr A2 k2 W h
          have q2 := (HP.out.alike hbB (alike_of_below (H3.out.1.bl.mono hBR))).c2
          have HC := hide (And.intro hC hCr)
          have HLE := hide hle
          clear hC hCr hu hc' hle
          go_wp2_with fail
          refine (HC.out.1 _ H3.out.1.c).mono ?_
          rintro e w4 ⟨v4, rfl, own4, A4, k4, hc4, ht4⟩
          obtain ⟨Av, kv, rfl⟩ := owned_slice own4
          have hst4 := H3.out.1.stepC hc4 ht4 HLE.out.1
          have q2' := (HP.out.alike hbB (alike_of_below (hst4.bl.mono hBR))).c2
          have H4 := hide (And.intro hst4 own4)
          clear hc4 ht4 hst4 own4 q2
          dsimp only
          go_wp2_with fail
          refine (HC.out.2 _ H4.out.1.r).mono ?_
          rintro e w5 ⟨v5, rfl, own5, A5, k5, hc5, ht5⟩
          obtain ⟨Aw, kw, rfl⟩ := owned_slice own5
          have hst5 := H4.out.1.stepR hc5 ht5 HLE.out.1
          have own4' := owned_turned H4.out.2 ht5 (fun g hg e => by
            subst e
            exact owned_ne H4.out.2 H4.out.1.r.blk (by decide) hg)
          have H5 := hide (And.intro hst5 (And.intro own4' own5))
          clear hc5 ht5 hst5 own4' own5 q2'
          dsimp only
          go_wp2_with fail
          refine (sameBytes_any u u (by have := HLE.out.2; omega) (by have := HLE.out.2; omega) _ _ _ w5 (bytesAt_owned H5.out.2.1) (bytesAt_owned H5.out.2.2)).mono ?_
          rintro e w6 ⟨rfl, k6, hw6⟩
          have hd6 : Below w5.heap.size w5 w6 := by rw [hw6]; exact below_drewN (Below.refl _ _) k6
          have own6 := owned_keep H5.out.2.1 (w' := w6) fun q _ hlt => hd6.block q hlt
          have H6 := hide (And.intro (H5.out.1.below hd6) own6)
          clear hw6 hd6 own6
          dsimp only
          simp only [decide_true]
          go_wp2_with fail
          refine (overBytes_any _ u.length (by have := HLE.out.2; omega) _ _ w6 H6.out.2).mono ?_
          rintro e w7 ⟨rfl, ht7⟩
          have hroom := H3.out.1.room
          have hle := HLE.out.1
          have H7 := hide (H6.out.1.turned ht7 _ ⟨hroom.1, hroom.2.1, hroom.2.2.1, fun h0 => hroom.2.2.2.1 (by omega), fun h0 => hroom.2.2.2.2 (by omega)⟩ (fun q hq => (owned_lt H6.out.2 hq).1))
          clear ht7 hroom hle
          dsimp only
          go_wp2_with fail
          go_meet
          exact ⟨rfl, c', A4, k4, A5, k5, hok', by have := HLE.out.1; omega, H7.out⟩
      case rest =>
        obtain ⟨rfl, c', B1, m1, B2, m2, hok, hrl', hst⟩ := hcut
        have hL : ∀ W, CuAt W gc 114 rbc c' B1 m1 → Calls Try.prog 53 #[.pointer (some ⟨gc, 0, none⟩)] W fun e w' => e = .returned (.int .i64 (c'.rest.length : Int)) ∧ w' = W := fun W h => (cleft_any c' gc _ rbc B1 m1 W h).mono fun e w' ⟨x, y⟩ => ⟨x, y.symm⟩
        have hE : ∀ W, CuAt W gc 114 rbc c' B1 m1 → Calls Try.prog 40 #[.pointer (some ⟨gc, 0, none⟩)] W fun e w' => e = .returned (.int .i64 (c'.end_ : Int)) ∧ w' = W := fun W h => (cend_any c' gc _ rbc B1 m1 W h).mono fun e w' ⟨x, y⟩ => ⟨x, y.symm⟩
        have hEr : ∀ W, CuAt W gr 100 rbr c' B2 m2 → Calls Try.prog 54 #[.pointer (some ⟨gr, 0, none⟩)] W fun e w' => e = .returned (.int .i64 (c'.end_ : Int)) ∧ w' = W := fun W h => (rcend_any c' gr _ rbr B2 m2 W h).mono fun e w' ⟨x, y⟩ => ⟨x, y.symm⟩
        have r0 := hst.r.blk.cell 0
        have rl := hst.r.blk.lt
        simp only [List.getElem?_toArray, List.getElem?_cons_zero] at r0
        obtain ⟨n, hn⟩ : ∃ n, n = c'.rest.length := ⟨_, rfl⟩
        obtain ⟨z, hz⟩ : ∃ z, z = c'.end_ := ⟨_, rfl⟩
        rw [← hn] at hL r0
        rw [← hz] at hE hEr
        have H9 := hide (And.intro hst hok)
        have HC := hide (And.intro hL (And.intro hE hEr))
        have HRL := hide hrl'
        clear hst hok hL hE hEr hn hz hrl' H3 q0
        go_wp2_with fail
        go_quiet (first
          | (go_at_call 53; exact Calls.quiet_of_same (HC.out.1 _ (H9.out.1.c.below ⟨rfl, rfl, rfl, Nat.le_refl _, fun _ _ => rfl⟩)))
          | (go_at_call 40; exact Calls.quiet_of_same (HC.out.2.1 _ (H9.out.1.c.below ⟨rfl, rfl, rfl, Nat.le_refl _, fun _ _ => rfl⟩)))
          | (go_at_call 54; exact Calls.quiet_of_same (HC.out.2.2 _ (H9.out.1.r.below ⟨rfl, rfl, rfl, Nat.le_refl _, fun _ _ => rfl⟩))))
        go_wp2_with fail
        go_roundw
        case rel => exact ⟨k + 1, c', B1, m1, B2, m2, by omega, by go_num, H9.out.2, HRL.out, H9.out.1.below ⟨rfl, rfl, rfl, Nat.le_refl _, fun _ _ => rfl⟩⟩
        case measure => simp [intOf]; omega
    · obtain rfl : k = ls.length := by omega
      go_wp2_with fail
      refine (keptBytes_any l (by omega) A l.length cap gi B wr (HBY.out.1.alike (alike_of_below (H3.out.1.bl.mono hBR))) H3.out.1.ib).mono ?_
      rintro e w4 ⟨rfl, k4, hw4⟩
      have hd4 : Below wr.heap.size wr w4 := by rw [hw4]; exact below_drewN (Below.refl _ _) k4
      have H4 := hide hd4
      clear hd4 hw4
      dsimp only
      go_wp2_with fail
      refine (awake1_any _).mono ?_
      rintro e w5 ⟨rfl, hb5⟩
      have H5 := hide hb5
      clear hb5
      dsimp only
      go_wp2_with fail
      go_ret
      have hbl := H3.out.1.bl
      have hrw := HR.out
      have s1 := hbl.size
      have hb4 := hbl.trans (H4.out.mono (by omega))
      have s2 := hb4.size
      have hb5 := hb4.trans (H5.out.mono (by omega))
      rw [hrw] at hb5
      exact ⟨rfl, hb5⟩
end Go.Proofs.Ytjmenaplgndnnaa
