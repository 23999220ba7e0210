/- The walk of spencelaw01.CodeMakes. -/
import Derived.Test.YtjmenaplgndnnaaMakesA
import Derived.Test.YtjmenaplgndnnaaSameBytes
import Derived.Test.YtjmenaplgndnnaaAwakeCode
import Derived.Test.YtjmenaplgndnnaaRowParts
import Derived.Test.YtjmenaplgndnnaaPick
import Derived.Lib.Builder
import Derived.Deep.CutBlock
import Derived.Deep.CutRange
namespace Go.Proofs.Ytjmenaplgndnnaa
open Go Go.RowKit
set_option maxRecDepth 100000 in
set_option maxHeartbeats 1000000 in
theorem codeMakes_big (ls : List Part) (hl : ls.length ≤ 140737488355328) (hb : ∀ p ∈ ls, p.b.length ≤ 140737488355328) (hbig : 4000 < ls.length + many ls) (v : Value) (B : Nat) (w : World) (hv : PartsM w B v ls) :
    Calls Try.prog 3 #[v] w fun e w' => e = .returned (.bool true) ∧ Below w.heap.size w w' := by
  have HV := hide hv
  have HB := hide hb
  clear hv hb
  go_enter Try.func3, Try.ntmps3
  go_wp2_with fail
  refine (size1_any ls hl HB.out v B w HV.out).mono ?_
  rintro e w' ⟨r, rfl, rfl, hr, hor⟩
  have h1 : (4000 : Int) < (r : Int) := by omega
  clear hor
  dsimp only
  go_wp2_with fail
  refine (awake1_any _).mono ?_
  rintro e w1 ⟨rfl, hb1⟩
  have HB1 := hide hb1
  clear hb1
  dsimp only
  go_wp2_with fail
  go_ret
  exact ⟨rfl, HB1.out⟩
set_option maxRecDepth 100000 in
set_option maxHeartbeats 4000000 in
theorem codeMakes_small (ls : List Part) (hsm : ls.length + many ls ≤ 4000) (v : Value) (B : Nat) (w : World) (hB : B ≤ w.heap.size) (hv : PartsM w B v ls) :
    Calls Try.prog 3 #[v] w fun e w' => e = .returned (.bool true) ∧ Below w.heap.size w w' := by
  have hv2 := hv
  obtain ⟨A, cap, rfl, hcap, hA⟩ := hv
  have HA := hide hA
  have HV := hide hv2
  have HSM := hide hsm
  have hll : ls.length ≤ 4000 := by omega
  obtain ⟨R, hR⟩ : ∃ R, R = w.heap.size := ⟨_, rfl⟩
  have hBR : B ≤ R := by omega
  have HR := hide hR
  obtain ⟨w0, hw0⟩ : ∃ w0, w0 = (w.alloc (.cells #[.slice none 0 0, .bool false] 30)).alloc (.cells #[.slice none 0 0, .bool false] 33) := ⟨_, rfl⟩
  have hst0 : Mks w w0 R R (R + 1) [] [] false (.slice none 0 0) (.slice none 0 0) 0 := by
    have b1 : Blk w0 R 30 #[.slice none 0 0, .bool false] := by rw [hw0, hR]; exact (Blk.new _ _ _).alloc _
    have b2 : Blk w0 (R + 1) 33 #[.slice none 0 0, .bool false] := by rw [hw0, hR]; exact Blk.new1 _ _ _ _
    refine ⟨⟨b1, rfl, .inl ⟨rfl, rfl⟩⟩, ⟨b2, rfl, .inl ⟨rfl, rfl⟩⟩, fun _ => rfl, fun q hq => (by cases hq), ?_, Nat.le_refl _, by omega, Nat.le_refl _, Nat.le_refl _⟩
    rw [hw0, hR]
    exact ((Below.refl _ _).alloc (Nat.le_refl _) _).alloc (by rw [size_alloc]; omega) _
  have H0 := hide hst0
  have HW := hide hw0
  clear hv2 hsm hA hst0 hw0 hR
  go_enter Try.func3, Try.ntmps3
  go_wp2_with fail
  refine (size1_any ls (by omega) (fun p hp => by have := mem_many hp; have := HSM.out; omega) _ B w HV.out).mono ?_
  rintro e w' ⟨r, rfl, rfl, hr, hor⟩
  have h1 : ¬ (4000 : Int) < (r : Int) := by have := HSM.out; omega
  clear hor
  dsimp only
  go_wp2_with fail
  rw [← HW.out, ← HR.out]
  clear HW h1
  go_loopw [5] (fun i wr => ∃ (k : Nat) (l lr : List UInt8) (bad : Bool) (v vr : Value), k ≤ ls.length ∧ i = .int .i64 (k : Int) ∧ Mks w wr R R (R + 1) l lr bad v vr (10 * k + many (ls.take k))) (fun i _ => ls.length - (intOf i).toNat)
  case atStart => exact ⟨0, [], [], false, _, _, by omega, rfl, H0.out⟩
  case round =>
    obtain ⟨k, l, lr, bad, v, vr, hk, rfl, hst⟩ := hrel
    have H1 := hide hst
    clear hst H0
    by_cases hlt : k < ls.length
    · obtain ⟨b, off, rfl, hbB, hpc⟩ := HA.out (by omega)
      have hal : Alike B w wr := alike_of_below (H1.out.bl.mono hBR)
      have hp0 := hpc k hlt
      obtain ⟨p, hpe⟩ : ∃ p, p = ls.getD k ⟨0, 0, 0, []⟩ := ⟨_, rfl⟩
      rw [← hpe] at hp0
      have hp := hp0.alike hbB hal
      have hpb : p.b.length ≤ 4000 := by rw [hpe]; have := many_get ls k hlt; have := HSM.out; omega
      have hmt := many_take ls k hlt
      have hml := many_take_le ls k
      have hml2 := many_take_le ls (k + 1)
      have hsm2 := HSM.out
      obtain ⟨N, hN⟩ : ∃ N, N = many (ls.take k) := ⟨_, rfl⟩
      obtain ⟨N', hN'⟩ : ∃ N, N = many (ls.take (k + 1)) := ⟨_, rfl⟩
      rw [← hN, ← hN', ← hpe] at hmt
      rw [← hN] at hml
      rw [← hN'] at hml2
      have hNb : 10 * (k + 1) + N' ≤ 44000 := by omega
      have hNN : 10 * (k + 1) + N' = 10 * k + N + 10 + p.b.length := by omega
      have HN := hide (And.intro hN hN')
      clear hmt hml hml2 hsm2 hN hN'
      have hBw : B ≤ wr.heap.size := by have := H1.out.bl.size; have := HR.out; omega
      obtain ⟨Ab, cb, p3, hby, hnb⟩ := hp.c3
      have HP := hide (And.intro hp (And.intro hby (And.intro (bytes_nil hby hnb) hp0)))
      have i1 : (0 : Int) ≤ (k : Int) := by omega
      have i2 : (k : Int) < (ls.length : Int) := by omega
      obtain ⟨d, hd⟩ : ∃ d : Nat, (d : Int) = p.what % 3 := ⟨(p.what % 3).toNat, Int.toNat_of_nonneg (Int.emod_nonneg _ (by omega))⟩
      have hd3 : d = 0 ∨ d = 1 ∨ d = 2 := by have := Int.emod_lt_of_pos p.what (show (0 : Int) < 3 by omega); omega
      have HD := hide hd
      have k0 := hp.k0
      have HK0 := hide k0
      clear hp hp0 hby hal hpc hpe hd k0
      go_wp2_with fail
      refine (lentBytes_any p.b (by omega) Ab p.b.length cb B _ hBw HP.out.2.1 HP.out.2.2.1).mono ?_
      rintro e w1 ⟨gi, rfl, hgi, hbk, hb1⟩
      have hs1 := hb1.size
      have hm1 := H1.out.with hb1 hbk hgi
      have hp1 := HP.out.1.alike hbB (alike_of_below (hb1.mono hBw))
      have c0 := hp1.c0
      have H2 := hide (And.intro hm1 hp1)
      clear hbk hb1 hm1 hp1 p3
      dsimp only
      go_wp2_with fail
      refine (pick_any p.what 3 _ (by omega) (by omega) HK0.out).mono ?_
      rintro e w' ⟨rfl, rfl⟩
      rw [← HD.out]
      dsimp only
      go_upto_block 2 with fail
      go_cut [7] from 22 to 127 (fun s7 wx => s7 = .pointer (some ⟨R, 0, none⟩) ∧ ∃ (l' lr' : List UInt8) (bad' : Bool) (v' vr' : Value), Mk2 w wx R R (R + 1) gi (bv (p.b ++ marks)).toArray l' bad' lr' bad' v' vr' ∧ (bad' = false → l' = lr') ∧ l'.length ≤ 10 * (k + 1) + N' ∧ lr'.length ≤ 10 * (k + 1) + N')
      case first =>
        have hl := H1.out.ll
        have hlr := H1.out.lr_
        rw [← HN.out.1] at hl hlr
        have hsame := H1.out.same
        have hRw1 : R ≤ w1.heap.size := by have := H2.out.1.bl.size; have := HR.out; omega
        clear H1
        rcases hd3 with h0 | h0 | h0
        · subst h0
          have hnum := num_same (n := p.n) hsame
          have hnb := num_bound (l := l) (bad := bad) (lr := lr) (n := p.n)
          obtain ⟨l', hl'⟩ : ∃ x, x = (mkNum l bad p.n).1 := ⟨_, rfl⟩
          obtain ⟨b', hb'⟩ : ∃ x, x = (mkNum l bad p.n).2 := ⟨_, rfl⟩
          obtain ⟨lr', hlr'⟩ : ∃ x, x = (rNum lr bad p.n).1 := ⟨_, rfl⟩
          have hbr' : b' = (rNum lr bad p.n).2 := hb'.trans hnum.1
          rw [← hl', ← hlr'] at hnb
          rw [← hl', ← hb', ← hlr'] at hnum
          have hmA := H2.out.1.below ((Below.refl _ _).alloc (Nat.le_refl _) (.cells #[.int .i64 p.n] 3))
          have hcall := mnum_any p.n H2.out.2.k1 l (by omega) bad R R 30 (by decide) v _ _ (by rw [size_alloc]; omega) hmA.m ((Blk.new w1 3 #[.int .i64 p.n]).cell 0)
          rw [← hl', ← hb'] at hcall
          have HC := hide hcall
          have HA1 := hide hmA
          have HNU := hide (And.intro hnum hnb)
          have HR1 := hide (And.intro hlr' hbr')
          have p1 := H2.out.2.c1
          clear hl' hb' hlr' hbr' hcall hmA hnum hnb hsame
          go_wp2_with fail
          refine HC.out.mono ?_
          rintro e w2 ⟨rfl, v', hm2, ht2, hmv2⟩
          have hst2 := HA1.out.stepM hm2 ht2 hmv2
          have hp2 := HP.out.2.2.2.alike hbB (alike_of_below (hst2.bl.mono hBR))
          have q1 := hp2.c1
          have hcall := rnum_any p.n hp2.k1 lr (by omega) bad R (R + 1) 33 (by decide) vr w2 (by have := ht2.size; rw [size_alloc] at this; omega) hst2.r
          rw [← HR1.out.1, ← HR1.out.2] at hcall
          have HC2 := hide hcall
          have H3 := hide hst2
          clear hm2 ht2 hmv2 hst2 hp2 hcall p1
          dsimp only
          go_wp2_with fail
          refine HC2.out.mono ?_
          rintro e w3 ⟨rfl, vr', hm3, ht3, hmv3⟩
          have H4 := hide (H3.out.stepR hm3 ht3 hmv3)
          clear hm3 ht3 hmv3
          dsimp only
          go_wp2_with fail
          go_meet
          have hnb := HNU.out.2
          exact ⟨rfl, l', lr', b', v', vr', H4.out, HNU.out.1.2, by omega, by omega⟩
        · subst h0
          have hcall := mraw_any p.b (by omega) (some ⟨gi, 0, none⟩) (p.b.length + 12) l (by omega) bad R R 30 (by decide) v w1 hRw1 H2.out.1.m (src_lent H2.out.1.ib)
          have HC := hide hcall
          have HS := hide hsame
          clear hcall hsame
          go_wp2_with fail
          refine HC.out.mono ?_
          rintro e w2 ⟨rfl, v', hm2, ht2, hmv2⟩
          have hst2 := H2.out.1.stepM hm2 ht2 hmv2
          have hp2 := HP.out.2.2.2.alike hbB (alike_of_below (hst2.bl.mono hBR))
          obtain ⟨Ab2, cb2, q3, hby2, hnb2⟩ := hp2.c3
          have hcall := rraw_any p.b (by omega) Ab2 cb2 lr (by omega) bad R (R + 1) 33 (by decide) vr w2 (by have := ht2.size; omega) hst2.r (bv_src hby2 hnb2)
          have HC2 := hide hcall
          have H3 := hide hst2
          clear hm2 ht2 hmv2 hst2 hp2 hcall hby2 hnb2
          dsimp only
          go_wp2_with fail
          refine HC2.out.mono ?_
          rintro e w3 ⟨rfl, vr', hm3, ht3, hmv3⟩
          have H4 := hide (H3.out.stepR hm3 ht3 hmv3)
          clear hm3 ht3 hmv3
          dsimp only
          go_wp2_with fail
          go_meet
          exact ⟨rfl, l ++ p.b, lr ++ p.b, bad, v', vr', H4.out, fun h => by rw [HS.out h], by rw [List.length_append]; omega, by rw [List.length_append]; omega⟩
        · subst h0
          have hnum := text_same (u := p.b) hsame
          have hnb := text_bound (l := l) (bad := bad) (lr := lr) (u := p.b)
          obtain ⟨l', hl'⟩ : ∃ x, x = (mkText l bad p.b).1 := ⟨_, rfl⟩
          obtain ⟨b', hb'⟩ : ∃ x, x = (mkText l bad p.b).2 := ⟨_, rfl⟩
          obtain ⟨lr', hlr'⟩ : ∃ x, x = (rText lr bad p.b).1 := ⟨_, rfl⟩
          have hbr' : b' = (rText lr bad p.b).2 := hb'.trans hnum.1
          rw [← hl', ← hlr'] at hnb
          rw [← hl', ← hb', ← hlr'] at hnum
          have hmA := H2.out.1.below ((Below.refl _ _).alloc (Nat.le_refl _) (.cells #[.slice (some ⟨gi, 0, none⟩) p.b.length (p.b.length + 12)] 26))
          have hcall := mtext_any p.b (by omega) (some ⟨gi, 0, none⟩) (p.b.length + 12) l (by omega) bad R R 30 (by decide) v w1.heap.size _ (by rw [size_alloc]; omega) hmA.m ((Blk.new w1 26 #[.slice (some ⟨gi, 0, none⟩) p.b.length (p.b.length + 12)]).cell 0) (src_lent hmA.ib) (fun ad had _ hS => by
            injection had with had
            subst had
            rcases hS with h | h
            · exact hmA.ne.2.1 h
            · exact hmA.vi h)
          rw [← hl', ← hb'] at hcall
          have HC := hide hcall
          have HA1 := hide hmA
          have HNU := hide (And.intro hnum hnb)
          have HR1 := hide (And.intro hlr' hbr')
          clear hl' hb' hlr' hbr' hcall hmA hnum hnb hsame
          go_wp2_with fail
          refine HC.out.mono ?_
          rintro e w2 ⟨rfl, v', hm2, ht2, hmv2⟩
          have hst2 := HA1.out.stepM hm2 ht2 hmv2
          have hp2 := HP.out.2.2.2.alike hbB (alike_of_below (hst2.bl.mono hBR))
          obtain ⟨Ab2, cb2, q3, hby2, hnb2⟩ := hp2.c3
          have hcall := rtext_any p.b (by omega) Ab2 cb2 lr (by omega) bad R (R + 1) 33 (by decide) vr w2 (by have := ht2.size; rw [size_alloc] at this; omega) hst2.r (bv_src hby2 hnb2) (fun ad had h0 hS => by
            obtain ⟨A', c', e, _, h3⟩ := hby2
            injection e with e1 e2 e3
            obtain ⟨bb, oo, h4, h5, _⟩ := h3 h0
            rw [← e1, had] at h4
            injection h4 with h4
            have h6 : ad.block < B := by rw [h4]; exact h5
            rcases hS with h | h
            · omega
            · have := (owned_lt hst2.r.own h).1; omega)
          rw [← HR1.out.1, ← HR1.out.2] at hcall
          have HC2 := hide hcall
          have H3 := hide hst2
          clear hm2 ht2 hmv2 hst2 hp2 hcall hby2 hnb2
          dsimp only
          go_wp2_with fail
          refine HC2.out.mono ?_
          rintro e w3 ⟨rfl, vr', hm3, ht3, hmv3⟩
          have H4 := hide (H3.out.stepR hm3 ht3 hmv3)
          clear hm3 ht3 hmv3
          dsimp only
          go_wp2_with fail
          go_meet
          have hnb := HNU.out.2
          exact ⟨rfl, l', lr', b', v', vr', H4.out, HNU.out.1.2, by omega, by omega⟩
      case rest =>
        obtain ⟨rfl, l', lr', bad', v', vr', hm, hsame, hb1, hb2⟩ := hcut
        have hRgi : R ≤ gi := by have := H1.out.bl.size; have := HR.out; omega
        have HM := hide (And.intro hm hsame)
        clear hm hsame H1 H2 HD HK0
        obtain ⟨jm, hjm⟩ : ∃ j, Try.prog.info? 30 = some j := Option.isSome_iff_exists.1 (by kernel_rfl)
        have hpn := fun (w : World) => Lib.run_neq_ptr_same (P := Try.prog) w (tp := 25) (⟨R, 0, none⟩ : Addr) Try.underlying25 hjm
        cases bad' with
        | true =>
          go_wp2_with fail
          refine (done_bad l' R R 30 v' wc HM.out.1.m).mono ?_
          rintro e w' ⟨rfl, rfl⟩
          dsimp only
          go_wp2_with fail
          refine (rdone_bad lr' R (R + 1) 33 vr' wc HM.out.1.r).mono ?_
          rintro e w' ⟨rfl, rfl⟩
          dsimp only
          go_wp2_with fail
          refine (done_bad l' R R 30 v' wc HM.out.1.m).mono ?_
          rintro e w' ⟨rfl, rfl⟩
          dsimp only
          go_wp2_with fail
          refine (sameBytes_any [] [] (by simp) (by simp) _ _ 0 wc (bytes_none0 _ _) (bytes_none0 _ _)).mono ?_
          rintro e w6 ⟨rfl, k6, hw6⟩
          have HM6 := hide (HM.out.1.below (w2 := w6) (by rw [hw6]; exact below_drewN (Below.refl _ _) k6))
          clear hw6
          have hp6 := HP.out.2.2.2.alike hbB (alike_of_below (HM6.out.bl.mono hBR))
          obtain ⟨Ab6, cb6, q6, hby6, hnb6⟩ := hp6.c3
          have HB6 := hide hby6
          clear hp6 hby6
          dsimp only
          simp only [decide_true]
          go_wp2_with fail
          refine (keptBytes_any p.b (by omega) Ab6 p.b.length cb6 gi B w6 HB6.out HM6.out.ib).mono ?_
          rintro e w7 ⟨rfl, k7, hw7⟩
          have HM7 := hide (HM6.out.below (w2 := w7) (by rw [hw7]; exact below_drewN (Below.refl _ _) k7))
          clear hw7
          dsimp only
          go_wp2_with fail
          have hmk := makes_apart (S := w7.heap.size) (na := 0) (ca := 0) (nc := 0) (cc := 0) (Aa := none) (Ac := none) (La := []) (Lc := []) HM7.out ⟨HM7.out.m.blk.lt, HM7.out.r.blk.lt, HM7.out.ib.lt, fun q hq => (owned_lt HM7.out.m.own hq).2, fun q hq => (owned_lt HM7.out.r.own hq).2⟩ (by have := HM7.out.m.blk.lt; omega) hRgi ⟨rfl, .inl ⟨rfl, rfl⟩⟩ ⟨rfl, .inl ⟨rfl, rfl⟩⟩ (fun q hq => (by cases hq)) (by omega) (by omega) (by omega)
          refine hmk.mono ?_
          rintro e w8 ⟨rfl, hm8, hr8, hb8⟩
          have H8 := hide (And.intro hm8 (And.intro hr8 hb8))
          clear hmk hm8 hr8 hb8
          dsimp only
          go_wp2_with fail
          go_roundw
          case rel => exact ⟨k + 1, l', lr', true, v', vr', by omega, by go_num, ⟨H8.out.1, H8.out.2.1, HM.out.2, HM.out.1.apart, H8.out.2.2, HM.out.1.gR, HM.out.1.grR, by rw [← HN.out.2]; exact hb1, by rw [← HN.out.2]; exact hb2⟩⟩
          case measure => simp [intOf]; omega
        | false =>
          obtain rfl := HM.out.2 rfl
          go_wp2_with fail
          refine (done_ok l' (by omega) R R 30 v' wc HM.out.1.m).mono ?_
          rintro e w3 ⟨a, rfl, own3, hbe3⟩
          obtain ⟨A3, c3, rfl⟩ := owned_slice own3
          have HM3 := hide (HM.out.1.below hbe3)
          have HO3 := hide (And.intro own3 hbe3)
          clear own3 hbe3
          dsimp only
          go_wp2_with fail
          refine (rdone_ok l' (by omega) R (R + 1) 33 vr' w3 HM3.out.r).mono ?_
          rintro e w4 ⟨a4, rfl, own4, hbe4⟩
          obtain ⟨A4, c4, rfl⟩ := owned_slice own4
          have HM4 := hide (HM3.out.below hbe4)
          have HO4 := hide (And.intro own4 hbe4)
          clear own4 hbe4
          dsimp only
          go_wp2_with fail
          refine (done_ok l' (by omega) R R 30 v' w4 HM4.out.m).mono ?_
          rintro e w5 ⟨a5, rfl, own5, hbe5⟩
          obtain ⟨A5, c5, rfl⟩ := owned_slice own5
          have HM5 := hide (HM4.out.below hbe5)
          have hk3 := (owned_keep HO3.out.1 (w' := w4) fun q _ hlt => HO4.out.2.block q hlt)
          have HK3 := hide (owned_keep hk3 (w' := w5) fun q _ hlt => hbe5.block q hlt)
          have HK4 := hide (owned_keep HO4.out.1 (w' := w5) fun q _ hlt => hbe5.block q hlt)
          have HO5 := hide (And.intro own5 hbe5)
          have HAC : Hid (∀ q, (Value.slice A3 l'.length c3).ownBlock = some q → (Value.slice A5 l'.length c5).ownBlock ≠ some q) := hide fun q h1 h2 => by
            have h3 := (owned_lt hk3 h1).2
            have h4 := (owned_lt HO5.out.1 h2).1
            omega
          clear own5 hbe5 hk3
          dsimp only
          go_wp2_with fail
          refine (sameBytes_any l' l' (by omega) (by omega) _ _ _ w5 (bytesAt_owned HK3.out) (bytesAt_owned HK4.out)).mono ?_
          rintro e w6 ⟨rfl, k6, hw6⟩
          have hd6 : Below w5.heap.size w5 w6 := by rw [hw6]; exact below_drewN (Below.refl _ _) k6
          have HM6 := hide (HM5.out.below hd6)
          have HD6 := hide hd6
          clear hw6 hd6
          have hp6 := HP.out.2.2.2.alike hbB (alike_of_below (HM6.out.bl.mono hBR))
          obtain ⟨Ab6, cb6, q6, hby6, hnb6⟩ := hp6.c3
          have HB6 := hide hby6
          clear hp6 hby6
          dsimp only
          simp only [decide_true]
          go_wp2_with fail
          refine (keptBytes_any p.b (by omega) Ab6 p.b.length cb6 gi B w6 HB6.out HM6.out.ib).mono ?_
          rintro e w7 ⟨rfl, k7, hw7⟩
          have hd7 : Below w6.heap.size w6 w7 := by rw [hw7]; exact below_drewN (Below.refl _ _) k7
          have HM7 := hide (HM6.out.below hd7)
          have hd57 := HD6.out.trans (hd7.mono HD6.out.size)
          have k37 := owned_keep HK3.out (w' := w7) fun q _ hlt => hd57.block q hlt
          have k57 := owned_keep HO5.out.1 (w' := w7) fun q _ hlt => hd57.block q hlt
          have hs3 := HO3.out.2.size
          have hs4 := HO4.out.2.size
          have k57' := owned_base k57 (base' := wc.heap.size) (fun q hq => by have := (owned_lt k57 hq).1; omega)
          have hmk := makes_apart (S := wc.heap.size) HM7.out ⟨HM.out.1.m.blk.lt, HM.out.1.r.blk.lt, HM.out.1.ib.lt, fun q hq => (owned_lt HM.out.1.m.own hq).2, fun q hq => (owned_lt HM.out.1.r.own hq).2⟩ (by have := HM.out.1.m.blk.lt; omega) hRgi k37 k57' HAC.out (by omega) (by omega) (by omega)
          have HMK := hide hmk
          clear hmk k37 k57 k57' hd57 hd7 hw7
          dsimp only
          go_wp2_with fail
          refine HMK.out.mono ?_
          rintro e w8 ⟨rfl, hm8, hr8, hb8⟩
          have H8 := hide (And.intro hm8 (And.intro hr8 hb8))
          clear hm8 hr8 hb8
          dsimp only
          go_wp2_with fail
          go_roundw
          case rel => exact ⟨k + 1, l', l', false, v', vr', by omega, by go_num, ⟨H8.out.1, H8.out.2.1, fun _ => rfl, HM.out.1.apart, H8.out.2.2, HM.out.1.gR, HM.out.1.grR, by rw [← HN.out.2]; exact hb1, by rw [← HN.out.2]; exact hb1⟩⟩
          case measure => simp [intOf]; omega
    · obtain rfl : k = ls.length := by omega
      go_wp2_with fail
      refine (awake1_any _).mono ?_
      rintro e w1 ⟨rfl, hb1⟩
      have HB1 := hide hb1
      clear hb1
      dsimp only
      go_wp2_with fail
      go_ret
      have hbl := H1.out.bl
      rw [HR.out] at hbl
      exact ⟨rfl, hbl.trans (HB1.out.mono hbl.size)⟩
end Go.Proofs.Ytjmenaplgndnnaa
