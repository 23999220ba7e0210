/- spencelaw04: both devices tell the same. package dev: where there is no device. -/
import Derived.Test.YtajeohmmobgcjaaMRDevE
import Derived.Test.YtajeohmmobgcjaaMSameBytes
import Derived.Test.YtajeohmmobgcjaaMOver
section
namespace Go.Proofs.Ytajeohmmobgcjaa
open Go Go.RowKit
set_option maxRecDepth 100000
theorem stat_neq (a b c : Int) (d : Bool) (w : World) : (binOp .neq 58 (.agg #[.int .i64 a, .int .i64 b, .int .i64 c, .bool d]) (.agg #[.int .i64 a, .int .i64 b, .int .i64 c, .bool d])).run Try.prog w = .ok (.bool false) w := by
  have hu := Try.underlying58
  have h1 := Try.underlying3
  have h2 := Try.underlying4
  go_simp
section
variable {D : Dv} {F : Nat → Prop} {g : Nat}
set_option maxHeartbeats 400000 in
theorem read_down (x : Int) (w : World) (h : DevAt w F g D) (hdn : D.dn = true) : Calls Try.prog 57 #[.pointer (some ⟨g, 0, none⟩), .int .i64 x] w fun e w' => e = .returned (.tuple #[.slice none 0 0, .int .i64 10]) ∧ Below w.heap.size w w' := by
  obtain ⟨rk, c, vp, rfl, hb, hk, hp, hok⟩ := h
  rw [hdn] at hb
  have hB0 : Below w.heap.size w (((w.alloc (.cells #[.int .i64 x] 3)).alloc (.cells #[.slice none 0 0] 48)).alloc (.cells #[.int .i64 0] 27)) := (((Below.refl _ w).alloc (Nat.le_refl _) _).alloc (by simp) _).alloc (by simp; omega) _
  have hdv := hb.below hB0 hb.lt
  have HH := hide (And.intro hdv hB0)
  have hlt := hb.lt
  clear hb hk hp hok hdv hB0
  go_enter Try.func57, Try.ntmps57
  go_wp2_with fail
  refine (able_any _ HH.out.1).mono ?_
  rintro e w' ⟨rfl, rfl⟩
  rw [if_pos rfl]
  dsimp only
  go_wp2_with fail
  refine bodyPost_ret (v := .tuple #[.slice none 0 0, .int .i64 10]) ?_ rfl ⟨rfl, ((((Below.refl _ w).alloc (Nat.le_refl _) _).alloc (by simp) _).alloc (by simp; omega) _)⟩
  simp [results, Try.f57, go_sem]
set_option maxHeartbeats 400000 in
theorem read_out (x : Int) (hx : -9223372036854775808 ≤ x ∧ x ≤ 9223372036854775807) (ho : ¬ (0 ≤ x ∧ x < (D.kept.length : Int))) (w : World) (h : DevAt w F g D) (hdn : D.dn = false) : Calls Try.prog 57 #[.pointer (some ⟨g, 0, none⟩), .int .i64 x] w fun e w' => e = .returned (.tuple #[.slice none 0 0, .int .i64 2]) ∧ Below w.heap.size w w' := by
  obtain ⟨rk, c, vp, rfl, hb, hk, hp, hok⟩ := h
  rw [hdn] at hb
  have hB0 : Below w.heap.size w (((w.alloc (.cells #[.int .i64 x] 3)).alloc (.cells #[.slice none 0 0] 48)).alloc (.cells #[.int .i64 0] 27)) := (((Below.refl _ w).alloc (Nat.le_refl _) _).alloc (by simp) _).alloc (by simp; omega) _
  have hdv := hb.below hB0 hb.lt
  have hnk := hok.n2
  have hd : decide (0 ≤ x ∧ x < (D.kept.length : Int)) = false := decide_eq_false ho
  have HH := hide (And.intro hdv hB0)
  have hlt := hb.lt
  clear hb hk hp hok hdv hB0 ho
  go_enter Try.func57, Try.ntmps57
  go_wp2_with fail
  refine (able_any _ HH.out.1).mono ?_
  rintro e w' ⟨rfl, rfl⟩
  rw [if_neg (by simp)]
  dsimp only
  go_wp2_with fail
  refine (has_any _ hnk x hx HH.out.1).mono ?_
  rintro e w' ⟨rfl, rfl⟩
  rw [hd]
  dsimp only
  go_wp2_with fail
  refine bodyPost_ret (v := .tuple #[.slice none 0 0, .int .i64 2]) ?_ rfl ⟨rfl, ((((Below.refl _ w).alloc (Nat.le_refl _) _).alloc (by simp) _).alloc (by simp; omega) _)⟩
  simp [results, Try.f57, go_sem]
end
theorem read_len {D : Dv} (hok : D.Ok) (x : Nat) (hx : x < D.kept.length) : (D.read x).length = 64 := by
  obtain ⟨b0, hkb⟩ : ∃ b, D.kept[x]? = some b := ⟨D.kept[x]'hx, List.getElem?_eq_getElem _⟩
  have h : D.read x = seenL D.pend (x : Int) b0 := by
    unfold Dv.read readL seenL
    rw [last_fold]
    simp [List.getD, hkb]
  rw [h]
  exact seen_len _ _ _ (fun p hp => (hok.p64 p hp).1) (hok.k64 b0 (List.mem_of_getElem? hkb))
theorem nil_bytes (w : World) : BytesAt w w.heap.size (.slice none 0 0) [] := ⟨none, 0, rfl, Nat.le_refl _, fun h => absurd h (by simp)⟩
theorem below_turned {R : Nat} {w0 w w' : World} {v : Value} (hb : Below R w0 w) (hR : R ≤ w0.heap.size) (ht : Turned (fun k => v.ownBlock = some k) w w') (hv : ∀ k, v.ownBlock = some k → R ≤ k) : Below R w0 w' :=
  ⟨ht.os.trans hb.os, ht.tape.trans hb.tape, ht.output.trans hb.output, Nat.le_trans hb.size ht.size, fun k hk => (ht.block k (by have := hb.size; omega) (fun e => by have := hv k e; omega)).trans (hb.block k hk)⟩
section
variable {D : Dv} {Fd Fr : Nat → Prop} {g r : Nat}
set_option maxHeartbeats 1000000 in
theorem same4_any (w : World) (h : Two 0 w w Fd Fr g r D D) (hm : D.pend.length ≤ 100000) (h60 : D.kept.length ≤ 60) : Calls Try.prog 39 #[.pointer (some ⟨g, 0, none⟩), .pointer (some ⟨r, 0, none⟩)] w fun e w' => e = .returned (.bool true) ∧ Below w.heap.size w w' := by
  have href := h.ref
  obtain ⟨ra, c, vw, us, hr⟩ := href
  obtain ⟨A, cp, rfl⟩ := hr.slice
  have hnk := hr.ok.n2
  have HT := hide h
  have HR := hide hr
  clear h hr
  go_enter Try.func39, Try.ntmps39
  go_wp2_with fail
  refine wp_made 18 [] (by kernel_rfl) (by kernel_rfl) (by intro p hp; cases hp) List.nodup_nil (by intro t ht; cases ht) ?_
  simp only [List.take_succ_cons, List.take_zero, List.drop_succ_cons, List.drop_zero]
  refine made_val (.pointer (some ⟨g, 0, none⟩)) (by kernel_rfl) (by kernel_rfl) (by kernel_rfl) (fun _ _ => by kernel_rfl) ?_
  simp only [Act.put, List.setIfInBounds_toArray, List.set_cons_zero, List.set_cons_succ]
  refine made_call (.agg #[.int .i64 (D.kept.length : Int), .int .i64 (D.pend.length : Int), .int .i64 D.de, .bool D.dn]) 36 #[.pointer (some ⟨g, 0, none⟩)] (by kernel_rfl) (by kernel_rfl) (by kernel_rfl) (fun W => by kernel_rfl) (fun W hW => statDev_any W (HT.out.mine.grow (Nat.zero_le _) hW).dev) ?_
  simp only [Act.put, List.setIfInBounds_toArray, List.set_cons_zero, List.set_cons_succ]
  refine made_val (.pointer (some ⟨r, 0, none⟩)) (by kernel_rfl) (by kernel_rfl) (by kernel_rfl) (fun _ _ => by kernel_rfl) ?_
  simp only [Act.put, List.setIfInBounds_toArray, List.set_cons_zero, List.set_cons_succ]
  refine made_call (.int .i64 (D.kept.length : Int)) 71 #[.pointer (some ⟨r, 0, none⟩)] (by kernel_rfl) (by kernel_rfl) (by kernel_rfl) (fun W => by kernel_rfl) (fun W hW => (rsectors_any W hnk (HR.out.blk.below hW HR.out.blk.lt)).mono fun e w' ⟨h1, h2⟩ => ⟨h1, by rw [h2]; exact Below.refl _ _⟩) ?_
  simp only [Act.put, List.setIfInBounds_toArray, List.set_cons_zero, List.set_cons_succ]
  refine made_val (.pointer (some ⟨r, 0, none⟩)) (by kernel_rfl) (by kernel_rfl) (by kernel_rfl) (fun _ _ => by kernel_rfl) ?_
  simp only [Act.put, List.setIfInBounds_toArray, List.set_cons_zero, List.set_cons_succ]
  refine made_val (.pointer (some ⟨r, 0, none⟩)) (by kernel_rfl) (by kernel_rfl) (by kernel_rfl) (fun _ _ => by kernel_rfl) ?_
  simp only [Act.put, List.setIfInBounds_toArray, List.set_cons_zero, List.set_cons_succ]
  refine made_val (.pointer (some ⟨r, 1, none⟩)) (by kernel_rfl) (by kernel_rfl) (by kernel_rfl) (fun _ _ => by kernel_rfl) ?_
  simp only [Act.put, List.setIfInBounds_toArray, List.set_cons_zero, List.set_cons_succ]
  refine made_val (.slice A D.pend.length cp) (by kernel_rfl) (by kernel_rfl) (by kernel_rfl) (fun W hW => exec_load_slice (o := ⟨some 19, _, _, _, _, _⟩) 80 126 (.tmp 18) rfl ⟨r, 1, none⟩ rfl _ W Try.underlying80 (((HR.out.blk.below hW HR.out.blk.lt).cell 1).trans (rdv1 ..))) ?_
  simp only [Act.put, List.setIfInBounds_toArray, List.set_cons_zero, List.set_cons_succ]
  refine made_val (.int .i64 (D.pend.length : Int)) (by kernel_rfl) (by kernel_rfl) (by kernel_rfl) (fun W hW => ?hlen) ?_
  case hlen => go_simp
  simp only [Act.put, List.setIfInBounds_toArray, List.set_cons_zero, List.set_cons_succ]
  refine made_val (.pointer (some ⟨r, 0, none⟩)) (by kernel_rfl) (by kernel_rfl) (by kernel_rfl) (fun _ _ => by kernel_rfl) ?_
  simp only [Act.put, List.setIfInBounds_toArray, List.set_cons_zero, List.set_cons_succ]
  refine made_val (.pointer (some ⟨r, 0, none⟩)) (by kernel_rfl) (by kernel_rfl) (by kernel_rfl) (fun _ _ => by kernel_rfl) ?_
  simp only [Act.put, List.setIfInBounds_toArray, List.set_cons_zero, List.set_cons_succ]
  refine made_val (.pointer (some ⟨r, 2, none⟩)) (by kernel_rfl) (by kernel_rfl) (by kernel_rfl) (fun _ _ => by kernel_rfl) ?_
  simp only [Act.put, List.setIfInBounds_toArray, List.set_cons_zero, List.set_cons_succ]
  refine made_val (.int .i64 D.de) (by kernel_rfl) (by kernel_rfl) (by kernel_rfl) (fun W hW => exec_load_cell (o := ⟨some 24, _, _, _, _, _⟩) 3 (.tmp 23) rfl ⟨r, 2, none⟩ rfl _ _ W Try.underlying3 rfl (((HR.out.blk.below hW HR.out.blk.lt).cell 2).trans (rdv2 ..))) ?_
  simp only [Act.put, List.setIfInBounds_toArray, List.set_cons_zero, List.set_cons_succ]
  refine made_val (.pointer (some ⟨r, 0, none⟩)) (by kernel_rfl) (by kernel_rfl) (by kernel_rfl) (fun _ _ => by kernel_rfl) ?_
  simp only [Act.put, List.setIfInBounds_toArray, List.set_cons_zero, List.set_cons_succ]
  refine made_val (.pointer (some ⟨r, 0, none⟩)) (by kernel_rfl) (by kernel_rfl) (by kernel_rfl) (fun _ _ => by kernel_rfl) ?_
  simp only [Act.put, List.setIfInBounds_toArray, List.set_cons_zero, List.set_cons_succ]
  refine made_val (.pointer (some ⟨r, 4, none⟩)) (by kernel_rfl) (by kernel_rfl) (by kernel_rfl) (fun _ _ => by kernel_rfl) ?_
  simp only [Act.put, List.setIfInBounds_toArray, List.set_cons_zero, List.set_cons_succ]
  refine made_val (.bool D.dn) (by kernel_rfl) (by kernel_rfl) (by kernel_rfl) (fun W hW => exec_load_cell (o := ⟨some 28, _, _, _, _, _⟩) 4 (.tmp 27) rfl ⟨r, 4, none⟩ rfl _ _ W Try.underlying4 rfl (((HR.out.blk.below hW HR.out.blk.lt).cell 4).trans (rdv4 ..))) ?_
  simp only [Act.put, List.setIfInBounds_toArray, List.set_cons_zero, List.set_cons_succ]
  refine made_val (.agg #[.int .i64 (D.kept.length : Int), .int .i64 (D.pend.length : Int), .int .i64 D.de, .bool D.dn]) (by kernel_rfl) (by kernel_rfl) (by kernel_rfl) (fun W hW => ?hbuild) ?_
  case hbuild => go_simp
  simp only [Act.put, List.setIfInBounds_toArray, List.set_cons_zero, List.set_cons_succ]
  show ∀ w', _ → _
  intro w3 hb3
  simp only [ended]
  have hstat := stat_neq (D.kept.length : Int) (D.pend.length : Int) D.de D.dn
  have H3 := hide hb3
  clear hb3
  go_wp2_with fail
  go_loopw [5] (fun v wr => ∃ z : Int, -1 ≤ z ∧ z ≤ (D.kept.length : Int) + 1 ∧ v = .int .i64 z ∧ Below w.heap.size w wr) (fun v _ => ((D.kept.length : Int) + 1 - intOf v).toNat)
  case atStart => exact ⟨-1, by omega, by omega, rfl, H3.out⟩
  case round =>
    obtain ⟨z, hz1, hz2, rfl, hbel⟩ := hrel
    have HB := hide hbel
    have hT := HT.out.grow (Nat.zero_le _) hbel
    have hR := HR.out.keep hbel.size (fun k hk _ => hbel.block k hk)
    have H4 := hide (And.intro hT hR)
    clear hbel hT hR
    go_wp2_with fail
    refine (rsectors_any wr hnk H4.out.2.blk).mono ?_
    rintro e w' ⟨rfl, rfl⟩
    dsimp only
    by_cases hzn : z ≤ (D.kept.length : Int)
    · have hz60 : z ≤ 60 := by omega
      go_wp2_with fail
      have hcase : Hid (D.dn = true) ∨ Hid (D.dn = false) := by
        cases D.dn
        · exact .inr rfl
        · exact .inl rfl
      rcases hcase with HDN | HDN
      · refine (read_down z _ H4.out.1.mine.dev HDN.out).mono ?_
        rintro e w4 ⟨rfl, hb4⟩
        have H5 := hide (And.intro hb4 (H4.out.1.grow (Nat.zero_le _) hb4))
        clear hb4
        dsimp only
        go_wp2_with fail
        refine (rread_down z w4 H5.out.2.ref HDN.out).mono ?_
        rintro e w5 ⟨rfl, rfl⟩
        dsimp only
        go_wp2_with fail
        refine (sameBytes_any [] [] (by simp) (by simp) _ _ _ _ (nil_bytes w5) (nil_bytes w5)).mono ?_
        rintro e w6 ⟨rfl, k6, hw6⟩
        have hb6 : Below w.heap.size w w6 := (HB.out.trans (Below.mono H5.out.1 HB.out.size)).trans (Below.mono (by rw [hw6]; exact below_drewN (Below.refl _ _) _) (Nat.le_trans HB.out.size H5.out.1.size))
        rw [decide_eq_true rfl]
        have H6 := hide hb6
        clear hb6 hw6
        dsimp only
        go_wp2_with fail
        go_roundw
        case rel => exact ⟨z + 1, by omega, by omega, by go_num, H6.out⟩
        case measure => simp [intOf]; omega
      · by_cases hin : 0 ≤ z ∧ z < (D.kept.length : Int)
        · obtain ⟨x, rfl⟩ : ∃ x : Nat, z = (x : Int) := ⟨z.toNat, by omega⟩
          have hx : x < D.kept.length := by omega
          have hrl := read_len HR.out.ok x hx
          have hrl2 : (D.read x).length ≤ 1099511627776 := by omega
          refine (readDev_any x hx _ H4.out.1.mine.dev HDN.out (by omega)).mono ?_
          rintro e w4 ⟨v4, rfl, ho4, hb4⟩
          have H5 := hide (And.intro hb4 (And.intro (H4.out.1.grow (Nat.zero_le _) hb4) ho4))
          clear hb4 ho4
          dsimp only
          go_wp2_with fail
          refine (rread_ok x hx w4 H5.out.2.1.ref HDN.out hm).mono ?_
          rintro e w5 ⟨v5, rfl, ho5, hb5⟩
          have hby4 : BytesAt w5 w5.heap.size v4 (D.read x) := by
            have h : w5.ownsRow _ 5 1 v4 64 (bv (D.read x)) := owned_keepN H5.out.2.2 fun k _ hl => hb5.block k hl
            rw [← hrl] at h
            exact bytesAt_owned h
          have hby5 : BytesAt w5 w5.heap.size v5 (D.read x) := by
            have h := ho5
            rw [← hrl] at h
            exact bytesAt_owned h
          have H6 := hide (And.intro (HB.out.trans (Below.mono H5.out.1 HB.out.size)) (And.intro hb5 (And.intro hby4 hby5)))
          clear hb5 ho5 hby4 hby5
          dsimp only
          go_wp2_with fail
          refine (sameBytes_any (D.read x) (D.read x) hrl2 hrl2 _ _ _ _ H6.out.2.2.1 H6.out.2.2.2).mono ?_
          rintro e w6 ⟨rfl, k6, hw6⟩
          have hb6 : Below w.heap.size w w6 := (H6.out.1.trans (Below.mono H6.out.2.1 H6.out.1.size)).trans (Below.mono (by rw [hw6]; exact below_drewN (Below.refl _ _) _) (Nat.le_trans H6.out.1.size H6.out.2.1.size))
          rw [decide_eq_true rfl]
          have H7 := hide hb6
          clear hb6 hw6
          dsimp only
          go_wp2_with fail
          go_roundw
          case rel => exact ⟨(x : Int) + 1, by omega, by omega, by go_num, H7.out⟩
          case measure => simp [intOf]; omega
        · have hout : z < 0 ∨ (D.kept.length : Int) ≤ z := by omega
          refine (read_out z (by omega) hin _ H4.out.1.mine.dev HDN.out).mono ?_
          rintro e w4 ⟨rfl, hb4⟩
          have H5 := hide (And.intro hb4 (H4.out.1.grow (Nat.zero_le _) hb4))
          clear hb4
          dsimp only
          go_wp2_with fail
          refine (rread_out z hout w4 H5.out.2.ref HDN.out).mono ?_
          rintro e w5 ⟨rfl, rfl⟩
          dsimp only
          go_wp2_with fail
          refine (sameBytes_any [] [] (by simp) (by simp) _ _ _ _ (nil_bytes w5) (nil_bytes w5)).mono ?_
          rintro e w6 ⟨rfl, k6, hw6⟩
          have hb6 : Below w.heap.size w w6 := (HB.out.trans (Below.mono H5.out.1 HB.out.size)).trans (Below.mono (by rw [hw6]; exact below_drewN (Below.refl _ _) _) (Nat.le_trans HB.out.size H5.out.1.size))
          rw [decide_eq_true rfl]
          have H6 := hide hb6
          clear hb6 hw6
          dsimp only
          go_wp2_with fail
          go_roundw
          case rel => exact ⟨z + 1, by omega, by omega, by go_num, H6.out⟩
          case measure => simp [intOf]; omega
    · obtain rfl : z = (D.kept.length : Int) + 1 := by omega
      go_wp2_with fail
      have hfl : D.kept.flatten.length = D.kept.length * 64 := flat_len _ HR.out.ok.k64
      refine (keptDev_any _ H4.out.1.mine.dev).mono ?_
      rintro e w4 ⟨v4, rfl, ho4, hb4⟩
      have hR4 := H4.out.2.keep hb4.size (fun k hk _ => hb4.block k hk)
      have hby4 : BytesAt w4 w4.heap.size v4 D.kept.flatten := by
        have h := ho4
        rw [← hfl] at h
        exact bytesAt_owned h
      have hby5 : BytesAt w4 w4.heap.size (.slice (some ⟨ra, 0, none⟩) (D.kept.length * 64) c) D.kept.flatten := by
        have h := hR4.all
        rw [kept_bv] at h
        have e : D.kept.length * 64 = D.kept.flatten.length := hfl.symm
        rw [e] at h ⊢
        exact bytesAt_owned h
      have c0 := (hR4.blk.cell 0).trans (rdv0 ..)
      have hltr := hR4.blk.lt
      have H5 := hide (And.intro hby4 (And.intro hby5 (And.intro ho4 hb4)))
      have hsm : D.kept.flatten.length ≤ 1099511627776 := by omega
      clear hby4 hby5 ho4 hb4 hR4 hfl
      dsimp only
      go_wp2_with fail
      refine (sameBytes_any D.kept.flatten D.kept.flatten hsm hsm _ _ _ _ H5.out.1 H5.out.2.1).mono ?_
      rintro e w5 ⟨rfl, k5, hw5⟩
      have hb5 : Below w4.heap.size w4 w5 := by rw [hw5]; exact below_drewN (Below.refl _ _) _
      have ho5 := owned_keepN H5.out.2.2.1 (w' := w5) fun k _ hl => hb5.block k hl
      rw [decide_eq_true rfl]
      have H6 := hide (And.intro ((HB.out.trans (Below.mono H5.out.2.2.2 HB.out.size)).trans (Below.mono hb5 (Nat.le_trans HB.out.size H5.out.2.2.2.size))) ho5)
      clear hb5 hw5 ho5
      dsimp only
      go_wp2_with fail
      refine (overBytes_any _ (D.kept.length * 64) (by omega) v4 _ w5 H6.out.2).mono ?_
      rintro e w6 ⟨rfl, ht6⟩
      have hb6 := below_turned H6.out.1 (Nat.le_refl _) ht6 (fun k hk => by have := (owned_ltN H6.out.2 hk).1; have := HB.out.size; omega)
      have H7 := hide hb6
      clear hb6 ht6
      dsimp only
      go_wp2_with fail
      go_ret
      exact ⟨rfl, H7.out⟩
end
end Go.Proofs.Ytajeohmmobgcjaa
end
section
namespace Go.Proofs.Ytajeohmmobgcjaa
open Go Go.RowKit
/-- no device: nil, or one that has no sectors -/
def NoDev (w : World) (p : Option Addr) : Prop := p = none ∨ ∃ g, p = some ⟨g, 0, none⟩ ∧ Blk w g 107 (dv 0 0 false (.slice none 0 0) (.slice none 0 0))
theorem NoDev.below {w w' : World} {p : Option Addr} (h : NoDev w p) (hb : Below w.heap.size w w') : NoDev w' p := by
  rcases h with h | ⟨g, h1, h2⟩
  · exact .inl h
  · exact .inr ⟨g, h1, h2.below hb h2.lt⟩
set_option maxRecDepth 100000
theorem dnone_no (p : Option Addr) (w : World) (h : NoDev w p) : Calls Try.prog 63 #[.pointer p] w fun e w' => e = .returned (.bool true) ∧ w' = w := by
  rcases h with rfl | ⟨g, rfl, hb⟩
  · go_enter Try.func63, Try.ntmps63
    go_wp2
    go_ret
    exact ⟨rfl, rfl⟩
  · have c3 := (hb.cell 3).trans (dv3 ..)
    have hlt := hb.lt
    have hq := fun (w : World) (a : Option Addr) (n c : Nat) => Lib.run_eql_slice_nil (P := Try.prog) w 102 109 a n c 0 0 Try.underlying102
    clear hb
    go_enter Try.func63, Try.ntmps63
    go_wp2
    go_ret
    exact ⟨rfl, rfl⟩
theorem able_no (p : Option Addr) (w : World) (h : NoDev w p) : Calls Try.prog 58 #[.pointer p] w fun e w' => e = .returned (.int .i64 1) ∧ w' = w := by
  go_enter Try.func58, Try.ntmps58
  go_wp2_with fail
  refine (dnone_no _ _ h).mono ?_
  rintro e w' ⟨rfl, rfl⟩
  dsimp only
  go_wp2_with fail
  go_ret
  exact ⟨rfl, rfl⟩
theorem write_no (p : Option Addr) (x : Int) (v : Value) (w : World) (h : NoDev w p) : Calls Try.prog 27 #[.pointer p, .int .i64 x, v] w fun e w' => e = .returned (.int .i64 1) ∧ w' = w := by
  go_enter Try.func27, Try.ntmps27
  go_wp2_with fail
  refine (able_no _ _ h).mono ?_
  rintro e w' ⟨rfl, rfl⟩
  dsimp only
  go_wp2_with fail
  go_ret
  exact ⟨rfl, rfl⟩
theorem flush_no (p : Option Addr) (w : World) (h : NoDev w p) : Calls Try.prog 29 #[.pointer p] w fun e w' => e = .returned (.int .i64 1) ∧ w' = w := by
  go_enter Try.func29, Try.ntmps29
  go_wp2_with fail
  refine (able_no _ _ h).mono ?_
  rintro e w' ⟨rfl, rfl⟩
  dsimp only
  go_wp2_with fail
  go_ret
  exact ⟨rfl, rfl⟩
theorem fuse_no (p : Option Addr) (x : Int) (w : World) (h : NoDev w p) : Calls Try.prog 35 #[.pointer p, .int .i64 x] w fun e w' => e = .returned (.int .i64 1) ∧ w' = w := by
  go_enter Try.func35, Try.ntmps35
  go_wp2_with fail
  refine (able_no _ _ h).mono ?_
  rintro e w' ⟨rfl, rfl⟩
  dsimp only
  go_wp2_with fail
  go_ret
  exact ⟨rfl, rfl⟩
theorem crash_no (p : Option Addr) (w : World) (h : NoDev w p) : Calls Try.prog 32 #[.pointer p] w fun e w' => e = .returned (.int .i64 1) ∧ w' = w := by
  go_enter Try.func32, Try.ntmps32
  go_wp2_with fail
  refine (able_no _ _ h).mono ?_
  rintro e w' ⟨rfl, rfl⟩
  dsimp only
  go_wp2_with fail
  go_ret
  exact ⟨rfl, rfl⟩
theorem wake_no (p : Option Addr) (x : Int) (w : World) (h : NoDev w p) : Calls Try.prog 33 #[.pointer p, .int .i64 x] w fun e w' => e = .returned (.int .i64 1) ∧ w' = w := by
  go_enter Try.func33, Try.ntmps33
  go_wp2_with fail
  refine (able_no _ _ h).mono ?_
  rintro e w' ⟨rfl, rfl⟩
  dsimp only
  go_wp2_with fail
  go_ret
  exact ⟨rfl, rfl⟩
theorem spoil_no (p : Option Addr) (x y : Int) (w : World) (h : NoDev w p) : Calls Try.prog 69 #[.pointer p, .int .i64 x, .int .i64 y] w fun e w' => e = .returned (.int .i64 1) ∧ w' = w := by
  go_enter Try.func69, Try.ntmps69
  go_wp2_with fail
  refine (dnone_no _ _ h).mono ?_
  rintro e w' ⟨rfl, rfl⟩
  dsimp only
  go_wp2_with fail
  go_ret
  exact ⟨rfl, rfl⟩
theorem kept_no (p : Option Addr) (w : World) (h : NoDev w p) : Calls Try.prog 30 #[.pointer p] w fun e w' => e = .returned (.slice none 0 0) ∧ w' = w := by
  go_enter Try.func30, Try.ntmps30
  go_wp2_with fail
  refine (dnone_no _ _ h).mono ?_
  rintro e w' ⟨rfl, rfl⟩
  dsimp only
  go_wp2_with fail
  go_ret
  exact ⟨rfl, rfl⟩
theorem read_no (p : Option Addr) (x : Int) (w : World) (h : NoDev w p) : Calls Try.prog 57 #[.pointer p, .int .i64 x] w fun e w' => e = .returned (.tuple #[.slice none 0 0, .int .i64 1]) ∧ Below w.heap.size w w' := by
  have hB0 : Below w.heap.size w (((w.alloc (.cells #[.int .i64 x] 3)).alloc (.cells #[.slice none 0 0] 48)).alloc (.cells #[.int .i64 0] 27)) := (((Below.refl _ w).alloc (Nat.le_refl _) _).alloc (by simp) _).alloc (by simp; omega) _
  have HH := hide (h.below hB0)
  clear hB0
  go_enter Try.func57, Try.ntmps57
  go_wp2_with fail
  refine (able_no _ _ HH.out).mono ?_
  rintro e w' ⟨rfl, rfl⟩
  dsimp only
  go_wp2_with fail
  refine bodyPost_ret (v := .tuple #[.slice none 0 0, .int .i64 1]) ?_ rfl ⟨rfl, ((((Below.refl _ w).alloc (Nat.le_refl _) _).alloc (by simp) _).alloc (by simp; omega) _)⟩
  simp [results, Try.f57, go_sem]
theorem stat_no (p : Option Addr) (w : World) (h : NoDev w p) : Calls Try.prog 36 #[.pointer p] w fun e w' => e = .returned (.agg #[.int .i64 0, .int .i64 0, .int .i64 0, .bool false]) ∧ Below w.heap.size w w' := by
  have hB0 : Below w.heap.size w (w.alloc (.cells #[.int .i64 0, .int .i64 0, .int .i64 0, .bool false] 58)) := (Below.refl _ w).alloc (Nat.le_refl _) _
  have HH := hide (And.intro (h.below hB0) hB0)
  clear hB0
  go_enter Try.func36, Try.ntmps36
  go_wp2_with fail
  refine (dnone_no _ _ HH.out.1).mono ?_
  rintro e w' ⟨rfl, rfl⟩
  dsimp only
  go_wp2_with fail
  refine bodyPost_ret (results_cell_row rfl _ _ w.heap.size 58 #[.int .i64 0, .int .i64 0, .int .i64 0, .bool false] (0, 0) _ rfl (Blk.new _ _ _) Try.underlying58 rfl (by kernel_rfl)) rfl ⟨rfl, HH.out.2⟩
end Go.Proofs.Ytajeohmmobgcjaa
end
