/- spencelaw01.CodeBack is true, whatever it is asked of. -/
import Derived.Test.YtcckmnabjjamfaaGot
namespace Go.Proofs.Ytcckmnabjjamfaa
open Go.RowKit
theorem putL_len (ls : List Part) : ∀ (l : List UInt8) (bad : Bool), (∀ p ∈ ls, i64 p.n) → (putL l bad ls).1.length ≤ l.length + 10 * ls.length + many ls := by
  induction ls with
  | nil => intro l bad _; simp [putL, many]
  | cons p ls ih =>
    intro l bad h
    have h1 := put1_len l bad p (h p (by simp))
    have h2 := ih (put1 l bad p).1 (put1 l bad p).2 (fun q hq => h q (by simp [hq]))
    show (putL (put1 l bad p).1 (put1 l bad p).2 ls).1.length ≤ _
    have h3 : many (p :: ls) = p.b.length + many ls := by simp [many]
    simp only [List.length_cons]
    omega
theorem putL_take (ls : List Part) (k : Nat) (h : k < ls.length) : putL [] false (ls.take (k + 1)) = put1 (putL [] false (ls.take k)).1 (putL [] false (ls.take k)).2 (ls.getD k ⟨0, 0, 0, []⟩) := by
  rw [List.take_succ_eq_append_getElem h, putL_snoc]
  simp [List.getD, h]
theorem owned_nil {w : World} {base n cap : Nat} {A : Option Addr} {e : TypeId} {xs : List Value} (h : w.ownsRow base e 1 (.slice A n cap) n xs) : A = none → cap = 0 := by
  intro hA
  rcases owned_form h with ⟨e, _⟩ | ⟨q, cp, cur, e, _⟩
  · injection e
  · injection e with e1
    rw [hA] at e1; cases e1
set_option maxRecDepth 100000 in
set_option maxHeartbeats 1000000 in
theorem codeBack_big (l : List UInt8) (hl : l.length ≤ 140737488355328) (A : Option Addr) (cap : Nat) (ls : List Part) (hls : ls.length ≤ 140737488355328) (hlb : ∀ p ∈ ls, p.b.length ≤ 140737488355328) (v : Value) (hbig : 4000 < ls.length + many ls + l.length) (w : World) (hv : PartsM w w.heap.size v ls) :
    Calls Try.prog 7 #[v, .slice A l.length cap] w fun e w' => e = .returned (.bool true) ∧ Below w.heap.size w w' := by
  have HV := hide hv
  clear hv
  go_enter Try.func7, Try.ntmps7
  go_wp2_with fail
  refine (awake1_any _).mono ?_
  rintro e w1 ⟨rfl, hb1⟩
  have HB1 := hide hb1
  clear hb1
  dsimp only
  go_wp2_with fail
  refine (size1_any ls hls hlb v w.heap.size _ (HV.out.alike (alike_of_below HB1.out))).mono ?_
  rintro e w' ⟨r, rfl, rfl, hr1, hr2⟩
  have hr3 : (4000 : Int) < (r : Int) + (l.length : Int) := by omega
  have hr4 : 0 ≤ (r : Int) := by omega
  clear hr2
  dsimp only
  go_wp2_with fail
  go_ret
  exact ⟨rfl, HB1.out⟩
set_option maxRecDepth 100000 in
set_option maxHeartbeats 4000000 in
theorem codeBack_small (l : List UInt8) (A : Option Addr) (cap : Nat) (hnil : A = none → cap = 0) (ls : List Part) (v : Value) (hsm : ls.length + many ls + l.length ≤ 4000) (w : World) (hv : PartsM w w.heap.size v ls) (hby : BytesAt w w.heap.size (.slice A l.length cap) l) :
    Calls Try.prog 7 #[v, .slice A l.length cap] w fun e w' => e = .returned (.bool true) ∧ Below w.heap.size w w' := by
  have h0 : l.length ≤ 4000 := by omega
  have hls : ls.length ≤ 4000 := by omega
  have hlb : ∀ p ∈ ls, p.b.length ≤ 4000 := fun p hp => by
    obtain ⟨j, hj⟩ := List.getElem?_of_mem hp
    have hjl : j < ls.length := (List.getElem?_eq_some_iff.1 hj).1
    have := many_get ls j hjl
    rw [List.getD_eq_getElem?_getD, hj] at this
    simp only [Option.getD_some] at this
    omega
  obtain ⟨i, hi, hz0, hz1, hz2⟩ := info_parts info_u8
  have HV := hide hv
  have HBY := hide hby
  have HN := hide hnil
  have HLB := hide hlb
  obtain ⟨Al, capl, rfl, hcapl, hAl⟩ := hv
  have HI64 : Hid (∀ p ∈ ls, i64 p.n) := hide fun p hp => by
    obtain ⟨j, hj⟩ := List.getElem?_of_mem hp
    have hjl : j < ls.length := (List.getElem?_eq_some_iff.1 hj).1
    obtain ⟨b, off, _, _, h3⟩ := hAl (by omega)
    have h4 := (h3 j hjl).k1
    rwa [List.getD_eq_getElem?_getD, hj] at h4
  have HAL := hide hAl
  obtain ⟨R, hR⟩ : ∃ R, R = putL [] false ls := ⟨_, rfl⟩
  have hRl : R.1.length ≤ 44000 := by
    have h := putL_len ls [] false HI64.out
    rw [← hR] at h
    simp only [List.length_nil] at h
    omega
  have HR := hide hR
  clear hby hnil hAl hlb hR
  go_enter Try.func7, Try.ntmps7
  go_wp2_with fail
  refine (awake1_any _).mono ?_
  rintro e w1 ⟨rfl, hb1⟩
  have hs1 := hb1.size
  have HB1 := hide hb1
  clear hb1
  dsimp only
  go_wp2_with fail
  refine (size1_any ls (by omega) (fun p hp => by have := HLB.out p hp; omega) _ w.heap.size _ (HV.out.alike (alike_of_below HB1.out))).mono ?_
  rintro e w' ⟨r, rfl, rfl, hr1, hr2⟩
  have hr3 : (r : Int) + (l.length : Int) ≤ 4000 := by omega
  have hr4 : 0 ≤ (r : Int) := by omega
  clear hr2
  obtain ⟨gm, hgm⟩ : ∃ gm, gm = w1.heap.size := ⟨_, rfl⟩
  have hgw : w.heap.size ≤ gm := by omega
  obtain ⟨w3, hw3⟩ : ∃ w3, w3 = w1.alloc (.cells #[.slice none 0 0, .bool false] 44) := ⟨_, rfl⟩
  have hm0 : MkAt w3 gm gm 44 [] false (.slice none 0 0) ∧ Below w.heap.size w w3 := by
    rw [hw3, hgm]
    exact ⟨⟨Blk.new w1 _ _, rfl, .inl ⟨rfl, rfl⟩⟩, HB1.out.alloc hs1 _⟩
  have HM0 := hide hm0
  clear hm0
  dsimp only
  go_upto_block 0 with fail
  rw [← hgm, ← hw3]
  clear hgm hw3
  go_cut [6] (fun _ wx => ∃ v' : Value, MkAt wx gm gm 44 R.1 R.2 v' ∧ Below w.heap.size w wx)
  case first =>
    go_wp2_with fail
    go_loopw [6] (fun i wr => ∃ k : Nat, k ≤ ls.length ∧ i = .int .i64 (k : Int) ∧ ∃ v' : Value, MkAt wr gm gm 44 (putL [] false (ls.take k)).1 (putL [] false (ls.take k)).2 v' ∧ Below w.heap.size w wr) (fun i _ => ls.length - (intOf i).toNat)
    case atStart => exact ⟨0, by omega, rfl, _, HM0.out.1, HM0.out.2⟩
    case round =>
      obtain ⟨k, hk, rfl, v3, hm, hb⟩ := hrel
      by_cases hlt : k < ls.length
      · obtain ⟨b, off, rfl, hbB, hpc⟩ := HAL.out (by omega)
        have hp := (hpc k hlt).alike hbB (alike_of_below hb)
        obtain ⟨q, hq⟩ : ∃ q, q = ls.getD k ⟨0, 0, 0, []⟩ := ⟨_, rfl⟩
        rw [← hq] at hp
        have hqb : q.b.length ≤ 4000 := by rw [hq]; exact HLB.out _ (by simp [List.getD, hlt])
        have p0 := hp.c0
        have p1 := hp.c1
        obtain ⟨Ab, cb, p3, hbq, hnq⟩ := hp.c3
        have hsrc := bv_src hbq hnq
        have hblk : ∀ ad, Ab = some ad → 0 < q.b.length → ad.block < w.heap.size := by
          intro ad had h0
          obtain ⟨A', c', e, _, h3⟩ := hbq
          injection e with e1 e2 e3
          obtain ⟨bb, oo, h4, h5, _⟩ := h3 h0
          rw [← e1, had] at h4
          injection h4 with h4
          rw [h4]; exact h5
        have hmt := putL_take ls k hlt
        rw [← hq] at hmt
        obtain ⟨mb, hmb⟩ : ∃ mb, mb = (putL [] false (ls.take k)).1 := ⟨_, rfl⟩
        obtain ⟨bad, hbad⟩ : ∃ bad, bad = (putL [] false (ls.take k)).2 := ⟨_, rfl⟩
        rw [← hmb, ← hbad] at hm hmt
        have hml : mb.length ≤ 44000 := by
          have h := putL_len (ls.take k) [] false (fun p hp => HI64.out p (List.mem_of_mem_take hp))
          have h2 := many_take_le ls k
          rw [← hmb] at h
          simp only [List.length_nil, List.length_take] at h
          omega
        have hw3 : q.what % 3 = 0 ∨ q.what % 3 = 1 ∨ q.what % 3 = 2 := by omega
        have HP := hide (And.intro hp.k0 hp.k1)
        have HM := hide (And.intro hm hb)
        have HMT := hide hmt
        have HSRC := hide (And.intro hsrc hblk)
        have hbase : gm ≤ wr.heap.size := by have := hm.blk.lt; omega
        have i1 : (0 : Int) ≤ (k : Int) := by omega
        have i2 : (k : Int) < (ls.length : Int) := by omega
        have hnotS : Hid (∀ ad, Ab = some ad → 0 < q.b.length → ¬ MkS gm v3 ad.block) := hide fun ad had h0 hS => by
          have h1 := HSRC.out.2 ad had h0
          rcases hS with h | h
          · omega
          · have := (owned_lt HM.out.1.own h).1; omega
        clear hpc hp hq hm hb hbq hnq hsrc hblk hmt hmb hbad
        obtain ⟨kd, hkd⟩ : ∃ kd, kd = q.what % 3 := ⟨_, rfl⟩
        rw [← hkd] at hw3
        have HKD := hide hkd
        clear hkd
        have fin : Hid (∀ w5, Turned (MkS gm v3) wr w5 → Below w.heap.size w w5) := hide fun w5 ht => by
          have h1 := HM.out.2
          have h2 := h1.size
          exact ⟨ht.os.trans h1.os, ht.tape.trans h1.tape, ht.output.trans h1.output, Nat.le_trans h2 ht.size, fun k hk => (ht.block k (by omega) (fun hS => by
            rcases hS with h | h
            · omega
            · have := (owned_lt HM.out.1.own h).1; omega)).trans (h1.block k hk)⟩
        rcases hw3 with rfl | rfl | rfl
        · go_wp2_with (first
            | (go_at_call 18; refine (pick_any q.what 3 _ (by omega) (by omega) HP.out.1).mono ?_; rintro e w' ⟨rfl, rfl⟩; rw [← HKD.out])
            | (go_at_call 23; refine (mnum_any q.n HP.out.2 mb (by omega) bad gm gm 44 (by decide) v3 wr.heap.size _ (by rw [size_alloc]; omega) ⟨HM.out.1.blk.alloc _, HM.out.1.own.alloc _⟩ ((Blk.new wr 3 #[.int .i64 q.n]).cell 0)).mono ?_; rintro e w5 ⟨rfl, v5, hm5, ht5, hmv5⟩; have HM5 := hide (And.intro hm5 (((Turned.refl _ wr).alloc _).trans ht5)); clear hm5 ht5 hmv5))
          go_roundw
          case rel =>
            refine ⟨k + 1, by omega, by go_num, v5, ?_, fin.out _ HM5.out.2⟩
            rw [HMT.out, put1, if_pos HKD.out.symm]
            exact HM5.out.1
          case measure => simp [intOf]; omega
        · go_wp2_with (first
            | (go_at_call 18; refine (pick_any q.what 3 _ (by omega) (by omega) HP.out.1).mono ?_; rintro e w' ⟨rfl, rfl⟩; rw [← HKD.out])
            | (go_at_call 25; refine (mraw_any q.b (by omega) Ab cb mb (by omega) bad gm gm 44 (by decide) v3 _ hbase HM.out.1 HSRC.out.1).mono ?_; rintro e w5 ⟨rfl, v5, hm5, ht5, hmv5⟩; have HM5 := hide (And.intro hm5 ht5); clear hm5 ht5 hmv5))
          go_roundw
          case rel =>
            refine ⟨k + 1, by omega, by go_num, v5, ?_, fin.out _ HM5.out.2⟩
            rw [HMT.out, put1, if_neg (by rw [← HKD.out]; omega), if_pos HKD.out.symm]
            exact HM5.out.1
          case measure => simp [intOf]; omega
        · go_wp2_with (first
            | (go_at_call 18; refine (pick_any q.what 3 _ (by omega) (by omega) HP.out.1).mono ?_; rintro e w' ⟨rfl, rfl⟩; rw [← HKD.out])
            | (go_at_call 27; refine (mtext_any q.b (by omega) Ab cb mb (by omega) bad gm gm 44 (by decide) v3 wr.heap.size _ (by rw [size_alloc]; omega) ⟨HM.out.1.blk.alloc _, HM.out.1.own.alloc _⟩ ((Blk.new wr 40 #[.slice Ab q.b.length cb]).cell 0) (HSRC.out.1.alloc _) hnotS.out).mono ?_; rintro e w5 ⟨rfl, v5, hm5, ht5, hmv5⟩; have HM5 := hide (And.intro hm5 (((Turned.refl _ wr).alloc _).trans ht5)); clear hm5 ht5 hmv5))
          go_roundw
          case rel =>
            refine ⟨k + 1, by omega, by go_num, v5, ?_, fin.out _ HM5.out.2⟩
            rw [HMT.out, put1, if_neg (by rw [← HKD.out]; omega), if_neg (by rw [← HKD.out]; omega)]
            exact HM5.out.1
          case measure => simp [intOf]; omega
      · obtain rfl : k = ls.length := by omega
        rw [List.take_of_length_le (Nat.le_refl _), ← HR.out] at hm
        have HM := hide (And.intro hm hb)
        clear hm hb
        go_wp2_with fail
        go_meet
        exact ⟨v3, HM.out.1, HM.out.2⟩
  case rest =>
    obtain ⟨v3, hm, hb⟩ := hcut
    have hsc := hb.size
    have HM := hide (And.intro hm hb)
    have hbc := (HBY.out.alike (alike_of_below hb)).mono hsc
    have HBC := hide hbc
    clear hm hb hbc
    obtain ⟨mb, hmb⟩ : ∃ mb, mb = R.1 := ⟨_, rfl⟩
    rw [← hmb] at hRl
    have HMB := hide hmb
    cases hbad : R.2 with
    | true =>
      have HM2 := hide (show MkAt wc gm gm 44 mb true v3 by rw [hmb, ← hbad]; exact HM.out.1)
      clear hmb hbad
      go_wp2_with (go_at_call 29; refine (done_bad mb gm gm 44 v3 _ HM2.out).mono ?_; rintro e w' ⟨rfl, rfl⟩)
      go_ret
      exact ⟨rfl, HM.out.2⟩
    | false =>
      have HM2 := hide (show MkAt wc gm gm 44 mb false v3 by rw [hmb, ← hbad]; exact HM.out.1)
      have hpo := putL_ok ls [] (by rw [← HR.out]; exact hbad)
      rw [← HR.out, ← hmb, List.nil_append] at hpo
      have HPO := hide hpo
      clear hmb hbad hpo
      go_wp2_with (first
        | (go_at_call 29; refine (done_ok mb (by omega) gm gm 44 v3 _ HM2.out).mono ?_; rintro e w4 ⟨v4, rfl, own4, hb4⟩; obtain ⟨A4, cap4, rfl⟩ := owned_slice own4; have hs4 := hb4.size; have HX4 := hide (And.intro own4 hb4); clear own4 hb4; have HOW := hide (And.intro (owned_new w4 5) ((owned_src HX4.out.1).alloc (.cells #[] 5))))
        | (at_builtin; (refine wpList_app (o := ⟨some 76, _, _, _, _, _⟩) rfl (.tmp 74) (.tmp 75) 40 rfl w4.heap.size 5 i (.int .u8 0) 1 Try.underlying40 hi hz0 hz1 hz2 rfl _ 0 [] HOW.out.1 A4 mb.length cap4 (bv mb) HOW.out.2 (by simp only [maxLen]; omega) (by omega) (by rw [size_alloc]; omega) rfl rfl ?_); intro v5 w5 own5 gr5 mv5 _; simp only [Nat.zero_add, List.nil_append] at own5; obtain ⟨A5, cap5, rfl⟩ := owned_slice own5; have hs5 : w4.heap.size + 1 ≤ w5.heap.size := (by have := gr5.size; rw [size_alloc] at this; exact this); have hb5 : Below w.heap.size w w5 := ((HM.out.2.trans (HX4.out.2.mono hsc)).alloc (by omega) _).grown gr5 (by rw [size_alloc]; omega) (by intro k hk; injection hk with hk; change w4.heap.size = k at hk; omega); have hk5 : Below w4.heap.size w4 w5 := ((Below.refl _ w4).alloc (Nat.le_refl _) _).grown gr5 (by rw [size_alloc]; omega) (by intro k hk; injection hk with hk; change w4.heap.size = k at hk; omega); have HX5 := hide (And.intro own5 (And.intro hb5 hk5)); have HSL := hide (show Src w5 A l.length cap (bv l) from bv_src (HBY.out.alike (alike_of_below hb5)) HN.out); clear own5 gr5 mv5 hb5 hk5)
        | (at_builtin; (refine wpList_app (o := ⟨some 78, _, _, _, _, _⟩) rfl (.tmp 76) (.tmp 77) 40 rfl w4.heap.size 5 i (.int .u8 0) 1 Try.underlying40 hi hz0 hz1 hz2 rfl _ mb.length (bv mb) HX5.out.1 A l.length cap (bv l) HSL.out (by simp only [maxLen]; omega) (by omega) (by omega) rfl rfl ?_); intro v6 w6 own6 gr6 mv6 _; obtain ⟨A6, cap6, rfl⟩ := owned_slice own6; have hs6 := gr6.size; have hk6 : Below w4.heap.size w4 w6 := HX5.out.2.2.grown gr6 (by omega) (fun k hk => (owned_lt HX5.out.1 hk).1); have HX6 := hide (And.intro own6 hk6); have HB6 := hide (show BytesAt w6 w6.heap.size (.slice A6 (mb.length + l.length) cap6) (mb ++ l) from bytesAt_owned (by rw [bvA, List.length_append]; exact own6)); clear own6 gr6 mv6 hk6)
        | (go_at_call 38; refine (over_any (mb ++ l) (by rw [List.length_append]; omega) A6 (mb.length + l.length) cap6 w6.heap.size _ HB6.out (owned_nil HX6.out.1)).mono ?_; rintro e w7 ⟨g, rb, A7, cap7, rfl, hg, hrb, hcu, hb7⟩; have hs7 := hb7.size; have HX7 := hide (And.intro hcu hb7); clear hcu hb7))
      have hbl7 : Below w.heap.size w w7 := ((HM.out.2.trans (HX4.out.2.mono hsc)).trans (HX6.out.2.mono (by omega))).trans (HX7.out.2.mono (by omega))
      have hg8 := gotL_ok ls l HPO.out.2
      rw [← HPO.out.1] at hg8
      have hcall := got_any ls hls HLB.out _ w.heap.size ⟨mb ++ l, 0⟩ (by simp only [List.length_append]; omega) g rb (by omega) A7 cap7 w7 hbl7.size (HV.out.alike (alike_of_below hbl7)) HX7.out.1
      rw [hg8] at hcall
      refine hcall.mono ?_
      rintro e w8 ⟨rfl, A8, cap8, hcu8, ht8⟩
      have hs8 := ht8.size
      have hbl8 : Below w.heap.size w w8 := by
        have h1 := hbl7.size
        exact ⟨ht8.os.trans hbl7.os, ht8.tape.trans hbl7.tape, ht8.output.trans hbl7.output, Nat.le_trans h1 hs8, fun k hk => (ht8.block k (by omega) (by show ¬ k = g; omega)).trans (hbl7.block k hk)⟩
      have own8 : w8.ownsRow wc.heap.size 5 1 (.slice A4 mb.length cap4) mb.length (bv mb) := by
        have h1 : w7.ownsRow wc.heap.size 5 1 (.slice A4 mb.length cap4) mb.length (bv mb) :=
          owned_keep (owned_keep HX4.out.1 fun q _ hq => HX6.out.2.block q hq) fun q _ hq => HX7.out.2.block q hq
        exact owned_turned h1 ht8 fun q hq => by
          have := (owned_lt HX4.out.1 hq).2
          show ¬ q = g
          omega
      have hcap4 : mb.length ≤ cap4 := by
        obtain ⟨_, _, e, h, _⟩ := bytesAt_owned HX4.out.1
        injection e with _ _ e; omega
      have HX8 := hide (And.intro hcu8 (And.intro hbl8 own8))
      clear hg8 hcall hbl7 hcu8 ht8 hbl8 own8
      dsimp only
      have hen : ((Cu.mk l 0).end_ : Int) = if l.length = 0 then 0 else 4 := by
        unfold Cu.end_
        by_cases h : l.length = 0
        · have h1 : l = [] := List.eq_nil_of_length_eq_zero h
          rw [if_pos h, if_neg (by simp [h1])]; rfl
        · have h1 : l ≠ [] := fun e => h (by rw [e]; rfl)
          rw [if_neg h, if_pos ⟨rfl, h1⟩]; rfl
      have hcend := cend_any ⟨l, 0⟩ g 119 rb A8 cap8
      obtain ⟨z, hz⟩ : ∃ z : Int, z = ((Cu.mk l 0).end_ : Int) := ⟨_, rfl⟩
      rw [← hz] at hen hcend
      have HCE := hide hcend
      have HEN := hide hen
      clear hen hz hcend
      obtain ⟨be, hbe⟩ : ∃ be : Bool, be = (z == 0) := ⟨_, rfl⟩
      have hb2 : ((l.length : Int) == 0) = be := by
        rw [hbe, HEN.out]
        by_cases h : l.length = 0
        · rw [if_pos h, h]; rfl
        · rw [if_neg h]; exact (beq_eq_false_iff_ne.2 (by omega)).trans (by rfl)
      have hb1 : (z == 0) = be := hbe.symm
      have hb3 : (be != be) = false := by cases be <;> rfl
      have hne : ((l.length : Int) != (l.length : Int)) = false := by simp
      clear hbe
      by_cases hm0 : mb.length = 0
      · have hm1 : ((mb.length : Int) == 0) = true := by simp [hm0]
        clear hm0
        go_wp2_with (first
          | (go_at_call 40; refine (cleft_any ⟨l, 0⟩ g 119 rb A8 cap8 _ HX8.out.1).mono ?_; rintro e w' ⟨rfl, rfl⟩)
          | (go_at_call 41; refine (HCE.out _ HX8.out.1).mono ?_; rintro e w' ⟨rfl, rfl⟩))
        go_ret
        exact ⟨rfl, HX8.out.2.1⟩
      · have hm1 : ((mb.length : Int) == 0) = false := beq_eq_false_iff_ne.2 (by omega)
        have hm2 : ((mb.length : Int) - 1) = ((mb.length - 1 : Nat) : Int) := by omega
        have hk1 : ∀ W, (Instr.sliceAt 40 (.slice A4 mb.length cap4) none (some (.int .i64 ((mb.length : Int) - 1))) none).run Try.prog W = .ok (.slice A4 (mb.length - 1) cap4) W := by
          rw [hm2]
          exact run_slice_to (P := Try.prog) 40 5 Try.underlying40 size5 A4 mb.length cap4 (mb.length - 1) (by omega)
        have hcut : BytesAt w8 w8.heap.size (.slice A4 (mb.length - 1) cap4) (mb.take (mb.length - 1)) := (bytesAt_owned HX8.out.2.2).take (mb.length - 1) (by omega)
        have hcl : (mb.take (mb.length - 1)).length = mb.length - 1 := by rw [List.length_take]; omega
        obtain ⟨mt, hmt⟩ : ∃ mt, mt = mb.take (mb.length - 1) := ⟨_, rfl⟩
        rw [← hmt] at hcut hcl
        obtain ⟨R2, hR2⟩ : ∃ R2, R2 = gotL ⟨mt, 0⟩ ls := ⟨_, rfl⟩
        have hon := gotL_only ls ⟨mt, 0⟩ HPO.out.2
        rw [← HPO.out.1, ← hR2] at hon
        have hgd : ∀ (A' : Option Addr) (c' g' rb' : Nat) (W : World), w.heap.size ≤ g' → Below w.heap.size w W → CuAt W g' 119 rb' ⟨mt, 0⟩ A' c' → Calls Try.prog 39 #[.pointer (some ⟨g', 0, none⟩), .slice Al ls.length capl] W fun e w' => e = .returned (.bool R2.1) ∧ ∃ A'' cap'', CuAt w' g' 119 rb' R2.2 A'' cap'' ∧ Turned (· = g') W w' := by
          intro A' c' g' rb' W hg' hbW hcW
          have h := got_any ls hls HLB.out _ w.heap.size ⟨mt, 0⟩ (by rw [hcl]; omega) g' rb' hg' A' c' W hbW.size (HV.out.alike (alike_of_below hbW)) hcW
          rwa [← hR2] at h
        obtain ⟨b2, hb2r⟩ : ∃ b2, b2 = R2.1 := ⟨_, rfl⟩
        rw [← hb2r] at hgd hon
        have HGD := hide hgd
        have HON := hide hon
        have HCUT := hide hcut
        have HCL := hide hcl
        have hmtl : mt.length ≤ 44000 := by omega
        have hnn := owned_nil HX8.out.2.2
        have hml2 : mt.length ≤ 1099511627776 := by omega
        have HOV := hide (over_any mt hml2 A4 (mb.length - 1) cap4 w8.heap.size w8 HCUT.out hnn)
        have hw8 := HX8.out.2.1.size
        clear hgd hon hcut hcl hmt hm2 hR2 hb2r hnn hml2
        have hbl10 : Hid (∀ (g9 : Nat) (w9 w10 : World), w.heap.size ≤ g9 → Below w.heap.size w w9 → Turned (· = g9) w9 w10 → Below w.heap.size w w10) := hide fun g9 w9 w10 hg hb ht => by
          have h1 := hb.size
          exact ⟨ht.os.trans hb.os, ht.tape.trans hb.tape, ht.output.trans hb.output, Nat.le_trans h1 ht.size, fun k hk => (ht.block k (by omega) (by show ¬ k = g9; omega)).trans (hb.block k hk)⟩
        have hm00 : 0 < mb.length := by omega
        clear hm0
        cases b2 with
        | false =>
          go_wp2_with (first
            | (go_at_call 40; refine (cleft_any ⟨l, 0⟩ g 119 rb A8 cap8 _ HX8.out.1).mono ?_; rintro e w' ⟨rfl, rfl⟩)
            | (go_at_call_of 41 (Value.pointer (some ⟨g, 0, none⟩)); refine (HCE.out _ HX8.out.1).mono ?_; rintro e w' ⟨rfl, rfl⟩)
            | (go_at_call 38; refine HOV.out.mono ?_; rintro e w9 ⟨g9, rb9, A9, cap9, rfl, hg9, hrb9, hcu9, hb9⟩; have hs9 := hb9.size; have HX9 := hide (And.intro hcu9 (HX8.out.2.1.trans (hb9.mono HX8.out.2.1.size))); clear hcu9 hb9 hrb9)
            | (go_at_call 39; have hgw9 : w.heap.size ≤ g9 := (by omega); have HCG := hide (HGD.out A9 cap9 g9 rb9 w9 hgw9 HX9.out.2 HX9.out.1); refine HCG.out.mono ?_; rintro e w10 ⟨rfl, A10, cap10, hcu10, ht10⟩; have HX10 := hide (And.intro hcu10 ht10); clear hcu10 ht10))
          go_ret
          exact ⟨rfl, hbl10.out g9 w9 _ hgw9 HX9.out.2 HX10.out.2⟩
        | true =>
          go_wp2_with (first
            | (go_at_call 40; refine (cleft_any ⟨l, 0⟩ g 119 rb A8 cap8 _ HX8.out.1).mono ?_; rintro e w' ⟨rfl, rfl⟩)
            | (go_at_call_of 41 (Value.pointer (some ⟨g, 0, none⟩)); refine (HCE.out _ HX8.out.1).mono ?_; rintro e w' ⟨rfl, rfl⟩)
            | (go_at_call 38; refine HOV.out.mono ?_; rintro e w9 ⟨g9, rb9, A9, cap9, rfl, hg9, hrb9, hcu9, hb9⟩; have hs9 := hb9.size; have HX9 := hide (And.intro hcu9 (HX8.out.2.1.trans (hb9.mono HX8.out.2.1.size))); clear hcu9 hb9 hrb9)
            | (go_at_call 39; have hgw9 : w.heap.size ≤ g9 := (by omega); have HCG := hide (HGD.out A9 cap9 g9 rb9 w9 hgw9 HX9.out.2 HX9.out.1); refine HCG.out.mono ?_; rintro e w10 ⟨rfl, A10, cap10, hcu10, ht10⟩; have HX10 := hide (And.intro hcu10 ht10); clear hcu10 ht10))
          have hend : ((R2.2.end_ : Int) != 0) = true := by
            rw [bne_iff_ne]
            intro h
            have h1 : R2.2.end_ = 0 := by omega
            have h2 : R2.2.wrong = 0 ∧ R2.2.rest = [] := by
              unfold Cu.end_ at h1
              split at h1
              · cases h1
              · rename_i h3
                refine ⟨h1, ?_⟩
                cases hr : R2.2.rest with
                | nil => rfl
                | cons x r => exact absurd ⟨h1, by rw [hr]; simp⟩ h3
            have h3 := HON.out (by simp) h2.1
            rw [h2.2] at h3
            have h4 : mt.length = mb.length + 0 := h3
            have := HCL.out
            omega
          refine (cend_any R2.2 g9 119 rb9 A10 cap10 _ HX10.out.1).mono ?_
          rintro e w' ⟨rfl, rfl⟩
          dsimp only
          go_wp2_with fail
          go_ret
          exact ⟨rfl, hbl10.out g9 w9 _ hgw9 HX9.out.2 HX10.out.2⟩
end Go.Proofs.Ytcckmnabjjamfaa
