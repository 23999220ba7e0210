/- spencelaw01.CodeOne is true, whatever it is asked of. -/
import Derived.Test.YtcckmnabjjamfaaAwakeCode
import Derived.Test.YtcckmnabjjamfaaPartsM
import Derived.Test.YtcckmnabjjamfaaOneLaw
import Derived.Test.YtcckmnabjjamfaaPick
namespace Go.Proofs.Ytcckmnabjjamfaa
open Go.RowKit
/-- a cursor and a maker, beside one another, in memory of the law's own -/
structure OneSt (w wr : World) (g rb gm : Nat) (c : Cu) (A : Option Addr) (cap : Nat) (mb : List UInt8) (bad : Bool) (v : Value) : Prop where
  cu : CuAt wr g 119 rb c A cap
  maker : MkAt wr gm gm 44 mb bad v
  bl : Below w.heap.size w wr
  lo : w.heap.size ≤ g ∧ g < gm
  rb : 0 < c.rest.length → rb < gm
theorem OneSt.got {w wr w1 : World} {g rb gm : Nat} {c c' : Cu} {A A' : Option Addr} {cap cap' : Nat} {mb : List UInt8} {bad : Bool} {v : Value} (h : OneSt w wr g rb gm c A cap mb bad v) (hc : CuAt w1 g 119 rb c' A' cap') (ht : Turned (· = g) wr w1) (hle : c'.rest.length ≤ c.rest.length) : OneSt w w1 g rb gm c' A' cap' mb bad v :=
  ⟨hc, ⟨h.maker.blk.turned ht (by have := h.lo; show ¬ gm = g; omega), owned_turned h.maker.own ht fun q hq => by
      have := (owned_lt h.maker.own hq).1
      have := h.lo
      show ¬ q = g
      omega⟩,
    (by
      have h1 := h.bl.size
      exact ⟨ht.os.trans h.bl.os, ht.tape.trans h.bl.tape, ht.output.trans h.bl.output, Nat.le_trans h1 ht.size, fun k hk => (ht.block k (by omega) (by have := h.lo; show ¬ k = g; omega)).trans (h.bl.block k hk)⟩), h.lo, fun h0 => h.rb (by omega)⟩
theorem OneSt.put {w wr w1 : World} {g rb gm : Nat} {c : Cu} {A : Option Addr} {cap : Nat} {mb mb' : List UInt8} {bad bad' : Bool} {v v' : Value} (h : OneSt w wr g rb gm c A cap mb bad v) (hm : MkAt w1 gm gm 44 mb' bad' v') (ht : Turned (MkS gm v) wr w1) : OneSt w w1 g rb gm c A cap mb' bad' v' := by
  have hS : ∀ k, MkS gm v k → gm ≤ k := fun k hk => by
    rcases hk with hk | hk
    · omega
    · exact (owned_lt h.maker.own hk).1
  have h1 := h.bl.size
  have hlo := h.lo
  refine ⟨h.cu.turned ht (fun hk => by have := hS _ hk; omega) (fun h0 hk => by have := hS _ hk; have := h.rb h0; omega), hm, ?_, h.lo, h.rb⟩
  exact ⟨ht.os.trans h.bl.os, ht.tape.trans h.bl.tape, ht.output.trans h.bl.output, Nat.le_trans h1 ht.size, fun k hk => (ht.block k (by omega) (fun hS' => by have := hS k hS'; omega)).trans (h.bl.block k hk)⟩
theorem OneSt.more {w wr w1 : World} {g rb gm : Nat} {c : Cu} {A : Option Addr} {cap : Nat} {mb : List UInt8} {bad : Bool} {v : Value} (h : OneSt w wr g rb gm c A cap mb bad v) (hb : Below wr.heap.size wr w1) : OneSt w w1 g rb gm c A cap mb bad v :=
  ⟨h.cu.below hb, h.maker.keep hb, h.bl.trans (hb.mono h.bl.size), h.lo, h.rb⟩
theorem BytesAt.mono {w : World} {B B' : Nat} {v : Value} {l : List UInt8} (h : BytesAt w B v l) (hB : B ≤ B') : BytesAt w B' v l := by
  obtain ⟨A, cap, h1, h2, h3⟩ := h
  exact ⟨A, cap, h1, h2, fun h0 => by obtain ⟨b, off, h4, h5, h6⟩ := h3 h0; exact ⟨b, off, h4, by omega, h6⟩⟩
/-- a row that one owns, as what is appended -/
theorem owned_src {w : World} {base cap : Nat} {A : Option Addr} {l : List UInt8} (h : w.ownsRow base 5 1 (.slice A l.length cap) l.length (bv l)) : Src w A l.length cap (bv l) :=
  bv_src (bytesAt_owned h) (by
    intro hA
    rcases owned_form h with ⟨e, _⟩ | ⟨q, cp, cur, e, _⟩
    · injection e
    · injection e with e1
      rw [hA] at e1; cases e1)
abbrev mkObj : Obj := .cells #[.slice none 0 0, .bool false] 44
/-- two new makers, and a number -/
theorem two_a (W : World) (o : Obj) : MkAt (((W.alloc mkObj).alloc mkObj).alloc o) W.heap.size W.heap.size 44 [] false (.slice none 0 0) :=
  ⟨((Blk.new W _ _).alloc _).alloc _, rfl, .inl ⟨rfl, rfl⟩⟩
theorem two_b (W : World) (o : Obj) : MkAt (((W.alloc mkObj).alloc mkObj).alloc o) (W.heap.size + 1) (W.heap.size + 1) 44 [] false (.slice none 0 0) :=
  ⟨(Blk.new1 W _ _ _).alloc _, rfl, .inl ⟨rfl, rfl⟩⟩
theorem two_x (W : World) (x : Value) (t : TypeId) : (((W.alloc mkObj).alloc mkObj).alloc (.cells #[x] t)).cell? ⟨W.heap.size + 1 + 1, 0, none⟩ = some x := by
  have h := (Blk.new1 (W.alloc mkObj) mkObj t #[x]).cell 0
  rw [size_alloc] at h
  exact h
theorem two_below (W : World) (o : Obj) : Below W.heap.size W (((W.alloc mkObj).alloc mkObj).alloc o) :=
  (((Below.refl _ _).alloc (Nat.le_refl _) _).alloc (by rw [size_alloc]; omega) _).alloc (by rw [size_alloc, size_alloc]; omega) _
theorem MkAt.other {w w' : World} {base g T g' : Nat} {l : List UInt8} {bad : Bool} (h : MkAt w base g T l bad (.slice none 0 0)) (ht : Turned (MkS g' (.slice none 0 0)) w w') (hne : g ≠ g') : MkAt w' base g T l bad (.slice none 0 0) :=
  ⟨h.blk.turned ht (by
    intro hS
    rcases hS with hS | hS
    · exact hne hS
    · cases hS), owned_turned h.own ht (by intro q hq; cases hq)⟩
theorem mkNum_yes (x : Int) (h : (mkNum [] false x).2 = false) : 0 ≤ x ∧ x ≤ 1099511627776 ∧ (mkNum [] false x).1 = num x.toNat := by
  unfold mkNum at h ⊢
  split at h
  · rename_i h1
    rw [if_pos h1, if_neg (by simp)]
    exact ⟨h1.1, h1.2, by simp⟩
  · cases h
set_option maxRecDepth 100000 in
set_option maxHeartbeats 1000000 in
theorem codeOne_big (l : List UInt8) (hl : l.length ≤ 140737488355328) (A : Option Addr) (cap : Nat) (ls : List Part) (hls : ls.length ≤ 140737488355328) (hlb : ∀ p ∈ ls, p.b.length ≤ 140737488355328) (v : Value) (x y : Int) (hbig : 4000 < ls.length + many ls + l.length) (w : World) (hv : PartsM w w.heap.size v ls) :
    Calls Try.prog 8 #[.slice A l.length cap, v, .int .i64 x, .int .i64 y] w fun e w' => e = .returned (.bool true) ∧ Below w.heap.size w w' := by
  have HV := hide hv
  clear hv
  go_enter Try.func8, Try.ntmps8
  go_wp2_with fail
  refine (awake1_any _).mono ?_
  rintro e w1 ⟨rfl, hb1⟩
  have HB1 := hide hb1
  clear hb1
  dsimp only
  go_wp2_with fail
  refine (size1_any ls hls hlb v w.heap.size _ (HV.out.alike (alike_of_below HB1.out))).mono ?_
  rintro e w' ⟨r, rfl, rfl, hr1, hr2⟩
  have hr3 : (4000 : Int) < (r : Int) + (l.length : Int) := by omega
  have hr4 : 0 ≤ (r : Int) := by omega
  clear hr2
  dsimp only
  go_wp2_with fail
  go_ret
  exact ⟨rfl, HB1.out⟩
set_option maxRecDepth 100000 in
set_option maxHeartbeats 4000000 in
theorem codeOne_small (l : List UInt8) (A : Option Addr) (cap : Nat) (hnil : A = none → cap = 0) (ls : List Part) (v : Value) (x y : Int) (hx : i64 x) (hy : i64 y) (hsm : ls.length + many ls + l.length ≤ 4000) (w : World) (hv : PartsM w w.heap.size v ls) (hby : BytesAt w w.heap.size (.slice A l.length cap) l) :
    Calls Try.prog 8 #[.slice A l.length cap, v, .int .i64 x, .int .i64 y] w fun e w' => e = .returned (.bool true) ∧ Below w.heap.size w w' := by
  have h0 : l.length ≤ 4000 := by omega
  have hls : ls.length ≤ 4000 := by omega
  have hlb : ∀ p ∈ ls, p.b.length ≤ 140737488355328 := fun p hp => by
    obtain ⟨j, hj⟩ := List.getElem?_of_mem hp
    have hjl : j < ls.length := (List.getElem?_eq_some_iff.1 hj).1
    have := many_get ls j hjl
    rw [List.getD_eq_getElem?_getD, hj] at this
    simp only [Option.getD_some] at this
    omega
  have HV := hide hv
  have HBY := hide hby
  have HN := hide hnil
  have HXY := hide (And.intro hx hy)
  have HLB := hide hlb
  obtain ⟨Al, capl, rfl, hcapl, hAl⟩ := hv
  have HAL := hide hAl
  clear hby hnil hx hy hAl hlb
  go_enter Try.func8, Try.ntmps8
  go_wp2_with fail
  refine (awake1_any _).mono ?_
  rintro e w1 ⟨rfl, hb1⟩
  have hs1 := hb1.size
  have HB1 := hide hb1
  clear hb1
  dsimp only
  go_wp2_with fail
  refine (size1_any ls (by omega) HLB.out _ w.heap.size _ (HV.out.alike (alike_of_below HB1.out))).mono ?_
  rintro e w' ⟨r, rfl, rfl, hr1, hr2⟩
  have hr3 : (r : Int) + (l.length : Int) ≤ 4000 := by omega
  have hr4 : 0 ≤ (r : Int) := by omega
  clear hr2
  dsimp only
  go_wp2_with fail
  refine (over_any l (by omega) _ _ _ w.heap.size _ (HBY.out.alike (alike_of_below HB1.out)) HN.out).mono ?_
  rintro e w2 ⟨g, rb, A2, c2, rfl, hg, hrb, hcu, hb2⟩
  have hs2 := hb2.size
  have hgl := hcu.blk.lt
  obtain ⟨gm, hgm⟩ : ∃ gm, gm = w2.heap.size := ⟨_, rfl⟩
  have hst0 : OneSt w (w2.alloc (.cells #[.slice none 0 0, .bool false] 44)) g rb gm ⟨l, 0⟩ A2 c2 [] false (.slice none 0 0) := by
    have hal : Below w2.heap.size w2 (w2.alloc (.cells #[.slice none 0 0, .bool false] 44)) := (Below.refl _ _).alloc (Nat.le_refl _) _
    refine ⟨hcu.below hal, ⟨?_, rfl, .inl ⟨rfl, rfl⟩⟩, (HB1.out.trans (hb2.mono hs1)).trans (hal.mono (by omega)), ⟨by omega, by omega⟩, fun h => by have := (hrb h).2; omega⟩
    rw [hgm]
    exact Blk.new w2 _ _
  have hrl0 : ∃ (c : Cu) (A : Option Addr) (cap : Nat) (mb : List UInt8) (bad : Bool) (v' : Value), OneSt w (w2.alloc (.cells #[.slice none 0 0, .bool false] 44)) g rb gm c A cap mb bad v' ∧ OneInv l c mb bad ∧ c.rest.length ≤ 4000 ∧ mb.length ≤ 0 * 8100 :=
    ⟨_, _, _, _, _, _, hst0, fun _ => ⟨rfl, rfl⟩, h0, by simp⟩
  have HRL := hide hrl0
  have HGM := hide hgm
  have hgms : gm < (w2.alloc (.cells #[.slice none 0 0, .bool false] 44)).heap.size := by rw [size_alloc]; omega
  clear hcu hb2 hst0 hrl0
  obtain ⟨w3, hw3⟩ : ∃ w3, w3 = w2.alloc (.cells #[.slice none 0 0, .bool false] 44) := ⟨_, rfl⟩
  dsimp only
  go_upto_block 0 with fail
  rw [← hgm, ← hw3]
  rw [← hw3] at HRL hgms
  clear hgm hw3
  go_cut [11] (fun _ wx => ∃ (c : Cu) (A : Option Addr) (cap : Nat) (mb : List UInt8) (bad : Bool) (v' : Value), OneSt w wx g rb gm c A cap mb bad v' ∧ OneInv l c mb bad ∧ c.rest.length ≤ 4000 ∧ mb.length ≤ 4000 * 8100)
  case first =>
    go_wp2_with fail
    go_loopw [11] (fun i wr => ∃ k : Nat, k ≤ ls.length ∧ i = .int .i64 (k : Int) ∧ ∃ (c : Cu) (A : Option Addr) (cap : Nat) (mb : List UInt8) (bad : Bool) (v' : Value), OneSt w wr g rb gm c A cap mb bad v' ∧ OneInv l c mb bad ∧ c.rest.length ≤ 4000 ∧ mb.length ≤ k * 8100) (fun i _ => ls.length - (intOf i).toNat)
    case atStart => exact ⟨0, by omega, rfl, HRL.out⟩
    case round =>
      obtain ⟨k, hk, rfl, c, A3, cap3, mb, bad, v3, hst, hinv, hrest, hmb⟩ := hrel
      have hmb2 : mb.length ≤ 4000 * 8100 := Nat.le_trans hmb (Nat.mul_le_mul_right _ (by omega))
      have HI := hide hinv
      have HST := hide hst
      clear hinv
      by_cases hlt : k < ls.length
      · by_cases hlf : 0 < c.rest.length
        · obtain ⟨b, off, rfl, hbB, hpc⟩ := HAL.out (by omega)
          have hp := (hpc k hlt).alike hbB (alike_of_below HST.out.bl)
          obtain ⟨q, hq⟩ : ∃ q, q = ls.getD k ⟨0, 0, 0, []⟩ := ⟨_, rfl⟩
          rw [← hq] at hp
          have p0 := hp.c0
          have p2 := hp.c2
          have hk0 := hp.k0
          have hk2 := hp.k2
          have hw3 : q.what % 3 = 0 ∨ q.what % 3 = 1 ∨ q.what % 3 = 2 := by omega
          have HP := hide (And.intro hk0 hk2)
          have i1 : (0 : Int) ≤ (k : Int) := by omega
          have i2 : (k : Int) < (ls.length : Int) := by omega
          have i3 : (0 : Int) < (c.rest.length : Int) := by omega
          have hbase : gm ≤ wr.heap.size := by have := HST.out.maker.blk.lt; omega
          clear hpc hp hq hk0 hk2
          obtain ⟨kd, hkd⟩ : ∃ kd, kd = q.what % 3 := ⟨_, rfl⟩
          rw [← hkd] at hw3
          have HKD := hide hkd
          clear hkd
          rcases hw3 with rfl | rfl | rfl
          · obtain ⟨n, hn⟩ : ∃ n, n = (c.num 1099511627776).1 := ⟨_, rfl⟩
            have hn2 : n ≤ 1099511627776 := by
              rw [hn]
              rcases num_cases c 1099511627776 with ⟨m, t, _, h1, h2, _⟩ | h1
              · rw [h1]; exact h2
              · rw [h1]; simp
            have hcall := cnum_any 1099511627776 (by omega) c (by omega) g 119 rb A3 cap3 wr HST.out.cu
            rw [← hn] at hcall
            have HCALL := hide hcall
            have HNN := hide hn
            clear hcall hn
            go_wp2_with (first
              | (go_at_call 40; refine (cleft_any c g 119 rb A3 cap3 _ HST.out.cu).mono ?_; rintro e w' ⟨rfl, rfl⟩)
              | (go_at_call 18; refine (pick_any q.what 3 _ (by omega) (by omega) HP.out.1).mono ?_; rintro e w' ⟨rfl, rfl⟩; rw [← HKD.out])
              | (go_at_call 42; refine HCALL.out.mono ?_; rintro e w4 ⟨rfl, A4, cap4, hc4, ht4⟩; have hs4 := ht4.size; have HST4 := hide (HST.out.got hc4 ht4 (rest_le_num _ _)); clear hc4 ht4)
              | (go_at_call 23; refine (mnum_any (n : Int) (by omega) mb (by omega) bad gm gm 44 (by decide) v3 w4.heap.size _ (by rw [size_alloc]; omega) ⟨HST4.out.maker.blk.alloc _, HST4.out.maker.own.alloc _⟩ ((Blk.new w4 3 #[.int .i64 (n : Int)]).cell 0)).mono ?_; rintro e w5 ⟨rfl, v5, hm5, ht5, hmv5⟩; have HST5 := hide ((HST4.out.more ((Below.refl _ _).alloc (Nat.le_refl _) _)).put hm5 ht5); clear hm5 ht5 hmv5))
            go_roundw
            case rel =>
              have h1 := HI.out.num 1099511627776
              rw [← HNN.out] at h1
              have h2 := rest_le_num c 1099511627776
              have h3 := mkNum_len mb bad (n : Int) (by omega)
              exact ⟨k + 1, by omega, by go_num, _, A4, cap4, _, _, v5, HST5.out, h1, by omega, by omega⟩
            case measure => simp [intOf]; omega
          · obtain ⟨u, hu⟩ : ∃ u, u = (c.raw q.most).1 := ⟨_, rfl⟩
            have hu2 : u.length ≤ 4000 := by rw [hu]; have := (rest_le_raw c q.most).2; omega
            have hcall := craw_any q.most HP.out.2 c (by omega) g 119 rb A3 cap3 wr HST.out.cu
            rw [← hu] at hcall
            have HCALL := hide hcall
            have HNN := hide hu
            clear hcall hu
            go_wp2_with (first
              | (go_at_call 40; refine (cleft_any c g 119 rb A3 cap3 _ HST.out.cu).mono ?_; rintro e w' ⟨rfl, rfl⟩)
              | (go_at_call 18; refine (pick_any q.what 3 _ (by omega) (by omega) HP.out.1).mono ?_; rintro e w' ⟨rfl, rfl⟩; rw [← HKD.out])
              | (go_at_call 43; refine HCALL.out.mono ?_; rintro e w4 ⟨u4, rfl, own4, A4, cap4, hc4, ht4⟩; obtain ⟨Au, cu4, rfl⟩ := owned_slice own4; have hs4 := ht4.size; have HST4 := hide (HST.out.got hc4 ht4 (rest_le_raw _ _).1); have HOW := hide own4; clear hc4 ht4 own4)
              | (go_at_call 25; refine (mraw_any u (by omega) Au cu4 mb (by omega) bad gm gm 44 (by decide) v3 _ (by omega) HST4.out.maker (owned_src HOW.out)).mono ?_; rintro e w5 ⟨rfl, v5, hm5, ht5, hmv5⟩; have HST5 := hide (HST4.out.put hm5 ht5); clear hm5 ht5 hmv5))
            go_roundw
            case rel =>
              have h1 := HI.out.raw q.most
              rw [← HNN.out] at h1
              have h2 := (rest_le_raw c q.most).1
              exact ⟨k + 1, by omega, by go_num, _, A4, cap4, _, _, v5, HST5.out, h1, by omega, by rw [List.length_append]; omega⟩
            case measure => simp [intOf]; omega
          · obtain ⟨u, hu⟩ : ∃ u, u = (c.text 4000).1 := ⟨_, rfl⟩
            have hu2 : u.length ≤ 4000 := by rw [hu]; have := (rest_le_text c 4000).2; omega
            have hcall := ctext_any 4000 (by omega) c (by omega) g 119 rb A3 cap3 wr HST.out.cu
            rw [← hu] at hcall
            have HCALL := hide hcall
            have HNN := hide hu
            clear hcall hu
            go_wp2_with (first
              | (go_at_call 40; refine (cleft_any c g 119 rb A3 cap3 _ HST.out.cu).mono ?_; rintro e w' ⟨rfl, rfl⟩)
              | (go_at_call 18; refine (pick_any q.what 3 _ (by omega) (by omega) HP.out.1).mono ?_; rintro e w' ⟨rfl, rfl⟩; rw [← HKD.out])
              | (go_at_call 44; refine HCALL.out.mono ?_; rintro e w4 ⟨u4, rfl, own4, A4, cap4, hc4, ht4⟩; obtain ⟨Au, cu4, rfl⟩ := owned_slice own4; have hs4 := ht4.size; have HST4 := hide (HST.out.got hc4 ht4 (rest_le_text _ _).1); have HOW := hide own4; clear hc4 ht4 own4)
              | (go_at_call 27; refine (mtext_any u (by omega) Au cu4 mb (by omega) bad gm gm 44 (by decide) v3 w4.heap.size _ (by rw [size_alloc]; omega) ⟨HST4.out.maker.blk.alloc _, HST4.out.maker.own.alloc _⟩ ((Blk.new w4 40 #[.slice Au u.length cu4]).cell 0) ((owned_src HOW.out).alloc _) (fun ad had _ hS => by
                  have h1 := owned_lt HOW.out (g := ad.block) (by rw [had]; rfl)
                  have h2 := HST.out.maker.blk.lt
                  rcases hS with h | h
                  · omega
                  · have := (owned_lt HST.out.maker.own h).2; omega)).mono ?_; rintro e w5 ⟨rfl, v5, hm5, ht5, hmv5⟩; have HST5 := hide ((HST4.out.more ((Below.refl _ _).alloc (Nat.le_refl _) _)).put hm5 ht5); clear hm5 ht5 hmv5))
            go_roundw
            case rel =>
              have h1 := HI.out.text 4000 (by omega)
              rw [← HNN.out] at h1
              have h2 := (rest_le_text c 4000).1
              have h3 := mkText_len mb bad u
              exact ⟨k + 1, by omega, by go_num, _, A4, cap4, _, _, v5, HST5.out, h1, by omega, by omega⟩
            case measure => simp [intOf]; omega
        · go_wp2_with (go_at_call 40; refine (cleft_any c g 119 rb A3 cap3 _ HST.out.cu).mono ?_; rintro e w' ⟨rfl, rfl⟩)
          go_meet
          exact ⟨c, A3, cap3, mb, bad, v3, HST.out, HI.out, hrest, hmb2⟩
      · go_wp2_with fail
        go_meet
        exact ⟨c, A3, cap3, mb, bad, v3, HST.out, HI.out, hrest, hmb2⟩
  case rest =>
    obtain ⟨c, A3, cap3, mb, bad, v3, hst, hinv, hrest, hmb⟩ := hcut
    have hsc := hst.bl.size
    have hbyc : BytesAt wc wc.heap.size (.slice A l.length cap) l := (HBY.out.alike (alike_of_below hst.bl)).mono hsc
    have HST := hide hst
    have HBC := hide hbyc
    have HI := hide hinv
    clear hst hinv hbyc
    have hz0 : (0 : Int) ≤ (c.end_ : Int) := by omega
    obtain ⟨z, hz⟩ : ∃ z : Int, z = (c.end_ : Int) := ⟨_, rfl⟩
    have hcend := cend_any c g 119 rb A3 cap3
    rw [← hz] at hcend hz0
    have HEND := hide hcend
    have HZ := hide hz
    clear hz hcend
    by_cases hE : z = 0
    · obtain ⟨hbad, hmbl⟩ := HI.out.end_ (by have := HZ.out; omega)
      subst hbad hmbl
      subst hE
      go_wp2_with (first
        | (go_at_call 29; refine (done_ok mb (by omega) gm gm 44 v3 _ HST.out.maker).mono ?_; rintro e w4 ⟨v4, rfl, own4, hb4⟩; have HX4 := hide (And.intro own4 hb4); clear own4 hb4)
        | (go_at_call 41; refine (HEND.out _ (HST.out.cu.below HX4.out.2)).mono ?_; rintro e w' ⟨rfl, rfl⟩)
        | (go_at_call 31; refine (sameBytes_any mb mb (by omega) (by omega) _ _ _ _ (bytesAt_owned HX4.out.1) ((HBC.out.alike (alike_of_below HX4.out.2)).mono HX4.out.2.size)).mono ?_; rintro e w5 ⟨rfl, k5, hw5⟩; rw [show decide (mb = mb) = true from by simp]; have HB5 := hide (show Below w.heap.size w w5 by rw [hw5]; exact below_drewN (HST.out.bl.trans (HX4.out.2.mono HST.out.bl.size)) k5); clear hw5))
      have s5 := HB5.out.size
      obtain ⟨lx, hlx⟩ : ∃ lx, lx = (mkNum [] false x).1 := ⟨_, rfl⟩
      obtain ⟨bx, hbx⟩ : ∃ bx, bx = (mkNum [] false x).2 := ⟨_, rfl⟩
      obtain ⟨ly, hly⟩ : ∃ ly, ly = (mkNum [] false y).1 := ⟨_, rfl⟩
      obtain ⟨by_, hby_⟩ : ∃ by_, by_ = (mkNum [] false y).2 := ⟨_, rfl⟩
      have llx : lx.length ≤ 10 := by have h := mkNum_len [] false x (by have := HXY.out.1.2; omega); rw [← hlx] at h; simpa using h
      have lly : ly.length ≤ 10 := by have h := mkNum_len [] false y (by have := HXY.out.2.2; omega); rw [← hly] at h; simpa using h
      have hcall := mnum_any x HXY.out.1 [] (by simp) false w5.heap.size w5.heap.size 44 (by decide) (.slice none 0 0) (w5.heap.size + 1 + 1) _ (by rw [size_alloc, size_alloc, size_alloc]; omega) (two_a w5 _) (two_x w5 (.int .i64 x) 3)
      rw [← hlx, ← hbx] at hcall
      refine hcall.mono ?_
      rintro e w6 ⟨rfl, v6, hm6, ht6, _⟩
      have ho6 := (two_b w5 (.cells #[.int .i64 x] 3)).other ht6 (by omega)
      have hb6 : Below w5.heap.size w5 w6 := ht6.below_new (two_below w5 _) (fun k _ hS => by
        rcases hS with h | h
        · omega
        · cases h)
      have s6 := hb6.size
      have s6b := ho6.blk.lt
      have HM6 := hide (And.intro hm6 (And.intro ho6 hb6))
      have HXL := hide (And.intro hlx (And.intro hbx (And.intro hly hby_)))
      clear hcall hm6 ht6 ho6 hb6 hlx hbx hly hby_
      dsimp only
      cases bx with
      | true =>
        go_wp2_with (go_at_call 29; refine (done_bad lx w5.heap.size w5.heap.size 44 v6 _ HM6.out.1).mono ?_; rintro e w' ⟨rfl, rfl⟩)
        have hcall := mnum_any y HXY.out.2 [] (by simp) false (w5.heap.size + 1) (w5.heap.size + 1) 44 (by decide) (.slice none 0 0) w6.heap.size _ (by rw [size_alloc]; omega) ⟨HM6.out.2.1.blk.alloc _, HM6.out.2.1.own.alloc _⟩ ((Blk.new w6 3 #[.int .i64 y]).cell 0)
        rw [← HXL.out.2.2.1, ← HXL.out.2.2.2] at hcall
        refine hcall.mono ?_
        rintro e w7 ⟨rfl, v7, hm7, ht7, _⟩
        have hb7 : Below w6.heap.size w6 w7 ∨ True := .inr trivial
        have HM7 := hide (And.intro hm7 ht7)
        clear hcall hm7 ht7 hb7
        dsimp only
        have hfin : Below w.heap.size w w7 := by
          have t1 := HB5.out.trans (HM6.out.2.2.mono s5)
          have t2 := t1.alloc (by omega) (.cells #[.int .i64 y] 3)
          exact HM7.out.2.below_new t2 (fun k _ hS => by
            rcases hS with h | h
            · omega
            · cases h)
        have s7 := HM7.out.1.blk.lt
        have s7b := hfin.size
        have HF := hide hfin
        clear hfin
        cases by_ with
        | true =>
          go_wp2_with (go_at_call 29; refine (done_bad ly (w5.heap.size + 1) (w5.heap.size + 1) 44 v7 _ HM7.out.1).mono ?_; rintro e w' ⟨rfl, rfl⟩)
          go_ret
          exact ⟨rfl, HF.out⟩
        | false =>
          go_wp2_with (go_at_call 29; refine (done_ok ly (by omega) (w5.heap.size + 1) (w5.heap.size + 1) 44 v7 _ HM7.out.1).mono ?_; rintro e w8 ⟨v8, rfl, own8, hb8⟩; have HX8 := hide (And.intro own8 hb8); clear own8 hb8)
          go_ret
          exact ⟨rfl, HF.out.trans (HX8.out.2.mono s7b)⟩
      | false =>
        go_wp2_with (go_at_call 29; refine (done_ok lx (by omega) w5.heap.size w5.heap.size 44 v6 _ HM6.out.1).mono ?_; rintro e w6b ⟨vx, rfl, ownx, hbx6⟩; have s6c := hbx6.size; have HX6 := hide (And.intro ownx hbx6); clear ownx hbx6)
        have ho6b := HM6.out.2.1.keep HX6.out.2
        have hcall := mnum_any y HXY.out.2 [] (by simp) false (w5.heap.size + 1) (w5.heap.size + 1) 44 (by decide) (.slice none 0 0) w6b.heap.size _ (by rw [size_alloc]; omega) ⟨ho6b.blk.alloc _, ho6b.own.alloc _⟩ ((Blk.new w6b 3 #[.int .i64 y]).cell 0)
        rw [← HXL.out.2.2.1, ← HXL.out.2.2.2] at hcall
        refine hcall.mono ?_
        rintro e w7 ⟨rfl, v7, hm7, ht7, _⟩
        have HM7 := hide (And.intro hm7 ht7)
        have hvx : w7.ownsRow w6.heap.size 5 1 vx lx.length (bv lx) := owned_turned (HX6.out.1.alloc _) ht7 (fun q hq hS => by
          have h1 := (owned_lt HX6.out.1 hq).1
          rcases hS with h | h
          · omega
          · cases h)
        have HVX := hide hvx
        clear hcall hm7 ht7 hvx ho6b
        dsimp only
        have hfin : Below w.heap.size w w7 := by
          have t1 := (HB5.out.trans (HM6.out.2.2.mono s5)).trans (HX6.out.2.mono (by omega))
          have t2 := t1.alloc (by omega) (.cells #[.int .i64 y] 3)
          exact HM7.out.2.below_new t2 (fun k _ hS => by
            rcases hS with h | h
            · omega
            · cases h)
        have s7b := hfin.size
        have HF := hide hfin
        clear hfin
        cases by_ with
        | true =>
          go_wp2_with (go_at_call 29; refine (done_bad ly (w5.heap.size + 1) (w5.heap.size + 1) 44 v7 _ HM7.out.1).mono ?_; rintro e w' ⟨rfl, rfl⟩)
          go_ret
          exact ⟨rfl, HF.out⟩
        | false =>
          obtain ⟨hx0, hx1, hx2⟩ := mkNum_yes x HXL.out.2.1.symm
          obtain ⟨hy0, hy1, hy2⟩ := mkNum_yes y HXL.out.2.2.2.symm
          rw [← HXL.out.1] at hx2
          rw [← HXL.out.2.2.1] at hy2
          have hlen : x ≤ y → lx.length ≤ ly.length := fun h => by rw [hx2, hy2]; exact num_len_mono _ _ (by omega)
          have heq : decide (lx = ly) = decide (x = y) := by
            by_cases h : x = y
            · rw [decide_eq_true h, decide_eq_true (by rw [hx2, hy2, h])]
            · rw [decide_eq_false h, decide_eq_false (fun e => h (by rw [hx2, hy2] at e; have := num_inj e; omega))]
          obtain ⟨Ax, kx, rfl⟩ := owned_slice HX6.out.1
          have HLE := hide hlen
          have HEQ := hide heq
          clear hx2 hy2 hlen heq
          rcases Int.lt_trichotomy x y with hxy | hxy | hxy
          · have hl2 := HLE.out (by omega)
            have hl3 : (lx.length : Int) ≤ (ly.length : Int) := by omega
            have hne : (x == y) = false := by simp; omega
            have HE2 := hide (HEQ.out.trans (decide_eq_false (by omega)))
            go_wp2_with (first
              | (go_at_call 29; refine (done_ok ly (by omega) (w5.heap.size + 1) (w5.heap.size + 1) 44 v7 _ HM7.out.1).mono ?_; rintro e w8 ⟨v8, rfl, own8, hb8⟩; obtain ⟨Ay, ky, rfl⟩ := owned_slice own8; have HX8 := hide (And.intro own8 hb8); clear own8 hb8)
              | (go_at_call 31; refine (sameBytes_any lx ly (by omega) (by omega) _ _ _ _ ((TB.of_owned (base := 0) HVX.out).below HX8.out.2).bytes (bytesAt_owned HX8.out.1)).mono ?_; rintro e w9 ⟨rfl, k9, hw9⟩; rw [HE2.out]; have HF9 := hide (show Below w.heap.size w w9 by rw [hw9]; exact below_drewN (HF.out.trans (HX8.out.2.mono s7b)) k9); clear hw9))
            go_ret
            exact ⟨rfl, HF9.out⟩
          · have hl2 := HLE.out (by omega)
            have hl3 : (lx.length : Int) ≤ (ly.length : Int) := by omega
            have hne : (x == y) = true := by simp [hxy]
            have HE2 := hide (HEQ.out.trans (decide_eq_true hxy))
            have hxy2 : ¬ y < x := by omega
            clear hxy
            go_wp2_with (first
              | (go_at_call 29; refine (done_ok ly (by omega) (w5.heap.size + 1) (w5.heap.size + 1) 44 v7 _ HM7.out.1).mono ?_; rintro e w8 ⟨v8, rfl, own8, hb8⟩; obtain ⟨Ay, ky, rfl⟩ := owned_slice own8; have HX8 := hide (And.intro own8 hb8); clear own8 hb8)
              | (go_at_call 31; refine (sameBytes_any lx ly (by omega) (by omega) _ _ _ _ ((TB.of_owned (base := 0) HVX.out).below HX8.out.2).bytes (bytesAt_owned HX8.out.1)).mono ?_; rintro e w9 ⟨rfl, k9, hw9⟩; rw [HE2.out]; have HF9 := hide (show Below w.heap.size w w9 by rw [hw9]; exact below_drewN (HF.out.trans (HX8.out.2.mono s7b)) k9); clear hw9))
            go_ret
            exact ⟨rfl, HF9.out⟩
          · have hne : (x == y) = false := by simp; omega
            have HE2 := hide (HEQ.out.trans (decide_eq_false (by omega)))
            go_wp2_with (first
              | (go_at_call 29; refine (done_ok ly (by omega) (w5.heap.size + 1) (w5.heap.size + 1) 44 v7 _ HM7.out.1).mono ?_; rintro e w8 ⟨v8, rfl, own8, hb8⟩; obtain ⟨Ay, ky, rfl⟩ := owned_slice own8; have HX8 := hide (And.intro own8 hb8); clear own8 hb8)
              | (go_at_call 31; refine (sameBytes_any lx ly (by omega) (by omega) _ _ _ _ ((TB.of_owned (base := 0) HVX.out).below HX8.out.2).bytes (bytesAt_owned HX8.out.1)).mono ?_; rintro e w9 ⟨rfl, k9, hw9⟩; rw [HE2.out]; have HF9 := hide (show Below w.heap.size w w9 by rw [hw9]; exact below_drewN (HF.out.trans (HX8.out.2.mono s7b)) k9); clear hw9))
            go_ret
            exact ⟨rfl, HF9.out⟩
    · have hEb : (z == 0) = false := by simp [hE]
      cases hbad : bad with
      | true =>
        rw [hbad] at HST
        go_wp2_with (first
          | (go_at_call 29; refine (done_bad mb gm gm 44 v3 _ HST.out.maker).mono ?_; rintro e w' ⟨rfl, rfl⟩)
          | (go_at_call 41; refine (HEND.out _ HST.out.cu).mono ?_; rintro e w' ⟨rfl, rfl⟩))
        have HB5 := hide HST.out.bl
        have s5 := HB5.out.size
        obtain ⟨lx, hlx⟩ : ∃ lx, lx = (mkNum [] false x).1 := ⟨_, rfl⟩
        obtain ⟨bx, hbx⟩ : ∃ bx, bx = (mkNum [] false x).2 := ⟨_, rfl⟩
        obtain ⟨ly, hly⟩ : ∃ ly, ly = (mkNum [] false y).1 := ⟨_, rfl⟩
        obtain ⟨by_, hby_⟩ : ∃ by_, by_ = (mkNum [] false y).2 := ⟨_, rfl⟩
        have llx : lx.length ≤ 10 := by have h := mkNum_len [] false x (by have := HXY.out.1.2; omega); rw [← hlx] at h; simpa using h
        have lly : ly.length ≤ 10 := by have h := mkNum_len [] false y (by have := HXY.out.2.2; omega); rw [← hly] at h; simpa using h
        have hcall := mnum_any x HXY.out.1 [] (by simp) false wc.heap.size wc.heap.size 44 (by decide) (.slice none 0 0) (wc.heap.size + 1 + 1) _ (by rw [size_alloc, size_alloc, size_alloc]; omega) (two_a wc _) (two_x wc (.int .i64 x) 3)
        rw [← hlx, ← hbx] at hcall
        refine hcall.mono ?_
        rintro e w6 ⟨rfl, v6, hm6, ht6, _⟩
        have ho6 := (two_b wc (.cells #[.int .i64 x] 3)).other ht6 (by omega)
        have hb6 : Below wc.heap.size wc w6 := ht6.below_new (two_below wc _) (fun k _ hS => by
          rcases hS with h | h
          · omega
          · cases h)
        have s6 := hb6.size
        have s6b := ho6.blk.lt
        have HM6 := hide (And.intro hm6 (And.intro ho6 hb6))
        have HXL := hide (And.intro hlx (And.intro hbx (And.intro hly hby_)))
        clear hcall hm6 ht6 ho6 hb6 hlx hbx hly hby_
        dsimp only
        cases bx with
        | true =>
          go_wp2_with (go_at_call 29; refine (done_bad lx wc.heap.size wc.heap.size 44 v6 _ HM6.out.1).mono ?_; rintro e w' ⟨rfl, rfl⟩)
          have hcall := mnum_any y HXY.out.2 [] (by simp) false (wc.heap.size + 1) (wc.heap.size + 1) 44 (by decide) (.slice none 0 0) w6.heap.size _ (by rw [size_alloc]; omega) ⟨HM6.out.2.1.blk.alloc _, HM6.out.2.1.own.alloc _⟩ ((Blk.new w6 3 #[.int .i64 y]).cell 0)
          rw [← HXL.out.2.2.1, ← HXL.out.2.2.2] at hcall
          refine hcall.mono ?_
          rintro e w7 ⟨rfl, v7, hm7, ht7, _⟩
          have hb7 : Below w6.heap.size w6 w7 ∨ True := .inr trivial
          have HM7 := hide (And.intro hm7 ht7)
          clear hcall hm7 ht7 hb7
          dsimp only
          have hfin : Below w.heap.size w w7 := by
            have t1 := HB5.out.trans (HM6.out.2.2.mono s5)
            have t2 := t1.alloc (by omega) (.cells #[.int .i64 y] 3)
            exact HM7.out.2.below_new t2 (fun k _ hS => by
              rcases hS with h | h
              · omega
              · cases h)
          have s7 := HM7.out.1.blk.lt
          have s7b := hfin.size
          have HF := hide hfin
          clear hfin
          cases by_ with
          | true =>
            go_wp2_with (go_at_call 29; refine (done_bad ly (wc.heap.size + 1) (wc.heap.size + 1) 44 v7 _ HM7.out.1).mono ?_; rintro e w' ⟨rfl, rfl⟩)
            go_ret
            exact ⟨rfl, HF.out⟩
          | false =>
            go_wp2_with (go_at_call 29; refine (done_ok ly (by omega) (wc.heap.size + 1) (wc.heap.size + 1) 44 v7 _ HM7.out.1).mono ?_; rintro e w8 ⟨v8, rfl, own8, hb8⟩; have HX8 := hide (And.intro own8 hb8); clear own8 hb8)
            go_ret
            exact ⟨rfl, HF.out.trans (HX8.out.2.mono s7b)⟩
        | false =>
          go_wp2_with (go_at_call 29; refine (done_ok lx (by omega) wc.heap.size wc.heap.size 44 v6 _ HM6.out.1).mono ?_; rintro e w6b ⟨vx, rfl, ownx, hbx6⟩; have s6c := hbx6.size; have HX6 := hide (And.intro ownx hbx6); clear ownx hbx6)
          have ho6b := HM6.out.2.1.keep HX6.out.2
          have hcall := mnum_any y HXY.out.2 [] (by simp) false (wc.heap.size + 1) (wc.heap.size + 1) 44 (by decide) (.slice none 0 0) w6b.heap.size _ (by rw [size_alloc]; omega) ⟨ho6b.blk.alloc _, ho6b.own.alloc _⟩ ((Blk.new w6b 3 #[.int .i64 y]).cell 0)
          rw [← HXL.out.2.2.1, ← HXL.out.2.2.2] at hcall
          refine hcall.mono ?_
          rintro e w7 ⟨rfl, v7, hm7, ht7, _⟩
          have HM7 := hide (And.intro hm7 ht7)
          have hvx : w7.ownsRow w6.heap.size 5 1 vx lx.length (bv lx) := owned_turned (HX6.out.1.alloc _) ht7 (fun q hq hS => by
            have h1 := (owned_lt HX6.out.1 hq).1
            rcases hS with h | h
            · omega
            · cases h)
          have HVX := hide hvx
          clear hcall hm7 ht7 hvx ho6b
          dsimp only
          have hfin : Below w.heap.size w w7 := by
            have t1 := (HB5.out.trans (HM6.out.2.2.mono s5)).trans (HX6.out.2.mono (by omega))
            have t2 := t1.alloc (by omega) (.cells #[.int .i64 y] 3)
            exact HM7.out.2.below_new t2 (fun k _ hS => by
              rcases hS with h | h
              · omega
              · cases h)
          have s7b := hfin.size
          have HF := hide hfin
          clear hfin
          cases by_ with
          | true =>
            go_wp2_with (go_at_call 29; refine (done_bad ly (wc.heap.size + 1) (wc.heap.size + 1) 44 v7 _ HM7.out.1).mono ?_; rintro e w' ⟨rfl, rfl⟩)
            go_ret
            exact ⟨rfl, HF.out⟩
          | false =>
            obtain ⟨hx0, hx1, hx2⟩ := mkNum_yes x HXL.out.2.1.symm
            obtain ⟨hy0, hy1, hy2⟩ := mkNum_yes y HXL.out.2.2.2.symm
            rw [← HXL.out.1] at hx2
            rw [← HXL.out.2.2.1] at hy2
            have hlen : x ≤ y → lx.length ≤ ly.length := fun h => by rw [hx2, hy2]; exact num_len_mono _ _ (by omega)
            have heq : decide (lx = ly) = decide (x = y) := by
              by_cases h : x = y
              · rw [decide_eq_true h, decide_eq_true (by rw [hx2, hy2, h])]
              · rw [decide_eq_false h, decide_eq_false (fun e => h (by rw [hx2, hy2] at e; have := num_inj e; omega))]
            obtain ⟨Ax, kx, rfl⟩ := owned_slice HX6.out.1
            have HLE := hide hlen
            have HEQ := hide heq
            clear hx2 hy2 hlen heq
            rcases Int.lt_trichotomy x y with hxy | hxy | hxy
            · have hl2 := HLE.out (by omega)
              have hl3 : (lx.length : Int) ≤ (ly.length : Int) := by omega
              have hne : (x == y) = false := by simp; omega
              have HE2 := hide (HEQ.out.trans (decide_eq_false (by omega)))
              go_wp2_with (first
                | (go_at_call 29; refine (done_ok ly (by omega) (wc.heap.size + 1) (wc.heap.size + 1) 44 v7 _ HM7.out.1).mono ?_; rintro e w8 ⟨v8, rfl, own8, hb8⟩; obtain ⟨Ay, ky, rfl⟩ := owned_slice own8; have HX8 := hide (And.intro own8 hb8); clear own8 hb8)
                | (go_at_call 31; refine (sameBytes_any lx ly (by omega) (by omega) _ _ _ _ ((TB.of_owned (base := 0) HVX.out).below HX8.out.2).bytes (bytesAt_owned HX8.out.1)).mono ?_; rintro e w9 ⟨rfl, k9, hw9⟩; rw [HE2.out]; have HF9 := hide (show Below w.heap.size w w9 by rw [hw9]; exact below_drewN (HF.out.trans (HX8.out.2.mono s7b)) k9); clear hw9))
              go_ret
              exact ⟨rfl, HF9.out⟩
            · have hl2 := HLE.out (by omega)
              have hl3 : (lx.length : Int) ≤ (ly.length : Int) := by omega
              have hne : (x == y) = true := by simp [hxy]
              have HE2 := hide (HEQ.out.trans (decide_eq_true hxy))
              have hxy2 : ¬ y < x := by omega
              clear hxy
              go_wp2_with (first
                | (go_at_call 29; refine (done_ok ly (by omega) (wc.heap.size + 1) (wc.heap.size + 1) 44 v7 _ HM7.out.1).mono ?_; rintro e w8 ⟨v8, rfl, own8, hb8⟩; obtain ⟨Ay, ky, rfl⟩ := owned_slice own8; have HX8 := hide (And.intro own8 hb8); clear own8 hb8)
                | (go_at_call 31; refine (sameBytes_any lx ly (by omega) (by omega) _ _ _ _ ((TB.of_owned (base := 0) HVX.out).below HX8.out.2).bytes (bytesAt_owned HX8.out.1)).mono ?_; rintro e w9 ⟨rfl, k9, hw9⟩; rw [HE2.out]; have HF9 := hide (show Below w.heap.size w w9 by rw [hw9]; exact below_drewN (HF.out.trans (HX8.out.2.mono s7b)) k9); clear hw9))
              go_ret
              exact ⟨rfl, HF9.out⟩
            · have hne : (x == y) = false := by simp; omega
              have HE2 := hide (HEQ.out.trans (decide_eq_false (by omega)))
              go_wp2_with (first
                | (go_at_call 29; refine (done_ok ly (by omega) (wc.heap.size + 1) (wc.heap.size + 1) 44 v7 _ HM7.out.1).mono ?_; rintro e w8 ⟨v8, rfl, own8, hb8⟩; obtain ⟨Ay, ky, rfl⟩ := owned_slice own8; have HX8 := hide (And.intro own8 hb8); clear own8 hb8)
                | (go_at_call 31; refine (sameBytes_any lx ly (by omega) (by omega) _ _ _ _ ((TB.of_owned (base := 0) HVX.out).below HX8.out.2).bytes (bytesAt_owned HX8.out.1)).mono ?_; rintro e w9 ⟨rfl, k9, hw9⟩; rw [HE2.out]; have HF9 := hide (show Below w.heap.size w w9 by rw [hw9]; exact below_drewN (HF.out.trans (HX8.out.2.mono s7b)) k9); clear hw9))
              go_ret
              exact ⟨rfl, HF9.out⟩
      | false =>
        rw [hbad] at HST
        go_wp2_with (first
          | (go_at_call 29; refine (done_ok mb (by omega) gm gm 44 v3 _ HST.out.maker).mono ?_; rintro e w4 ⟨v4, rfl, own4, hb4⟩; have HX4 := hide (And.intro own4 hb4); clear own4 hb4)
          | (go_at_call 41; refine (HEND.out _ (HST.out.cu.below HX4.out.2)).mono ?_; rintro e w' ⟨rfl, rfl⟩))
        have HB5 := hide (HST.out.bl.trans (HX4.out.2.mono HST.out.bl.size))
        have s5 := HB5.out.size
        obtain ⟨lx, hlx⟩ : ∃ lx, lx = (mkNum [] false x).1 := ⟨_, rfl⟩
        obtain ⟨bx, hbx⟩ : ∃ bx, bx = (mkNum [] false x).2 := ⟨_, rfl⟩
        obtain ⟨ly, hly⟩ : ∃ ly, ly = (mkNum [] false y).1 := ⟨_, rfl⟩
        obtain ⟨by_, hby_⟩ : ∃ by_, by_ = (mkNum [] false y).2 := ⟨_, rfl⟩
        have llx : lx.length ≤ 10 := by have h := mkNum_len [] false x (by have := HXY.out.1.2; omega); rw [← hlx] at h; simpa using h
        have lly : ly.length ≤ 10 := by have h := mkNum_len [] false y (by have := HXY.out.2.2; omega); rw [← hly] at h; simpa using h
        have hcall := mnum_any x HXY.out.1 [] (by simp) false w4.heap.size w4.heap.size 44 (by decide) (.slice none 0 0) (w4.heap.size + 1 + 1) _ (by rw [size_alloc, size_alloc, size_alloc]; omega) (two_a w4 _) (two_x w4 (.int .i64 x) 3)
        rw [← hlx, ← hbx] at hcall
        refine hcall.mono ?_
        rintro e w6 ⟨rfl, v6, hm6, ht6, _⟩
        have ho6 := (two_b w4 (.cells #[.int .i64 x] 3)).other ht6 (by omega)
        have hb6 : Below w4.heap.size w4 w6 := ht6.below_new (two_below w4 _) (fun k _ hS => by
          rcases hS with h | h
          · omega
          · cases h)
        have s6 := hb6.size
        have s6b := ho6.blk.lt
        have HM6 := hide (And.intro hm6 (And.intro ho6 hb6))
        have HXL := hide (And.intro hlx (And.intro hbx (And.intro hly hby_)))
        clear hcall hm6 ht6 ho6 hb6 hlx hbx hly hby_
        dsimp only
        cases bx with
        | true =>
          go_wp2_with (go_at_call 29; refine (done_bad lx w4.heap.size w4.heap.size 44 v6 _ HM6.out.1).mono ?_; rintro e w' ⟨rfl, rfl⟩)
          have hcall := mnum_any y HXY.out.2 [] (by simp) false (w4.heap.size + 1) (w4.heap.size + 1) 44 (by decide) (.slice none 0 0) w6.heap.size _ (by rw [size_alloc]; omega) ⟨HM6.out.2.1.blk.alloc _, HM6.out.2.1.own.alloc _⟩ ((Blk.new w6 3 #[.int .i64 y]).cell 0)
          rw [← HXL.out.2.2.1, ← HXL.out.2.2.2] at hcall
          refine hcall.mono ?_
          rintro e w7 ⟨rfl, v7, hm7, ht7, _⟩
          have hb7 : Below w6.heap.size w6 w7 ∨ True := .inr trivial
          have HM7 := hide (And.intro hm7 ht7)
          clear hcall hm7 ht7 hb7
          dsimp only
          have hfin : Below w.heap.size w w7 := by
            have t1 := HB5.out.trans (HM6.out.2.2.mono s5)
            have t2 := t1.alloc (by omega) (.cells #[.int .i64 y] 3)
            exact HM7.out.2.below_new t2 (fun k _ hS => by
              rcases hS with h | h
              · omega
              · cases h)
          have s7 := HM7.out.1.blk.lt
          have s7b := hfin.size
          have HF := hide hfin
          clear hfin
          cases by_ with
          | true =>
            go_wp2_with (go_at_call 29; refine (done_bad ly (w4.heap.size + 1) (w4.heap.size + 1) 44 v7 _ HM7.out.1).mono ?_; rintro e w' ⟨rfl, rfl⟩)
            go_ret
            exact ⟨rfl, HF.out⟩
          | false =>
            go_wp2_with (go_at_call 29; refine (done_ok ly (by omega) (w4.heap.size + 1) (w4.heap.size + 1) 44 v7 _ HM7.out.1).mono ?_; rintro e w8 ⟨v8, rfl, own8, hb8⟩; have HX8 := hide (And.intro own8 hb8); clear own8 hb8)
            go_ret
            exact ⟨rfl, HF.out.trans (HX8.out.2.mono s7b)⟩
        | false =>
          go_wp2_with (go_at_call 29; refine (done_ok lx (by omega) w4.heap.size w4.heap.size 44 v6 _ HM6.out.1).mono ?_; rintro e w6b ⟨vx, rfl, ownx, hbx6⟩; have s6c := hbx6.size; have HX6 := hide (And.intro ownx hbx6); clear ownx hbx6)
          have ho6b := HM6.out.2.1.keep HX6.out.2
          have hcall := mnum_any y HXY.out.2 [] (by simp) false (w4.heap.size + 1) (w4.heap.size + 1) 44 (by decide) (.slice none 0 0) w6b.heap.size _ (by rw [size_alloc]; omega) ⟨ho6b.blk.alloc _, ho6b.own.alloc _⟩ ((Blk.new w6b 3 #[.int .i64 y]).cell 0)
          rw [← HXL.out.2.2.1, ← HXL.out.2.2.2] at hcall
          refine hcall.mono ?_
          rintro e w7 ⟨rfl, v7, hm7, ht7, _⟩
          have HM7 := hide (And.intro hm7 ht7)
          have hvx : w7.ownsRow w6.heap.size 5 1 vx lx.length (bv lx) := owned_turned (HX6.out.1.alloc _) ht7 (fun q hq hS => by
            have h1 := (owned_lt HX6.out.1 hq).1
            rcases hS with h | h
            · omega
            · cases h)
          have HVX := hide hvx
          clear hcall hm7 ht7 hvx ho6b
          dsimp only
          have hfin : Below w.heap.size w w7 := by
            have t1 := (HB5.out.trans (HM6.out.2.2.mono s5)).trans (HX6.out.2.mono (by omega))
            have t2 := t1.alloc (by omega) (.cells #[.int .i64 y] 3)
            exact HM7.out.2.below_new t2 (fun k _ hS => by
              rcases hS with h | h
              · omega
              · cases h)
          have s7b := hfin.size
          have HF := hide hfin
          clear hfin
          cases by_ with
          | true =>
            go_wp2_with (go_at_call 29; refine (done_bad ly (w4.heap.size + 1) (w4.heap.size + 1) 44 v7 _ HM7.out.1).mono ?_; rintro e w' ⟨rfl, rfl⟩)
            go_ret
            exact ⟨rfl, HF.out⟩
          | false =>
            obtain ⟨hx0, hx1, hx2⟩ := mkNum_yes x HXL.out.2.1.symm
            obtain ⟨hy0, hy1, hy2⟩ := mkNum_yes y HXL.out.2.2.2.symm
            rw [← HXL.out.1] at hx2
            rw [← HXL.out.2.2.1] at hy2
            have hlen : x ≤ y → lx.length ≤ ly.length := fun h => by rw [hx2, hy2]; exact num_len_mono _ _ (by omega)
            have heq : decide (lx = ly) = decide (x = y) := by
              by_cases h : x = y
              · rw [decide_eq_true h, decide_eq_true (by rw [hx2, hy2, h])]
              · rw [decide_eq_false h, decide_eq_false (fun e => h (by rw [hx2, hy2] at e; have := num_inj e; omega))]
            obtain ⟨Ax, kx, rfl⟩ := owned_slice HX6.out.1
            have HLE := hide hlen
            have HEQ := hide heq
            clear hx2 hy2 hlen heq
            rcases Int.lt_trichotomy x y with hxy | hxy | hxy
            · have hl2 := HLE.out (by omega)
              have hl3 : (lx.length : Int) ≤ (ly.length : Int) := by omega
              have hne : (x == y) = false := by simp; omega
              have HE2 := hide (HEQ.out.trans (decide_eq_false (by omega)))
              go_wp2_with (first
                | (go_at_call 29; refine (done_ok ly (by omega) (w4.heap.size + 1) (w4.heap.size + 1) 44 v7 _ HM7.out.1).mono ?_; rintro e w8 ⟨v8, rfl, own8, hb8⟩; obtain ⟨Ay, ky, rfl⟩ := owned_slice own8; have HX8 := hide (And.intro own8 hb8); clear own8 hb8)
                | (go_at_call 31; refine (sameBytes_any lx ly (by omega) (by omega) _ _ _ _ ((TB.of_owned (base := 0) HVX.out).below HX8.out.2).bytes (bytesAt_owned HX8.out.1)).mono ?_; rintro e w9 ⟨rfl, k9, hw9⟩; rw [HE2.out]; have HF9 := hide (show Below w.heap.size w w9 by rw [hw9]; exact below_drewN (HF.out.trans (HX8.out.2.mono s7b)) k9); clear hw9))
              go_ret
              exact ⟨rfl, HF9.out⟩
            · have hl2 := HLE.out (by omega)
              have hl3 : (lx.length : Int) ≤ (ly.length : Int) := by omega
              have hne : (x == y) = true := by simp [hxy]
              have HE2 := hide (HEQ.out.trans (decide_eq_true hxy))
              have hxy2 : ¬ y < x := by omega
              clear hxy
              go_wp2_with (first
                | (go_at_call 29; refine (done_ok ly (by omega) (w4.heap.size + 1) (w4.heap.size + 1) 44 v7 _ HM7.out.1).mono ?_; rintro e w8 ⟨v8, rfl, own8, hb8⟩; obtain ⟨Ay, ky, rfl⟩ := owned_slice own8; have HX8 := hide (And.intro own8 hb8); clear own8 hb8)
                | (go_at_call 31; refine (sameBytes_any lx ly (by omega) (by omega) _ _ _ _ ((TB.of_owned (base := 0) HVX.out).below HX8.out.2).bytes (bytesAt_owned HX8.out.1)).mono ?_; rintro e w9 ⟨rfl, k9, hw9⟩; rw [HE2.out]; have HF9 := hide (show Below w.heap.size w w9 by rw [hw9]; exact below_drewN (HF.out.trans (HX8.out.2.mono s7b)) k9); clear hw9))
              go_ret
              exact ⟨rfl, HF9.out⟩
            · have hne : (x == y) = false := by simp; omega
              have HE2 := hide (HEQ.out.trans (decide_eq_false (by omega)))
              go_wp2_with (first
                | (go_at_call 29; refine (done_ok ly (by omega) (w4.heap.size + 1) (w4.heap.size + 1) 44 v7 _ HM7.out.1).mono ?_; rintro e w8 ⟨v8, rfl, own8, hb8⟩; obtain ⟨Ay, ky, rfl⟩ := owned_slice own8; have HX8 := hide (And.intro own8 hb8); clear own8 hb8)
                | (go_at_call 31; refine (sameBytes_any lx ly (by omega) (by omega) _ _ _ _ ((TB.of_owned (base := 0) HVX.out).below HX8.out.2).bytes (bytesAt_owned HX8.out.1)).mono ?_; rintro e w9 ⟨rfl, k9, hw9⟩; rw [HE2.out]; have HF9 := hide (show Below w.heap.size w w9 by rw [hw9]; exact below_drewN (HF.out.trans (HX8.out.2.mono s7b)) k9); clear hw9))
              go_ret
              exact ⟨rfl, HF9.out⟩
end Go.Proofs.Ytcckmnabjjamfaa
