/- The walks of spenceref01.Maker: numbers, bytes, texts are put; what was put is told. -/
import Derived.Test.YtjmenaplgndnnaaRNum
import Derived.Test.YtjmenaplgndnnaaMaker4
import Derived.Deep.RegionLaw
namespace Go.Proofs.Ytjmenaplgndnnaa
open Go.RowKit
/-- one number more -/
def rNum (l : List UInt8) (bad : Bool) (n : Int) : List UInt8 × Bool := if 0 ≤ n ∧ n ≤ 1099511627776 then (l ++ num n.toNat, bad) else (l, true)
set_option maxRecDepth 100000 in
set_option maxHeartbeats 1000000 in
theorem rnum_any (n : Int) (hn : -9223372036854775808 ≤ n ∧ n ≤ 9223372036854775807) (l : List UInt8) (hl : l.length ≤ 1099511627776) (bad : Bool) (base g T : Nat) (hT : 5 ≠ T) (v : Value) (w : World) (hbase : base ≤ w.heap.size)
    (hm : MkAt w base g T l bad v) :
    Calls Try.prog 12 #[.pointer (some ⟨g, 0, none⟩), .int .i64 n] w fun e w' => e = .returned (.tuple #[]) ∧
      ∃ v', MkAt w' base g T (rNum l bad n).1 (rNum l bad n).2 v' ∧ Turned (MkS g v) w w' ∧ Moved w v v' := by
  obtain ⟨i, hi, hz0, hz1, hz2⟩ := info_parts info_u8
  obtain ⟨A0, k0, rfl⟩ := owned_slice hm.own
  have hb := hm.blk
  have c0 := hb.cell 0
  have f1 := hb.frozen 1
  have c1 := hb.cell 1
  simp only [List.getElem?_toArray, List.getElem?_cons_zero, List.getElem?_cons_succ] at c0 c1
  have hlt := hb.lt
  have hne := owned_ne hm.own hb hT
  have HM := hide hm
  have HT := hide hT
  have HNE := hide hne
  clear hm hT hb hne
  by_cases hin : 0 ≤ n ∧ n ≤ 1099511627776
  · obtain ⟨m, rfl⟩ : ∃ m : Nat, n = (m : Int) := ⟨n.toNat, by omega⟩
    have hr : rNum l bad (m : Int) = (l ++ num m, bad) := by rw [rNum, if_pos hin]; simp
    rw [hr]
    have hm2 : (m : Int) ≤ 1099511627776 := hin.2
    have hNl := num_len m (by omega)
    clear hin hr f1 c1 hn
    go_enter Try.func12, Try.ntmps12
    go_wp2_with fail
    go_region_law (first
        | (go_simp; go_at_call 22; refine (rnumber_any m (by omega) _).mono ?_; rintro e w4 ⟨v4, rfl, own4, hb4⟩; obtain ⟨A4, k4, rfl⟩ := owned_slice own4; have hs4 : w.heap.size ≤ w4.heap.size := hb4.size; have hkeep : w4.cell? ⟨g, 0, none⟩ = some (.slice A0 l.length k0) := (hb4.cell (p := ⟨g, 0, none⟩) hlt).trans c0; have HX4 := hide (And.intro own4 hb4); clear own4 hb4)
        | (refine step_app (o := ⟨some 20, _, _, _, _, _⟩) rfl (.tmp 17) (.tmp 19) 26 rfl base 5 i (.int .u8 0) 1 Try.underlying26 hi hz0 hz1 hz2 rfl (.slice A0 l.length k0) l.length (bv l) (owned_keep HM.out.own fun q _ hlt => HX4.out.2.block q hlt) A4 (num m).length k4 (bv (num m)) (owned_src0 HX4.out.1) (by simp only [maxLen]; omega) (by omega) (by omega) rfl rfl ?_; intro v5 w5 own5 gr5 mv5 _; obtain ⟨A5, k5, rfl⟩ := owned_slice own5; have hs5 : w4.heap.size ≤ w5.heap.size := gr5.size; have hb4b : Blk w4 g T #[.slice A0 l.length k0, .bool bad] := (HX4.out.2.block g hlt).trans HM.out.blk; have hb5 := hb4b.grown gr5 (fun e => HNE.out e.symm); have hkeep : w5.cell? ⟨g, 0, none⟩ = some (.slice A0 l.length k0) := hb5.cell 0; have f5 := hb5.frozen 0; have HX5 := hide (And.intro own5 (And.intro gr5 (And.intro mv5 hb5))); clear own5 gr5 mv5 hb5))
    all_goals
      go_end0
      have hb4 : Below w.heap.size w w4 := ⟨HX4.out.2.os, HX4.out.2.tape, HX4.out.2.output, HX4.out.2.size, HX4.out.2.block⟩
      obtain ⟨own5, gr5, mv5, hb5⟩ := HX5.out
      have hbnd : (l ++ num m).length = l.length + (num m).length := List.length_append
      have hT : Turned (MkS g (.slice A0 l.length k0)) w w5 := (Turned.of_below hb4 _).then_ (Turned.of_grown (S := fun k => (Value.slice A0 l.length k0).ownBlock = some k) gr5 (fun k h _ => h)) (fun k _ h => .inr h)
      have hM : Moved w (.slice A0 l.length k0) (.slice A5 (l.length + (num m).length) k5) := by
        rcases mv5 with h | h
        · exact .inl h
        · exact .inr ⟨_, h, hs4⟩
      refine ⟨rfl, .slice A5 (l.length + (num m).length) k5, ⟨hb5.set_ 0 _, ?_⟩, hT.setCell (fun _ => .inl rfl) _, hM⟩
      rw [hbnd, bvA]
      exact owned_keep own5 (fun q hqv hql => Below.heap_setCell w5 _ _ q (by rintro rfl; exact owned_ne own5 hb5 HT.out hqv))
  · have hr : rNum l bad n = (l, true) := by rw [rNum, if_neg hin]
    rw [hr]
    have fin : Turned (MkS g (.slice A0 l.length k0)) w (w.setCell ⟨g, 1, none⟩ (.bool true)) := (Turned.refl _ _).setCell (fun _ => .inl rfl) _
    have hmk : MkAt (w.setCell ⟨g, 1, none⟩ (.bool true)) base g T l true (.slice A0 l.length k0) := ⟨HM.out.blk.set_ 1 _, owned_keep HM.out.own (fun q hqv hql => Below.heap_setCell w _ _ q (by rintro rfl; exact HNE.out hqv))⟩
    have HF := hide (And.intro fin hmk)
    clear hr fin hmk c0
    rcases Int.lt_or_le n 0 with hneg | hpos
    · clear hin
      go_enter Try.func12, Try.ntmps12
      go_wp2
      (try simp only [Exit.inBlock, Exit.then]); refine bodyPost_ret (results_none rfl _ _ _) rfl ?_
      exact ⟨rfl, _, HF.out.2, HF.out.1, Moved.refl _ _⟩
    · have hlt2 : 1099511627776 < n := by omega
      clear hin
      go_enter Try.func12, Try.ntmps12
      go_wp2
      (try simp only [Exit.inBlock, Exit.then]); refine bodyPost_ret (results_none rfl _ _ _) rfl ?_
      exact ⟨rfl, _, HF.out.2, HF.out.1, Moved.refl _ _⟩
set_option maxRecDepth 100000 in
set_option maxHeartbeats 1000000 in
theorem rraw_any (u : List UInt8) (hu : u.length ≤ 1099511627776) (A : Option Addr) (cap : Nat) (l : List UInt8) (hl : l.length ≤ 1099511627776) (bad : Bool) (base g T : Nat) (hT : 5 ≠ T) (v : Value) (w : World) (hbase : base ≤ w.heap.size)
    (hm : MkAt w base g T l bad v) (hs : Src w A u.length cap (bv u)) :
    Calls Try.prog 14 #[.pointer (some ⟨g, 0, none⟩), .slice A u.length cap] w fun e w' => e = .returned (.tuple #[]) ∧ ∃ v', MkAt w' base g T (l ++ u) bad v' ∧ Turned (MkS g v) w w' ∧ Moved w v v' := by
  obtain ⟨i, hi, hz0, hz1, hz2⟩ := info_parts info_u8
  have hb := hm.blk
  have c0 := hb.cell 0
  have f0 := hb.frozen 0
  simp only [List.getElem?_toArray, List.getElem?_cons_zero] at c0
  have hlt := hb.lt
  have hne := owned_ne hm.own hb hT
  have HM := hide hm
  have HT := hide hT
  have HS := hide hs
  have HNE := hide hne
  clear hm hT hs hb hne
  go_enter Try.func14, Try.ntmps14
  go_wp2_with (at_builtin; (refine wpList_app rfl _ _ 26 rfl base 5 i (.int .u8 0) 1 Try.underlying26 hi hz0 hz1 hz2 rfl v l.length (bv l) HM.out.own A u.length cap (bv u) HS.out ?h1 ?h2 ?h3 rfl rfl ?_))
  case h1 => simp only [maxLen]; omega
  case h2 => omega
  case h3 => exact hbase
  intro v2 w2 own2 gr2 mv2 _
  have hb2 := HM.out.blk.grown gr2 (fun e => HNE.out e.symm)
  have c2 := hb2.cell 0
  have f2 := hb2.frozen 0
  simp only [List.getElem?_toArray, List.getElem?_cons_zero] at c2
  have hlt2 := hb2.lt
  have hT2 : Turned (MkS g v) w w2 := Turned.of_grown gr2 (fun k h _ => .inr h)
  have hM2 : Moved w v v2 := by
    rcases mv2 with h | h
    · exact .inl h
    · exact .inr ⟨_, h, Nat.le_refl _⟩
  obtain ⟨A2, k2, rfl⟩ := owned_slice own2
  have HB2 := hide hb2
  have HT2 := hide (And.intro hT2 hM2)
  have HO2 := hide own2
  clear hb2 own2 gr2 mv2 hT2 hM2 c0 f0
  go_wp2_with fail
  go_end0
  refine ⟨rfl, .slice A2 (l.length + u.length) k2, ⟨HB2.out.set_ 0 _, ?_⟩, HT2.out.1.setCell (fun _ => .inl rfl) _, HT2.out.2⟩
  rw [List.length_append]
  have h := owned_keep (w' := w2.setCell ⟨g, 0, none⟩ (.slice A2 (l.length + u.length) k2)) HO2.out (fun q hqv hql => Below.heap_setCell w2 _ _ q (by rintro rfl; exact owned_ne HO2.out HB2.out HT.out hqv))
  rw [bvA]
  exact h
/-- one text more -/
def rText (l : List UInt8) (bad : Bool) (u : List UInt8) : List UInt8 × Bool := if u.length ≤ 1048576 then (l ++ num u.length ++ u, bad) else (l, true)
set_option maxRecDepth 100000 in
set_option maxHeartbeats 1000000 in
theorem rtext_any (u : List UInt8) (hu : u.length ≤ 1099511627776) (A : Option Addr) (cap : Nat) (l : List UInt8) (hl : l.length ≤ 1099511620000) (bad : Bool) (base g T : Nat) (hT : 5 ≠ T) (v : Value) (w : World) (hbase : base ≤ w.heap.size)
    (hm : MkAt w base g T l bad v) (hs : Src w A u.length cap (bv u)) (hsb : ∀ ad, A = some ad → 0 < u.length → ¬ MkS g v ad.block) :
    Calls Try.prog 16 #[.pointer (some ⟨g, 0, none⟩), .slice A u.length cap] w fun e w' => e = .returned (.tuple #[]) ∧ ∃ v', MkAt w' base g T (rText l bad u).1 (rText l bad u).2 v' ∧ Turned (MkS g v) w w' ∧ Moved w v v' := by
  by_cases hin : u.length ≤ 1048576
  · have hr : rText l bad u = (l ++ num u.length ++ u, bad) := by rw [rText, if_pos hin]
    rw [hr]
    have hNl := num_len u.length (by omega)
    have hmk : rNum l bad (u.length : Int) = (l ++ num u.length, bad) := by rw [rNum, if_pos (by omega)]; simp
    have hcall := rnum_any (u.length : Int) (by omega) l (by omega) bad base g T hT v w hbase hm
    rw [hmk] at hcall
    have HT := hide hT
    have HC := hide hcall
    have HS := hide (And.intro hs hsb)
    have h1 : ¬ (1048576 : Int) < (u.length : Int) := by omega
    clear hr hmk hcall hs hsb hT hm
    go_enter Try.func16, Try.ntmps16
    go_wp2_with fail
    refine HC.out.mono ?_
    rintro e w1 ⟨rfl, v1, hm1, ht1, hmv1⟩
    have hs1 := ht1.size
    have HM1 := hide (And.intro hm1 (And.intro ht1 hmv1))
    have HS1 := hide (HS.out.1.turned ht1 HS.out.2)
    clear hm1 ht1 hmv1
    dsimp only
    go_wp2_with fail
    refine (rraw_any u hu A cap (l ++ num u.length) (by rw [List.length_append]; omega) bad base g T HT.out v1 _ (by omega) HM1.out.1 HS1.out).mono ?_
    rintro e w2 ⟨rfl, v2, hm2, ht2, hmv2⟩
    have HM2 := hide (And.intro hm2 (And.intro ht2 hmv2))
    clear hm2 ht2 hmv2
    dsimp only
    go_wp2_with fail
    go_end0
    obtain ⟨hm2, ht2, hmv2⟩ := HM2.out
    obtain ⟨hm1, ht1, hmv1⟩ := HM1.out
    refine ⟨rfl, v2, hm2, ht1.then_ ht2 ?_, hmv1.trans hmv2 hs1⟩
    intro q hq hS
    rcases hS with h | h
    · exact .inl h
    · rcases hmv1 with h1 | ⟨r, h1, hr⟩
      · exact .inr (h1 ▸ h)
      · rw [h1] at h; injection h with h; omega
  · have hr : rText l bad u = (l, true) := by rw [rText, if_neg hin]
    rw [hr]
    have h1 : (1048576 : Int) < (u.length : Int) := by omega
    have hlt := hm.blk.lt
    have c1 := hm.blk.cell 1
    have f1 := hm.blk.frozen 1
    simp only [List.getElem?_toArray, List.getElem?_cons_zero, List.getElem?_cons_succ] at c1
    have fin : Turned (MkS g v) w (w.setCell ⟨g, 1, none⟩ (.bool true)) := (Turned.refl _ _).setCell (fun _ => .inl rfl) _
    have hmk : MkAt (w.setCell ⟨g, 1, none⟩ (.bool true)) base g T l true v := ⟨hm.blk.set_ 1 _, owned_keep hm.own (fun q hqv hql => Below.heap_setCell w _ _ q (by rintro rfl; exact owned_ne hm.own hm.blk hT hqv))⟩
    have HF := hide (And.intro fin hmk)
    clear hr fin hmk hm hs hsb
    go_enter Try.func16, Try.ntmps16
    go_wp2
    (try simp only [Exit.inBlock, Exit.then]); refine bodyPost_ret (results_none rfl _ _ _) rfl ?_
    exact ⟨rfl, _, HF.out.2, HF.out.1, Moved.refl _ _⟩
set_option maxRecDepth 100000 in
set_option maxHeartbeats 400000 in
theorem rdone_bad (l : List UInt8) (base g T : Nat) (v : Value) (w : World) (hm : MkAt w base g T l true v) :
    Calls Try.prog 18 #[.pointer (some ⟨g, 0, none⟩)] w fun e w' => e = .returned (.tuple #[.slice none 0 0, .int .i64 2]) ∧ w = w' := by
  have c1 := hm.blk.cell 1
  simp only [List.getElem?_toArray, List.getElem?_cons_succ, List.getElem?_cons_zero] at c1
  have hlt := hm.blk.lt
  clear hm
  go_enter Try.func18, Try.ntmps18
  go_wp2
  go_ret2
  exact ⟨rfl, rfl⟩
set_option maxRecDepth 100000 in
set_option maxHeartbeats 400000 in
theorem rdone_ok (l : List UInt8) (hl : l.length ≤ 1099511627776) (base g T : Nat) (v : Value) (w : World) (hm : MkAt w base g T l false v) :
    Calls Try.prog 18 #[.pointer (some ⟨g, 0, none⟩)] w fun e w' => ∃ v', e = .returned (.tuple #[v', .int .i64 0]) ∧ w'.ownsRow w.heap.size 5 1 v' l.length (bv l) ∧ Below w.heap.size w w' := by
  obtain ⟨A, cap, rfl⟩ := owned_slice hm.own
  obtain ⟨i, hi, hz0, hz1, hz2⟩ := info_parts info_u8
  have hsrc := owned_src0 hm.own
  have c0 := hm.blk.cell 0
  have c1 := hm.blk.cell 1
  simp only [List.getElem?_toArray, List.getElem?_cons_succ, List.getElem?_cons_zero] at c0 c1
  have hlt := hm.blk.lt
  have hown := owned_new w 5
  have HO := hide hown
  have HS := hide hsrc
  clear hm hsrc hown
  go_enter Try.func18, Try.ntmps18
  go_wp2_with (at_builtin; (refine wpList_app rfl _ _ 26 rfl w.heap.size 5 i (.int .u8 0) 1 Try.underlying26 hi hz0 hz1 hz2 rfl _ 0 [] HO.out A l.length cap (bv l) ?h0 ?h1 ?h2 ?h3 rfl rfl ?_))
  case h0 => exact HS.out.alloc _
  case h1 => simp only [maxLen]; omega
  case h2 => omega
  case h3 => rw [size_alloc]; omega
  intro v' w1 own1 gr1 _ _
  go_wp2_with fail
  go_ret2
  refine ⟨v', rfl, by simpa using own1, ((Below.refl _ _).alloc (Nat.le_refl _) _).grown gr1 (by rw [size_alloc]; omega) ?_⟩
  intro k hk
  injection hk with hk
  change w.heap.size = k at hk
  omega
end Go.Proofs.Ytjmenaplgndnnaa
