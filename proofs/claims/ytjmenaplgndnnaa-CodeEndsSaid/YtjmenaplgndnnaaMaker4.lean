/- The walks of code.Maker: bytes and texts are put. -/
import Derived.Test.YtjmenaplgndnnaaMaker3
import Derived.ChangeSlices
namespace Go.Proofs.Ytjmenaplgndnnaa
open Go.RowKit
theorem Src.turned {w w' : World} {S : Nat → Prop} {A : Option Addr} {m c : Nat} {news : List Value} (h : Src w A m c news) (ht : Turned S w w') (hb : ∀ ad, A = some ad → 0 < m → ¬ S ad.block) : Src w' A m c news :=
  ⟨h.len, h.none_, h.one, fun ad had j u hu => by
    have h1 := h.cells ad had j u hu
    have h2 := World.block_lt_of_cell? w _ h1
    have h3 : 0 < m := by have := (List.getElem?_eq_some_iff.1 hu).1; have := h.len; omega
    have h4 : (ad.add j).block = ad.block := Go.ChangeShapes.block_add ad j
    rw [h4] at h2
    exact (World.cell?_of_block (by rw [h4]; exact ht.block _ h2 (hb ad had h3))).trans h1⟩
set_option maxRecDepth 100000 in
set_option maxHeartbeats 1000000 in
theorem mraw_any (u : List UInt8) (hu : u.length ≤ 1099511627776) (A : Option Addr) (cap : Nat) (l : List UInt8) (hl : l.length ≤ 1099511627776) (bad : Bool) (base g T : Nat) (hT : 5 ≠ T) (v : Value) (w : World) (hbase : base ≤ w.heap.size)
    (hm : MkAt w base g T l bad v) (hs : Src w A u.length cap (bv u)) :
    Calls Try.prog 13 #[.pointer (some ⟨g, 0, none⟩), .slice A u.length cap] w fun e w' => e = .returned (.pointer (some ⟨g, 0, none⟩)) ∧ ∃ v', MkAt w' base g T (l ++ u) bad v' ∧ Turned (MkS g v) w w' ∧ Moved w v v' := by
  obtain ⟨i, hi, hz0, hz1, hz2⟩ := info_parts info_u8
  have hb := hm.blk
  have c0 := hb.cell 0
  have f0 := hb.frozen 0
  simp only [List.getElem?_toArray, List.getElem?_cons_zero] at c0
  have hlt := hb.lt
  have hne := owned_ne hm.own hb hT
  have HM := hide hm
  have HT := hide hT
  have HS := hide hs
  have HNE := hide hne
  clear hm hT hs hb hne
  go_enter Try.func13, Try.ntmps13
  go_wp2_with (at_builtin; (refine wpList_app rfl _ _ 26 rfl base 5 i (.int .u8 0) 1 Try.underlying26 hi hz0 hz1 hz2 rfl v l.length (bv l) HM.out.own A u.length cap (bv u) HS.out ?h1 ?h2 ?h3 rfl rfl ?_))
  case h1 => simp only [maxLen]; omega
  case h2 => omega
  case h3 => exact hbase
  intro v2 w2 own2 gr2 mv2 _
  have hb2 := HM.out.blk.grown gr2 (fun e => HNE.out e.symm)
  have c2 := hb2.cell 0
  have f2 := hb2.frozen 0
  simp only [List.getElem?_toArray, List.getElem?_cons_zero] at c2
  have hlt2 := hb2.lt
  have hT2 : Turned (MkS g v) w w2 := Turned.of_grown gr2 (fun k h _ => .inr h)
  have hM2 : Moved w v v2 := by
    rcases mv2 with h | h
    · exact .inl h
    · exact .inr ⟨_, h, Nat.le_refl _⟩
  obtain ⟨A2, k2, rfl⟩ := owned_slice own2
  have HB2 := hide hb2
  have HT2 := hide (And.intro hT2 hM2)
  have HO2 := hide own2
  clear hb2 own2 gr2 mv2 hT2 hM2 c0 f0
  go_wp2_with fail
  go_ret
  refine ⟨rfl, .slice A2 (l.length + u.length) k2, ⟨HB2.out.set_ 0 _, ?_⟩, HT2.out.1.setCell (fun _ => .inl rfl) _, HT2.out.2⟩
  rw [List.length_append]
  have h := owned_keep (w' := w2.setCell ⟨g, 0, none⟩ (.slice A2 (l.length + u.length) k2)) HO2.out (fun q hqv hql => Below.heap_setCell w2 _ _ q (by rintro rfl; exact owned_ne HO2.out HB2.out HT.out hqv))
  rw [bvA]
  exact h
/-- one text more -/
def mkText (l : List UInt8) (bad : Bool) (u : List UInt8) : List UInt8 × Bool := if u.length ≤ 1048576 then (if bad then (l, true) else (l ++ num u.length ++ u, false)) else (l, true)
set_option maxRecDepth 100000 in
set_option maxHeartbeats 2000000 in
theorem mtext_any (u : List UInt8) (hu : u.length ≤ 1099511627776) (A : Option Addr) (cap : Nat) (l : List UInt8) (hl : l.length ≤ 1099511620000) (bad : Bool) (base g T : Nat) (hT : 5 ≠ T) (v : Value) (B : Nat) (w : World) (hbase : base ≤ w.heap.size)
    (hm : MkAt w base g T l bad v) (hB : w.cell? ⟨B, 0, none⟩ = some (.slice A u.length cap)) (hs : Src w A u.length cap (bv u)) (hsb : ∀ ad, A = some ad → 0 < u.length → ¬ MkS g v ad.block) :
    Calls Try.prog 15 #[.pointer (some ⟨g, 0, none⟩), .slice (some ⟨B, 0, none⟩) 1 1] w fun e w' => e = .returned (.pointer (some ⟨g, 0, none⟩)) ∧
      ∃ v', MkAt w' base g T (mkText l bad u).1 (mkText l bad u).2 v' ∧ Turned (MkS g v) w w' ∧ Moved w v v' := by
  have HM := hide hm
  have HT := hide hT
  have HB := hide hB
  have HS := hide (And.intro hs hsb)
  clear hm hT hB hs hsb
  go_enter Try.func15, Try.ntmps15
  go_wp2_with fail
  go_loopw [9] (fun i wr => ∃ k : Nat, k ≤ 1 ∧ i = .int .i64 (k : Int) ∧ (k = 0 → w = wr) ∧ (k = 1 → ∃ v', MkAt wr base g T (mkText l bad u).1 (mkText l bad u).2 v' ∧ Turned (MkS g v) w wr ∧ Moved w v v')) (fun i _ => (1 - intOf i).toNat)
  case atStart => exact ⟨0, by omega, rfl, fun _ => rfl, fun h => absurd h (by omega)⟩
  case round =>
    obtain ⟨k, hk, rfl, hk0, hk1⟩ := hrel
    have HK1 := hide hk1
    clear hk1
    by_cases h0 : k = 0
    · obtain rfl := hk0 h0
      subst h0
      have cb := HB.out
      by_cases hin : u.length ≤ 1048576
      · have hin2 : 0 ≤ (u.length : Int) ∧ (u.length : Int) ≤ 1048576 := by omega
        cases hbad : bad with
        | true =>
          rw [hbad] at HM
          clear hk0 HK1 hbad
          go_wp2_with (go_at_call 42; refine (allow_yes _ _ hin2 (by omega) g T v true _ HM.out.blk).mono ?_; rintro e w1 ⟨rfl, rfl⟩)
          go_roundw
          case rel =>
            refine ⟨1, by omega, by go_num, fun h => absurd h (by omega), fun _ => ⟨v, ?_, Turned.refl _ _, Moved.refl _ _⟩⟩
            rw [mkText, if_pos hin, if_pos rfl]
            exact HM.out
          case measure => simp [intOf]
        | false =>
          rw [hbad] at HM
          have hNl := num_len u.length (by omega)
          have hm2 : MkAt (w.alloc (.cells #[.int .i64 (u.length : Int)] 3)) base g T l false v := ⟨HM.out.blk.alloc _, HM.out.own.alloc _⟩
          have ca2 : (w.alloc (.cells #[.int .i64 (u.length : Int)] 3)).cell? ⟨w.heap.size, 0, none⟩ = some (.int .i64 (u.length : Int)) := (Blk.new w 3 #[.int .i64 (u.length : Int)]).cell 0
          have hmk : mkNum l false (u.length : Int) = (l ++ num u.length, false) := by rw [mkNum, if_pos (by omega), if_neg (by simp)]; simp
          have hcall := mnum_any (u.length : Int) (by omega) l (by omega) false base g T HT.out v w.heap.size _ (by rw [size_alloc]; omega) hm2 ca2
          rw [hmk] at hcall
          have HCALL := hide hcall
          clear hk0 HK1 hbad hm2 ca2 hmk hcall
          go_wp2_with (first
            | (go_at_call 42; refine (allow_yes _ _ hin2 (by omega) g T v false _ HM.out.blk).mono ?_; rintro e w1 ⟨rfl, rfl⟩)
            | (go_at_call 11; refine HCALL.out.mono ?_; rintro e w1 ⟨rfl, v1, hm1, ht1, hmv1⟩; have HM1 := hide (And.intro hm1 (And.intro ht1 hmv1)); have hs1 := ht1.size; have HS1 := hide (((HS.out.1).alloc (.cells #[.int .i64 (u.length : Int)] 3)).turned ht1 HS.out.2); clear hm1 ht1 hmv1)
            | (go_at_call 13; refine (mraw_any u hu A cap (l ++ num u.length) (by rw [List.length_append]; omega) false base g T HT.out v1 _ (by rw [size_alloc] at hs1; omega) HM1.out.1 HS1.out).mono ?_; rintro e w2 ⟨rfl, v2, hm2, ht2, hmv2⟩; have HM2 := hide (And.intro hm2 (And.intro ht2 hmv2)); clear hm2 ht2 hmv2))
          go_roundw
          case rel =>
            obtain ⟨hm2, ht2, hmv2⟩ := HM2.out
            obtain ⟨hm1, ht1, hmv1⟩ := HM1.out
            have t0 : Turned (MkS g v) w (w.alloc (.cells #[.int .i64 (u.length : Int)] 3)) := (Turned.refl _ _).alloc _
            have t1 := t0.trans ht1
            have mv1 : Moved w v v1 := (Moved.refl w v).trans (w' := w.alloc (.cells #[.int .i64 (u.length : Int)] 3)) hmv1 (by rw [size_alloc]; omega)
            refine ⟨1, by omega, by go_num, fun h => absurd h (by omega), fun _ => ⟨v2, ?_, t1.then_ ht2 ?_, mv1.trans hmv2 t1.size⟩⟩
            · rw [mkText, if_pos hin, if_neg (by simp)]
              exact hm2
            · intro q hq hS
              rcases hS with h | h
              · exact .inl h
              · rcases mv1 with h1 | ⟨r, h1, hr⟩
                · exact .inr (h1 ▸ h)
                · rw [h1] at h; injection h with h; omega
          case measure => simp [intOf]
      · have hin2 : (u.length : Int) < 0 ∨ 1048576 < (u.length : Int) := by omega
        clear hk0 HK1
        go_wp2_with (go_at_call 42; refine (allow_no _ _ hin2 (by omega) (by omega) g T v bad _ HM.out.blk).mono ?_; rintro e w1 ⟨rfl, hb1, hg1⟩; have HM1 := hide (And.intro hb1 hg1); clear hb1 hg1)
        go_roundw
        case rel =>
          obtain ⟨hb1, hg1⟩ := HM1.out
          refine ⟨1, by omega, by go_num, fun h => absurd h (by omega), fun _ => ⟨v, ?_, Turned.of_grown hg1 (fun k h _ => by injection h with h; exact .inl h.symm), Moved.refl _ _⟩⟩
          rw [mkText, if_neg hin]
          exact ⟨hb1, owned_keep HM.out.own (fun q hq hlt => hg1.block q hlt (by intro e; injection e with e; subst e; exact owned_ne HM.out.own HM.out.blk HT.out hq))⟩
        case measure => simp [intOf]
    · obtain rfl : k = 1 := by omega
      have H := HK1.out rfl
      have HH := hide H
      clear H hk0
      go_wp2_with fail
      go_ret
      exact ⟨rfl, HH.out⟩
end Go.Proofs.Ytjmenaplgndnnaa
