/- package dev: what flushes, what wakes. -/
import Derived.Test.YtajeohmmobgcjaaDevG
import Derived.Deep.QuietTactic
import Derived.BigQuiet
namespace Go.Proofs.Ytajeohmmobgcjaa
open Go Go.RowKit
theorem yes_any (k : Nat) (w : World) : Calls Try.prog 62 (#[.int .i64 (k : Int)] ++ #[]) w fun e w' => e = .returned (.bool true) ∧ Below w.heap.size w w' := by
  show Calls Try.prog 62 #[.int .i64 (k : Int)] w _
  go_enter Try.func62, Try.ntmps62
  go_wp2
  go_ret
  exact ⟨rfl, Below.refl _ _⟩
/-- is a bit of a number? -/
def wakeB (u : Int) (k : Nat) : Bool := bits .and .u64 u (IntKind.u64.wrap (2 ^ (k % 62))) != 0
set_option maxRecDepth 100000 in
theorem bit_any (u : Int) (k : Nat) (hk : k ≤ 1000000) (q : Nat) (w : World) (hu : w.cell? ⟨q, 0, none⟩ = some (.int .u64 u)) : Calls Try.prog 64 (#[.int .i64 (k : Int)] ++ #[.pointer (some ⟨q, 0, none⟩)]) w fun e w' => e = .returned (.bool (wakeB u k)) ∧ Below w.heap.size w w' := by
  show Calls Try.prog 64 #[.int .i64 (k : Int), .pointer (some ⟨q, 0, none⟩)] w _
  go_enter Try.func64, Try.ntmps64
  go_wp2_with fail
  go_quiet (fail)
  go_wp2_with fail
  go_ret
  exact ⟨rfl, below_drewN (Below.refl _ _) _⟩
/-- all that is pending is kept -/
def Dv.flush (D : Dv) : Int × Dv :=
  if D.dn then (10, D) else
  let t := tick D.de D.fu D.dn
  (t.1, { D with de := t.2.1, fu := t.2.2.1, dn := t.2.2.2, kept := if t.1 = 0 then settleL (fun _ => true) 0 D.pend D.kept else D.kept, pend := if t.1 = 0 then [] else D.pend })
def Dv.wake (D : Dv) (x : Int) : Int × Dv :=
  if D.dn then (0, { de := D.de, fu := 0, dn := false, kept := settleL (wakeB (IntKind.u64.wrap x)) 0 D.pend D.kept, pend := [] }) else (15, D)
theorem Dv.Ok.settled {D : Dv} (h : D.Ok) (f : Nat → Bool) {de fu : Int} (dn : Bool) (hde : 0 ≤ de) (hfu : 0 ≤ fu ∧ fu ≤ 9223372036854775807) : Dv.Ok { de := de, fu := fu, dn := dn, kept := settleL f 0 D.pend D.kept, pend := [] } :=
  ⟨by rw [settle_len]; exact h.n1, by rw [settle_len]; exact h.n2, settle_all f _ _ _ (fun p hp => (h.p64 p hp).1) h.k64, by simp, hde, hfu⟩
theorem left_settled {w w' : World} {g rk c : Nat} {vp : Value} {K : List (List UInt8)} {de fu : Int} {dn : Bool} (hb : Blk w' g 107 (dv de fu dn (.slice (some ⟨rk, 0, none⟩) K.length c) (.slice none 0 0))) (hk : w'.ownsRow 0 109 64 (.slice (some ⟨rk, 0, none⟩) K.length c) K.length (keptCells K))
    (ht : Turned (fun b => b = g ∨ b = rk) w w') (hok : Dv.Ok { de := de, fu := fu, dn := dn, kept := K, pend := [] }) : Left w (Foot g rk vp) g { de := de, fu := fu, dn := dn, kept := K, pend := [] } w' := by
  refine ⟨Foot g rk (.slice none 0 0), ⟨rk, c, _, rfl, hb, hk, ⟨rfl, .inl ⟨rfl, rfl⟩⟩, hok⟩, ht.mono fun k _ h => ?_, ?_⟩
  · rcases h with h | h
    · exact .inl h
    · exact .inr (.inl h)
  · rintro k (h | h | h)
    · exact .inl (.inl h)
    · exact .inl (.inr (.inl h))
    · cases h
set_option maxRecDepth 100000 in
set_option maxHeartbeats 1000000 in
theorem flush_any {D : Dv} {F : Nat → Prop} {g : Nat} (w : World) (h : DevAt w F g D) (hde : D.de ≤ 1000000000) (hm : D.pend.length ≤ 100000) :
    Calls Try.prog 29 #[.pointer (some ⟨g, 0, none⟩)] w fun e w' => e = .returned (.int .i64 D.flush.1) ∧ Left w F g D.flush.2 w' := by
  have h0 := h
  obtain ⟨rk, c, vp, rfl, hb, hk, hp, hok⟩ := h
  have HO := hide hok
  have H := hide (And.intro hb (And.intro hk (And.intro hp h0)))
  clear hb hk hp h0
  cases hdn : D.dn with
  | true =>
    rw [show D.flush = (10, D) by simp [Dv.flush, hdn]]
    go_enter Try.func29, Try.ntmps29
    go_wp2_with fail
    refine (able_any _ H.out.1).mono ?_
    rintro e w' ⟨rfl, rfl⟩
    rw [hdn, if_pos rfl]
    dsimp only
    go_wp2_with fail
    go_ret
    exact ⟨rfl, .same H.out.2.2.2⟩
  | false =>
    have Hb := H.out.1
    rw [hdn] at Hb
    rcases tick_cases D.de D.fu with ⟨hf, ht⟩ | ⟨fu', ht, hf⟩
    · have ok' := hok.ticked ht D.pend hok.p64 true
      rw [show D.flush = (10, { D with de := D.de, fu := 0, dn := true }) by simp [Dv.flush, hdn, ht]]
      have HT := hide (And.intro ht (And.intro hok.de hok.fu))
      have HX := hide ok'
      clear ok' hok ht
      go_enter Try.func29, Try.ntmps29
      go_wp2_with fail
      refine (able_any _ Hb).mono ?_
      rintro e w' ⟨rfl, rfl⟩
      rw [if_neg (by simp)]
      dsimp only
      go_wp2_with fail
      refine (next_any _ _ ⟨HT.out.2.1, hde⟩ HT.out.2.2 Hb).mono ?_
      rintro e w1 ⟨rfl, hb1, hg1⟩
      rw [HT.out.1] at hb1 ⊢
      dsimp only
      have H1 := hide (And.intro hb1 hg1)
      clear hb1 hg1
      go_wp2_with fail
      go_ret
      exact ⟨rfl, left_own Hb H.out.2.1 H.out.2.2.1 H1.out.1 H1.out.2 rfl rfl HX.out⟩
    · have ok' := hok.settled (fun _ => true) false (show 0 ≤ D.de + 1 by have := hok.de; omega) (show 0 ≤ fu' ∧ fu' ≤ 9223372036854775807 by have := hok.fu; exact ⟨hf.1 this.1, by omega⟩)
      rw [show D.flush = (0, { de := D.de + 1, fu := fu', dn := false, kept := settleL (fun _ => true) 0 D.pend D.kept, pend := [] }) by simp [Dv.flush, hdn, ht]]
      have HT := hide (And.intro ht (And.intro hok.de hok.fu))
      have HX := hide ok'
      clear ok' hok ht
      go_enter Try.func29, Try.ntmps29
      go_wp2_with fail
      refine (able_any _ Hb).mono ?_
      rintro e w' ⟨rfl, rfl⟩
      rw [if_neg (by simp)]
      dsimp only
      go_wp2_with fail
      refine (next_any _ _ ⟨HT.out.2.1, hde⟩ HT.out.2.2 Hb).mono ?_
      rintro e w1 ⟨rfl, hb1, hg1⟩
      rw [HT.out.1] at hb1 ⊢
      dsimp only
      have H1 := hide (And.intro hb1 hg1)
      clear hb1 hg1
      go_wp2_with fail
      have hkg : rk ≠ g := fun e => owned_neN H.out.2.1 Hb (by decide) (by rw [← e]; rfl)
      have hpg : vp.ownBlock ≠ some g := owned_neN H.out.2.2.1 Hb (by decide)
      have hk1 := owned_keepN H.out.2.1 (w' := w1) fun k hk hl => H1.out.2.block k hl (fun e => hkg (by have hk : some rk = some k := hk; injection hk with hk; injection e with e; rw [hk, e]))
      have hp1 := owned_keepN H.out.2.2.1 (w' := w1) fun k hk hl => H1.out.2.block k hl (fun e => hpg (by rw [hk, e]))
      refine (settle_any 62 #[] (fun _ => true) D.kept D.pend w1 (by omega) HO.out.n2 rfl rfl H1.out.1 hk1 hp1 HO.out.k64 HO.out.p64 (fun _ _ => by kernel_rfl) (fun W k _ _ => yes_any k W)).mono ?_
      rintro e w2 ⟨rfl, hb2, hk2, ht2⟩
      have H2 := hide (And.intro hb2 (And.intro hk2 ht2))
      clear hb2 hk2 ht2 hk1 hp1
      dsimp only
      go_wp2_with fail
      go_ret
      have el : D.kept.length = (settleL (fun _ => true) 0 D.pend D.kept).length := (settle_len ..).symm
      have h2 := H2.out
      rw [el] at h2
      refine ⟨rfl, left_settled h2.1 h2.2.1 ((Turned.of_grown H1.out.2 (fun k h _ => .inl (by injection h with h; exact h.symm))).trans h2.2.2) HX.out⟩
set_option maxRecDepth 100000 in
set_option maxHeartbeats 1000000 in
theorem wake_any {D : Dv} {F : Nat → Prop} {g : Nat} (x : Int) (w : World) (h : DevAt w F g D) (hm : D.pend.length ≤ 100000) :
    Calls Try.prog 33 #[.pointer (some ⟨g, 0, none⟩), .int .i64 x] w fun e w' => e = .returned (.int .i64 (D.wake x).1) ∧ Left w F g (D.wake x).2 w' := by
  have h0 := h
  obtain ⟨rk, c, vp, rfl, hb, hk, hp, hok⟩ := h
  have HO := hide hok
  have H := hide (And.intro hb (And.intro hk (And.intro hp h0)))
  clear hb hk hp h0
  cases hdn : D.dn with
  | false =>
    rw [show D.wake x = (15, D) by simp [Dv.wake, hdn]]
    go_enter Try.func33, Try.ntmps33
    go_wp2_with fail
    refine (able_any _ H.out.1).mono ?_
    rintro e w' ⟨rfl, rfl⟩
    rw [hdn, if_neg (by simp)]
    dsimp only
    go_wp2_with fail
    go_ret
    exact ⟨rfl, .same H.out.2.2.2⟩
  | true =>
    have Hb := H.out.1
    rw [hdn] at Hb
    have ok' := hok.settled (wakeB (IntKind.u64.wrap x)) false hok.de (show 0 ≤ (0 : Int) ∧ (0 : Int) ≤ 9223372036854775807 by omega)
    rw [show D.wake x = (0, { de := D.de, fu := 0, dn := false, kept := settleL (wakeB (IntKind.u64.wrap x)) 0 D.pend D.kept, pend := [] }) by simp [Dv.wake, hdn]]
    have HX := hide ok'
    clear ok' hok
    go_enter Try.func33, Try.ntmps33
    go_wp2_with fail
    refine (able_any _ Hb).mono ?_
    rintro e w' ⟨rfl, rfl⟩
    rw [if_pos rfl]
    dsimp only
    go_wp2_with fail
    obtain ⟨w1, hw1⟩ : ∃ w1, w1 = w'.alloc (.cells #[.int .u64 (IntKind.u64.wrap x)] 113) := ⟨_, rfl⟩
    have hT1 : Turned (fun _ => False) w' w1 := by rw [hw1]; exact (Turned.refl _ _).alloc _
    have hq : Blk w1 w'.heap.size 113 #[.int .u64 (IntKind.u64.wrap x)] := by rw [hw1]; exact Blk.new _ _ _
    have hb1 := (hT1.block g Hb.lt (fun h => h)).trans Hb
    have hk1 := owned_keepN H.out.2.1 (w' := w1) fun k hk hl => hT1.block k hl (fun h => h)
    have hp1 := owned_keepN H.out.2.2.1 (w' := w1) fun k hk hl => hT1.block k hl (fun h => h)
    have hrk : rk < w'.heap.size := (owned_ltN H.out.2.1 rfl).2
    rw [← hw1]
    have H1 := hide (And.intro hT1 hq)
    clear hw1 hT1 hq
    refine (settle_any 64 #[.pointer (some ⟨w'.heap.size, 0, none⟩)] (wakeB (IntKind.u64.wrap x)) D.kept D.pend w1 (by omega) HO.out.n2 rfl rfl hb1 hk1 hp1 HO.out.k64 HO.out.p64 (fun _ _ => by kernel_rfl) (fun W k hk hW => bit_any _ k (by omega) _ W ?_)).mono ?_
    · rw [World.cell?_of_block (hW.block _ H1.out.2.lt (fun e => by have e : w'.heap.size = rk := e; omega)), H1.out.2.cell]
      rfl
    rintro e w2 ⟨rfl, hb2, hk2, ht2⟩
    have c0 := (hb2.cell 0).trans (dv0 ..)
    have c1 := (hb2.cell 1).trans (dv1 ..)
    have c2 := (hb2.cell 2).trans (dv2 ..)
    have f0 := hb2.frozen 0
    have f1 := hb2.frozen 1
    have f2 := hb2.frozen 2
    have hlt := hb2.lt
    have H2 := hide (And.intro hb2 (And.intro hk2 ht2))
    clear hb2 hk2 ht2 hk1 hp1 hb1
    dsimp only
    go_wp2_with fail
    go_ret
    have el : D.kept.length = (settleL (wakeB (IntKind.u64.wrap x)) 0 D.pend D.kept).length := (settle_len ..).symm
    have h2 := H2.out
    rw [el] at h2
    have hb5 := ((h2.1.set_ 0 (.int .i64 D.de)).set_ 1 (.int .i64 0)).set_ 2 (.bool false)
    rw [dv_set0, dv_set1, dv_set2] at hb5
    have hkg : ∀ k, some rk = some k → k ≠ g := fun k e e2 => owned_neN H.out.2.1 Hb (by decide) (by rw [← e2]; exact e)
    have hT : Turned (fun b => b = g ∨ b = rk) w' w2 := (H1.out.1.mono (fun _ _ h => h.elim)).trans h2.2.2
    refine ⟨rfl, left_settled hb5 (owned_keepN h2.2.1 fun k hk _ => ?_) (((hT.setCell (fun _ => .inl rfl) _).setCell (fun _ => .inl rfl) _).setCell (fun _ => .inl rfl) _) HX.out⟩
    have hk := hkg k hk
    rw [Below.heap_setCell _ ⟨g, 2, none⟩ _ k hk, Below.heap_setCell _ ⟨g, 1, none⟩ _ k hk, Below.heap_setCell _ ⟨g, 0, none⟩ _ k hk]
end Go.Proofs.Ytajeohmmobgcjaa
