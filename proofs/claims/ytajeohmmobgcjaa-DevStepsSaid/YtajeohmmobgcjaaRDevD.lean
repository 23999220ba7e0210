/- spenceref04: a write of the document's device. -/
import Derived.Test.YtajeohmmobgcjaaRDevC
namespace Go.Proofs.Ytajeohmmobgcjaa
open Go Go.RowKit
theorem info_wait : (Try.prog.info? 126).map (fun i => (i.zero, i.size, i.bytes)) = some (some (.agg #[.int .i64 0, .slice none 0 0]), 2, 32) := by kernel_rfl
theorem wait_snoc (us : List (Int × Value)) (x : Int) (v : Value) : waitCells (us ++ [(x, v)]) = waitCells us ++ [.int .i64 x, v] := by simp [waitCells]
set_option maxRecDepth 100000
set_option maxHeartbeats 1000000 in
theorem rwrite_ok {D : Dv} {F : Nat → Prop} {g ra c : Nat} {vw : Value} {us : List (Int × Value)} {fu' : Int} (x : Int) (l : List UInt8) (A : Option Addr) (cap : Nat) (w : World) (hr : RefBlk w F g ra c vw us D) (hdn : D.dn = false) (hde : D.de ≤ 1000000000) (hm : D.pend.length ≤ 100000)
    (ht : tick D.de D.fu false = (0, D.de + 1, fu', false)) (hf : 0 ≤ fu' ∧ fu' ≤ 9223372036854775807) (hx : 0 ≤ x ∧ x < (D.kept.length : Int)) (hl : l.length ≤ 64) (hs : Src w A l.length cap (bv l)) (hsb : ∀ ad, A = some ad → 0 < l.length → ¬ F ad.block) :
    Calls Try.prog 66 #[.pointer (some ⟨g, 0, none⟩), .int .i64 x, .slice A l.length cap] w fun e w' => e = .returned (.int .i64 0) ∧ RLeft w F g { D with de := D.de + 1, fu := fu', dn := false, pend := D.pend ++ [(x, pad l)] } w' := by
  obtain ⟨i8, hi8, hz80, hz81, hz82⟩ := info_parts info_1
  obtain ⟨iw, hiw, hzw0, hzw1, hzw2⟩ := info_parts info_wait
  have hb := hr.blk
  rw [hdn] at hb
  have c4 := (hb.cell 4).trans (rdv4 ..)
  have hlt := hb.lt
  have hnk := hr.ok.n2
  have hx1 := hx.1
  have hx2 := hx.2
  have hl64 : ¬ (64 : Int) < (l.length : Int) := by omega
  have HR := hide (And.intro hr (And.intro hb (And.intro hs hsb)))
  have HT := hide (And.intro ht (And.intro hr.ok.de hr.ok.fu))
  have HF := hide (And.intro hf hdn)
  clear hb hr hs hsb ht hf hdn
  go_enter Try.func66, Try.ntmps66
  go_wp2_with fail
  refine (rsectors_any _ hnk HR.out.2.1).mono ?_
  rintro e w' ⟨rfl, rfl⟩
  dsimp only
  go_wp2_with fail
  refine (rdeed_any _ ⟨HT.out.2.1, hde⟩ HT.out.2.2 HR.out.2.1).mono ?_
  rintro e w1 ⟨rfl, hb1, hg1⟩
  rw [HT.out.1] at hb1 ⊢
  rw [show decide ((0 : Int) = 0) = true from rfl]
  dsimp only at hb1 ⊢
  have hs1 : Src w1 A l.length cap (bv l) := HR.out.2.2.1.turned2 (Turned.of_grown (S := (· = g)) hg1 (fun k h _ => by injection h with h; exact h.symm)) (fun ad ha h0 e => HR.out.2.2.2 ad ha h0 (by rw [show ad.block = g from e]; exact HR.out.1.fg))
  have H1 := hide (And.intro hb1 (And.intro hg1 hs1))
  have hlt1 := hb1.lt
  clear hb1 hg1 hs1
  go_wp2_with (at_make; refine wpList_make_full _ rfl _ _ 48 rfl w1.heap.size 5 i8 (.int .u8 0) 1 Try.underlying48 hi8 hz80 hz81 _ _ _ _ 64 rfl rfl ?e0 ?e1 ?e2 ?e3 ?e4 ?_)
  case e0 => rfl
  case e1 => rfl
  case e2 => rw [hz82]; omega
  case e3 => simp only [maxLen]; omega
  case e4 => exact Nat.le_refl _
  intro w2 own2 gr2
  rw [made_bv] at own2
  have own2 : w2.ownsRow w1.heap.size 5 1 (.slice (some ⟨w1.heap.size, 0, none⟩) 64 64) 64 (bv (List.replicate 64 0)) := own2
  have hb2 := (own_blk own2).1
  have hB2 : Below w1.heap.size w1 w2 := (Below.refl _ _).grown gr2 (Nat.le_refl _) (by intro k hk; cases hk)
  have hs2 : Src w2 A l.length cap (bv l) := H1.out.2.2.turned2 (Turned.of_below hB2 (fun _ => False)) (fun _ _ _ h => h)
  have HL : Hid ((bv l).length = Nat.min l.length 64) := hide (by rw [bvL]; exact (Nat.min_eq_left hl).symm)
  have HFT : Hid (0 + (bv l).length ≤ (bv (List.replicate 64 0)).toArray.size) := hide (by rw [bvL]; simp [bv]; omega)
  have H2 := hide (And.intro hb2 (And.intro hB2 hs2))
  clear hb2 hB2 hs2 own2 gr2
  have hpre : ∀ w3 : World, w2.grownBy w3 (some w1.heap.size) → Blk w3 g 82 (rdv (.slice (some ⟨ra, 0, none⟩) (D.kept.length * 64) c) vw (D.de + 1) fu' false) ∧
      ∃ k5 cap5 w5, (Builtin.append_ #[80, 80] 80 #[vw, .slice (some ⟨w3.heap.size, 0, none⟩) 1 1]).run Try.prog (w3.alloc (.cells #[.int .i64 x, .slice (some ⟨w1.heap.size, 0, none⟩) 64 64] 126)) = .ok (.slice (some ⟨k5, 0, none⟩) (D.pend.length + 1) cap5) w5 ∧
        w5.ownsRow 0 126 2 (.slice (some ⟨k5, 0, none⟩) (D.pend.length + 1) cap5) (D.pend.length + 1) (waitCells us ++ [.int .i64 x, .slice (some ⟨w1.heap.size, 0, none⟩) 64 64]) ∧ (w3.alloc (.cells #[.int .i64 x, .slice (some ⟨w1.heap.size, 0, none⟩) 64 64] 126)).grownBy w5 vw.ownBlock ∧
        (vw.ownBlock = some k5 ∨ k5 = w3.heap.size + 1) ∧ Blk w5 g 82 (rdv (.slice (some ⟨ra, 0, none⟩) (D.kept.length * 64) c) vw (D.de + 1) fu' false) := by
    intro w3 hg3
    have hs12 : w1.heap.size ≤ w2.heap.size := H2.out.2.1.size
    have hs23 := hg3.size
    have hdv2 := H1.out.1.below H2.out.2.1 hlt1
    have hdv3 : Blk w3 g 82 (rdv (.slice (some ⟨ra, 0, none⟩) (D.kept.length * 64) c) vw (D.de + 1) fu' false) := hdv2.grown hg3 (fun e => by injection e with e; omega)
    have hvg : vw.ownBlock ≠ some g := owned_neN HR.out.1.row HR.out.2.1 (by decide)
    have ho3 : w3.ownsRow 0 126 2 vw D.pend.length (waitCells us) := owned_keepN HR.out.1.row fun k hk hl => by
      have h1 := H1.out.2.1.size
      exact ((hg3.block k (by omega) (fun e => by injection e with e; omega)).trans (H2.out.2.1.block k (by omega))).trans (H1.out.2.1.block k hl (fun e => hvg (by rw [hk, e])))
    have ho4 : (w3.alloc (.cells #[.int .i64 x, .slice (some ⟨w1.heap.size, 0, none⟩) 64 64] 126)).ownsRow 0 126 2 vw D.pend.length (waitCells us) := owned_keepN ho3 fun k _ hl => Below.heap_alloc _ _ k hl
    obtain ⟨v5, w5, h1, h2, h3, h4⟩ := run_appG (P := Try.prog) (w := w3.alloc (.cells #[.int .i64 x, .slice (some ⟨w1.heap.size, 0, none⟩) 64 64] 126)) 0 80 80 126 iw _ 2 32 Try.underlying80 hiw hzw0 hzw1 hzw2 rfl (by omega) vw D.pend.length (waitCells us) ho4 ⟨w3.heap.size, 0, none⟩ 1 1 [.int .i64 x, .slice (some ⟨w1.heap.size, 0, none⟩) 64 64] rfl (MadeRow.cells (l := [.int .i64 x, .slice (some ⟨w1.heap.size, 0, none⟩) 64 64]) (Blk.new w3 _ _)) (by simp [Value.oneCell']) (by omega) (by simp only [maxLen]; omega) (by omega) (Nat.zero_le _)
    obtain ⟨k5, cap5, hv5⟩ := owned_placeN h2 (by omega)
    subst hv5
    refine ⟨hdv3, k5, cap5, w5, h1, h2, h3, ?_, (hdv3.alloc _).grown h3 (fun e => hvg e.symm)⟩
    rcases h4 with ⟨g', cap', e1, e2⟩ | ⟨e1, _⟩
    · injection e2 with e2
      injection e2 with e2
      injection e2 with e2
      rw [e1, e2]
      exact .inl rfl
    · have e1 : some k5 = some _ := e1
      injection e1 with e1
      rw [size_alloc] at e1
      exact .inr e1
  have HPRE := hide hpre
  clear hpre
  go_wp2_with (first
    | ((with_reducible refine wpList_copyS (o := ⟨some 31, _, _, _, _, _⟩) rfl (.tmp 29) (.tmp 30) 48 48 rfl 5 Try.underlying48 size5 w1.heap.size 0 64 64 A l.length cap (bv (List.replicate 64 0)).toArray 5 H2.out.1 (bv l) HL.out H2.out.2.2 HFT.out ?_ ?_ ?_); rfl; rfl; intro w3 h3 hg3; obtain ⟨hdv3, k5, cap5, w5, h5, ho5, hg5, hx5, hdv5⟩ := HPRE.out w3 hg3; have H3 := hide (And.intro h3 hg3); have H5 := hide (And.intro ho5 (And.intro hg5 (And.intro hx5 hdv5))); have c1w := (hdv3.cell 1).trans (rdv1 _ _ _ _ _); have c1x := (hdv5.cell 1).trans (rdv1 _ _ _ _ _); have f1x := hdv5.frozen 1; have hltx := hdv5.lt; have hlt3 := hdv3.lt; clear h3 hg3 ho5 hg5 hx5 hdv5 hdv3; dsimp only [Act.put, List.setIfInBounds_toArray, List.set_cons_zero, List.set_cons_succ])
    | (at_builtin; (refine wpList_value (o := ⟨some 41, _, _, _, _, _⟩) rfl (.slice (some ⟨k5, 0, none⟩) (D.pend.length + 1) cap5) w5 (exec_append (o := ⟨some 41, _, _, _, _, _⟩) (.tmp 36) (.tmp 40) 80 rfl vw (.slice (some ⟨w3.heap.size, 0, none⟩) 1 1) _ _ _ rfl rfl h5) ?_); dsimp only [Act.put, List.setIfInBounds_toArray, List.set_cons_zero, List.set_cons_succ]))
  go_ret
  obtain ⟨h3, hg3⟩ := H3.out
  rw [pad_copy l] at h3
  obtain ⟨ho5, hg5, hx5, hdv5⟩ := H5.out
  have hr := HR.out.1
  have hs1 := H1.out.2.1.size
  have hs2 := H2.out.2.1.size
  have hs3 := hg3.size
  have hs5 := hg5.size
  rw [size_alloc] at hs5
  have hT5 : Turned (fun k => k = g ∨ vw.ownBlock = some k) w' w5 := ((((Turned.of_grown (S := fun k => k = g ∨ vw.ownBlock = some k) H1.out.2.1 (fun k h _ => .inl (by injection h with h; exact h.symm))).trans (Turned.of_below H2.out.2.1 _)).then_ (Turned.of_grown (S := (· = w1.heap.size)) hg3 (fun k h _ => by injection h with h; exact h.symm)) (fun k hk h => by
    have h : k = w1.heap.size := h
    omega)).alloc _).then_ (Turned.of_grown (S := fun k => vw.ownBlock = some k) hg5 (fun k h _ => h)) (fun k _ h => .inr h)
  have hT6 := hT5.setCell (p := ⟨g, 1, none⟩) (fun _ => .inl rfl) (.slice (some ⟨k5, 0, none⟩) (D.pend.length + 1) cap5)
  obtain ⟨w6, hw6⟩ : ∃ w6, w6 = w5.setCell ⟨g, 1, none⟩ (.slice (some ⟨k5, 0, none⟩) (D.pend.length + 1) cap5) := ⟨_, rfl⟩
  have hb6 := hdv5.set_ 1 (.slice (some ⟨k5, 0, none⟩) (D.pend.length + 1) cap5)
  rw [rdv_set1] at hb6
  have hset : ∀ k, k ≠ g → w6.heap[k]? = w5.heap[k]? := fun k hk => by rw [hw6]; exact Below.heap_setCell w5 ⟨g, 1, none⟩ _ k hk
  have hs6 : w6.heap.size = w5.heap.size := by rw [hw6]; simp [World.setCell]
  rw [← hw6] at hT6 hb6 ⊢
  have hp8 : ∀ {n s : Nat} {v : Value} {xs : List Value}, w'.ownsRow 0 5 s v n xs → w6.ownsRow 0 5 s v n xs := fun h2 => owned_keepN h2 fun k hv hl => hT6.block k hl (fun e => by
    rcases e with e | e
    · exact owned_neN h2 hr.blk (by decide) (by rw [hv, e])
    · exact owned_ne2 hr.row h2 (by decide) e hv rfl)
  have hkg : k5 ≠ g := fun e => owned_neN ho5 hdv5 (by decide) (by rw [← e]; rfl)
  have hrow : w6.ownsRow 0 126 2 (.slice (some ⟨k5, 0, none⟩) (D.pend.length + 1) cap5) (D.pend.length + 1) (waitCells us ++ [.int .i64 x, .slice (some ⟨w1.heap.size, 0, none⟩) 64 64]) := owned_keepN ho5 fun k hv _ => hset k (by
    have hv : some k5 = some k := hv
    injection hv with hv
    rw [← hv]
    exact hkg)
  have hvlt : ∀ k, vw.ownBlock = some k → k < w'.heap.size := fun k hk => (owned_ltN hr.row hk).2
  have hglt : g < w'.heap.size := hr.blk.lt
  have hq6 : Blk w6 w1.heap.size 5 (bv (pad l)).toArray := by
    refine (hset _ (by omega)).trans (((hg5.block w1.heap.size (by rw [size_alloc]; have := h3.lt; omega) (fun e => ?_)).trans (Below.heap_alloc _ _ _ h3.lt)).trans h3)
    have := hvlt _ e.symm
    omega
  have hpl : (bv (pad l)).length = 64 := by rw [bvL, pad_len l hl]
  refine ⟨rfl, fun k => F k ∨ (w'.heap.size ≤ k ∧ k < w6.heap.size), ⟨ra, c, .slice (some ⟨k5, 0, none⟩) (D.pend.length + 1) cap5, us ++ [(x, .slice (some ⟨w1.heap.size, 0, none⟩) 64 64)], .inl hr.fg, .inl hr.fa, fun k hk => ?_, fun k hk => ?_, hb6, hp8 hr.all, ?_, ?_, ?_⟩, hT6.mono fun k _ hk => ?_, fun k hk => ?_⟩
  · have hk : some k5 = some k := hk
    injection hk with hk
    subst hk
    rcases hx5 with h | h
    · exact .inl (hr.fw _ h)
    · refine .inr ⟨by omega, ?_⟩
      have := (owned_ltN hrow (g := k5) rfl).2
      exact this
  · rcases hk with hk | hk
    · have := hr.flt k hk
      omega
    · exact hk.2
  · show w6.ownsRow 0 126 2 _ (D.pend ++ [(x, pad l)]).length (waitCells (us ++ [(x, .slice (some ⟨w1.heap.size, 0, none⟩) 64 64)]))
    rw [wait_snoc, List.length_append]
    exact hrow
  · refine ⟨by simp [hr.wts.1], fun i p hp => ?_⟩
    rcases Nat.lt_or_ge i D.pend.length with hi | hi
    · have hp2 : D.pend[i]? = some p := by
        have hp : (D.pend ++ [(x, pad l)])[i]? = some p := hp
        rwa [List.getElem?_append_left hi] at hp
      obtain ⟨q, c2, e1, e2, e3, e4⟩ := hr.wts.2 i p hp2
      exact ⟨q, c2, by rw [List.getElem?_append_left (by rw [hr.wts.1]; exact hi)]; exact e1, .inl e2, e3, hp8 e4⟩
    · have hp : (D.pend ++ [(x, pad l)])[i]? = some p := hp
      rw [List.getElem?_append_right hi] at hp
      have hi0 : i - D.pend.length = 0 := by
        have := (List.getElem?_eq_some_iff.1 hp).1
        simp at this
        omega
      rw [hi0] at hp
      simp only [List.getElem?_cons_zero, Option.some.injEq] at hp
      subst hp
      refine ⟨w1.heap.size, 64, ?_, .inr ⟨by omega, by rw [hs6]; have := h3.lt; omega⟩, fun e => by have := (owned_ltN hr.all (g := ra) rfl).2; omega, blk_own hq6 (Nat.zero_le _) hpl (by simp only [maxLen]; omega)⟩
      rw [List.getElem?_append_right (by rw [hr.wts.1]; exact hi), hr.wts.1, hi0]
      rfl
  · have hok := hr.ok
    refine ⟨hok.n1, hok.n2, hok.k64, fun q hq => ?_, by show 0 ≤ D.de + 1; have := hok.de; omega, HF.out.1⟩
    rcases List.mem_append.1 hq with hq | hq
    · exact hok.p64 q hq
    · rw [List.mem_singleton.1 hq]
      exact ⟨pad_len l hl, hx1, hx2⟩
  · rcases hk with hk | hk
    · rw [hk]; exact hr.fg
    · exact hr.fw k hk
  · rcases hk with hk | hk
    · exact .inl hk
    · exact .inr hk.1
set_option maxHeartbeats 1000000 in
theorem rwrite_any {D : Dv} {F : Nat → Prop} {g : Nat} (x : Int) (l : List UInt8) (A : Option Addr) (cap : Nat) (w : World) (h : RefAt w F g D) (hde : D.de ≤ 1000000000) (hm : D.pend.length ≤ 100000) (hx : -9223372036854775808 ≤ x ∧ x ≤ 9223372036854775807) (hl : l.length ≤ 1000000000)
    (hs : Src w A l.length cap (bv l)) (hsb : ∀ ad, A = some ad → 0 < l.length → ¬ F ad.block) :
    Calls Try.prog 66 #[.pointer (some ⟨g, 0, none⟩), .int .i64 x, .slice A l.length cap] w fun e w' => e = .returned (.int .i64 (D.write x l).1) ∧ RLeft w F g (D.write x l).2 w' := by
  have h0 := h
  obtain ⟨ra, c, vw, us, hr⟩ := h
  have hb := hr.blk
  have hnk := hr.ok.n2
  have HR := hide (And.intro h0 (And.intro hr hb))
  clear h0
  have hx1 := hx.1
  have hx2 := hx.2
  cases hdn : D.dn with
  | true =>
    rw [show D.write x l = (10, D) by simp [Dv.write, hdn]]
    rw [hdn] at hb
    have c4 := (hb.cell 4).trans (rdv4 ..)
    have hlt := hb.lt
    clear hb hr hs hsb
    go_enter Try.func66, Try.ntmps66
    go_wp2
    go_ret
    exact ⟨rfl, .same HR.out.1⟩
  | false =>
    by_cases hin : 0 ≤ x ∧ x < (D.kept.length : Int)
    · by_cases h64 : l.length ≤ 64
      · rcases tick_cases D.de D.fu with ⟨hf, ht⟩ | ⟨fu', ht, hf⟩
        · have hwr : D.write x l = (10, { D with de := D.de, fu := 0, dn := true }) := by simp [Dv.write, hdn, hin, h64, ht]
          rw [hwr]
          rw [hdn] at hb
          have c4 := (hb.cell 4).trans (rdv4 ..)
          have hlt := hb.lt
          have ok' := hr.ok.ticked ht D.pend hr.ok.p64 true
          have HT := hide (And.intro ht (And.intro hr.ok.de hr.ok.fu))
          have HX := hide (And.intro ok' hb)
          have i1 := hin.1
          have i2 := hin.2
          have i3 : ¬ (64 : Int) < (l.length : Int) := by omega
          clear ok' ht hb hr hs hsb hwr hin
          go_enter Try.func66, Try.ntmps66
          go_wp2_with fail
          refine (rsectors_any _ hnk HX.out.2).mono ?_
          rintro e w' ⟨rfl, rfl⟩
          dsimp only
          go_wp2_with fail
          refine (rdeed_any _ ⟨HT.out.2.1, hde⟩ HT.out.2.2 HX.out.2).mono ?_
          rintro e w1 ⟨rfl, hb1, hg1⟩
          rw [HT.out.1] at hb1 ⊢
          rw [show decide ((10 : Int) = 0) = false from rfl]
          dsimp only at hb1 ⊢
          have H1 := hide (And.intro hb1 hg1)
          clear hb1 hg1
          go_wp2_with fail
          go_ret
          have h2 := rleft_own HR.out.2.1 (D' := { D with de := D.de, fu := 0, dn := true }) H1.out.1 H1.out.2 rfl rfl HX.out.1
          exact ⟨rfl, F, ⟨_, _, _, _, h2.1⟩, h2.2, fun _ h => .inl h⟩
        · have hwr : D.write x l = (0, { D with de := D.de + 1, fu := fu', dn := false, pend := D.pend ++ [(x, pad l)] }) := by simp [Dv.write, hdn, hin, h64, ht]
          rw [hwr]
          exact rwrite_ok x l A cap w hr hdn hde hm ht (by have := hr.ok.fu; exact ⟨hf.1 this.1, by omega⟩) hin h64 hs hsb
      · rw [show D.write x l = (2, D) by simp [Dv.write, hdn, h64]]
        rw [hdn] at hb
        have c4 := (hb.cell 4).trans (rdv4 ..)
        have hlt := hb.lt
        have i1 := hin.1
        have i2 := hin.2
        have i3 : (64 : Int) < (l.length : Int) := by omega
        have HX := hide hb
        clear hb hr hs hsb hin
        go_enter Try.func66, Try.ntmps66
        go_wp2_with fail
        refine (rsectors_any _ hnk HX.out).mono ?_
        rintro e w' ⟨rfl, rfl⟩
        dsimp only
        go_wp2_with fail
        go_ret
        exact ⟨rfl, .same HR.out.1⟩
    · rw [show D.write x l = (2, D) by simp [Dv.write, hdn, hin]]
      rw [hdn] at hb
      have c4 := (hb.cell 4).trans (rdv4 ..)
      have hlt := hb.lt
      have HX := hide hb
      by_cases hneg : x < 0
      · clear hb hr hs hsb hin
        go_enter Try.func66, Try.ntmps66
        go_wp2_with fail
        go_ret
        exact ⟨rfl, .same HR.out.1⟩
      · have i1 : 0 ≤ x := by omega
        have i2 : (D.kept.length : Int) ≤ x := by omega
        clear hb hr hs hsb hin
        go_enter Try.func66, Try.ntmps66
        go_wp2_with fail
        refine (rsectors_any _ hnk HX.out).mono ?_
        rintro e w' ⟨rfl, rfl⟩
        dsimp only
        go_wp2_with fail
        go_ret
        exact ⟨rfl, .same HR.out.1⟩
end Go.Proofs.Ytajeohmmobgcjaa
