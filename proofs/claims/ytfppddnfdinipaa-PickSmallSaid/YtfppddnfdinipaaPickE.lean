/- package pick: name. -/
import Derived.Test.YtfppddnfdinipaaPickE0
import Derived.Test.YtfppddnfdinipaaBuild
namespace Go.Proofs.Ytfppddnfdinipaa
open Go Go.RowKit Go.Maps
set_option maxRecDepth 100000
abbrev mC (h : Hsh) (p : Pth) : List Value := bv h ++ pC p
theorem made_h {w : World} {g : Nat} {h : Hsh} {p : Pth} (hb : Blk w g 60 (mC h p).toArray) : w.rangeAt g 0 (bv h) := by
  have := rangeAt_blk hb
  exact rangeAt_left (c2 := pC p) (by simpa using this)
theorem made_p {w : World} {g : Nat} {h : Hsh} {p : Pth} (hb : Blk w g 60 (mC h p).toArray) (hh : okH h) : w.rangeAt g 20 (pC p) := by
  have h1 := rangeAt_blk hb
  have h2 := rangeAt_right (c1 := bv h) (c2 := pC p) (by simpa using h1)
  have e : 0 + (bv h).length = 20 := by rw [bvL, hh]
  rwa [e] at h2
/-- what name does -/
def NameQ (own : Hsh) (S S' : Sst) (h : Hsh) (p : Pth) : Prop :=
  (hasH (clsL S p) h = true ∧ S' = S) ∨ (hasH (clsL S p) h = false ∧ ∃ u, (0 < tmN S p ∧ TurnQ own (S.add p (clsL S p ++ [h]) u) S' h p true) ∨ (¬ 0 < tmN S p ∧ S' = S.add p (clsL S p ++ [h]) u))
theorem tmN_add (S : Sst) (p q : Pth) (l : List Hsh) (u : Value) : tmN (S.add p l u) q = tmN S q := rfl
theorem hereL_add (S : Sst) (p : Pth) (l : List Hsh) (u : Value) (h : Hsh) : hereL (S.add p l u) h = hereL S h := rfl
theorem srch24 {w : World} {s cb tb hb : Nat} {c : Cvs} {S : Sst} (ho : okH c.own) (h : Blk w s 104 (srchCells c cb tb hb S).toArray) : w.cell? ⟨s, 24, none⟩ = some (.map (some cb)) := by
  rw [h.cell]
  have := (srch_at c cb tb hb S ho).2.2.2.2.2.1
  simpa using this
/-- the entry, wherever it is looked for -/
theorem ent_step {B : Nat} {w W : World} {s cb tb hb : Nat} {c : Cvs} {S : Sst} {p : Pth} {F : List Value} {N : Nat} (hS : SAt B w s cb tb hb c S) (hp : okP p) (hx : GrowN cb (cmV S) p (cvL S p) F N w W) :
    ∃ w' st, (Instr.mapEntry 100 (.map (some cb)) (.agg (pC p).toArray)).run Try.prog W = .ok (.tuple #[cvL S p, .int .i64 (st : Nat)]) w' ∧ MapIs pV okP idV w' cb (ment (cmV S) p (.slice none 0 0)) ∧ StampIs w' cb (pV p) st ∧ GrowN cb (cmV S) p (cvL S p) F N W w' := by
  have hval : idV ((mget (cmV S) p).getD (.slice none 0 0)) = cvL S p := by
    rw [← cvL_look S p]
    cases mget (cmV S) p <;> rfl
  have hcase : MapIs pV okP idV W cb (cmV S) ∨ (mget (cmV S) p = none ∧ MapIs pV okP idV W cb (cmV S ++ [(p, .slice none 0 0)])) := by
    rcases hx.block cb hS.cmap.lt with e | ⟨_, h1, _, h3⟩ | ⟨_, _, cs, cs', e, h1, _⟩
    · exact .inl (hS.cmap'.of_eq e)
    · exact .inr ⟨h1, h3⟩
    · exact (map_cells hS.cmap h1).elim
  rcases hcase with hm | ⟨hno, hm⟩
  · obtain ⟨w', st, r1, r2, r3, r4, r5⟩ := hm.entry path_enc hp (t := 100) Try.underlying100 (z := .slice none 0 0) (z_sl W)
    rw [hval] at r1
    refine ⟨w', st, r1, r2, r3, ⟨r4.2.2.1, r4.2.2.2.1, r4.2.2.2.2, by rw [r4.1]; exact Nat.le_refl _, fun k hk => ?_⟩⟩
    by_cases hkc : k = cb
    · subst hkc
      cases hg : mget (cmV S) p with
      | none =>
        unfold ment at r2
        rw [hg] at r2
        exact .inr (.inl ⟨rfl, rfl, hm, r2⟩)
      | some v =>
        rw [r5 (by rw [hg]; rfl)]
        exact .inl rfl
    · exact .inl (r4.2.1 k hkc)
  · have hg : mget (cmV S ++ [(p, Value.slice none 0 0)]) p = some (.slice none 0 0) := by rw [mget_app_new hno, if_pos rfl]
    obtain ⟨w', st, r1, r2, r3, r4, r5⟩ := hm.entry path_enc hp (t := 100) Try.underlying100 (z := .slice none 0 0) (z_sl W)
    have hw : w' = W := r5 (by rw [hg]; rfl)
    have e1 : idV ((mget (cmV S ++ [(p, Value.slice none 0 0)]) p).getD (.slice none 0 0)) = cvL S p := by
      rw [hg, ← hval, hno]
      rfl
    rw [e1] at r1
    subst hw
    refine ⟨w', st, r1, ?_, r3, Fre.Ext.refl (X := GrowN cb (cmV S) p (cvL S p) F N) w'⟩
    unfold ment at r2 ⊢
    rw [hg] at r2
    rw [hno]
    exact r2
set_option maxHeartbeats 4000000 in
theorem name_any {B : Nat} {w : World} {s cb tb hb : Nat} {c : Cvs} {S : Sst} (h : Hsh) (hh : okH h) (p : Pth) (hp : okP p) (hn : (hereL S h).length ≤ 100000) (hcl : (clsL S p).length ≤ 100000) (hbd : 0 ≤ S.bad ∧ S.bad ≤ 100000) (hS : SAt B w s cb tb hb c S) :
    Calls Try.prog 92 #[.pointer (some ⟨s, 0, none⟩), .agg (mC h p).toArray] w fun e w' => e = .returned (.bool (!hasH (clsL S p) h)) ∧ ∃ S', SLeft B w s cb tb hb c S S' w' ∧ NameQ c.own S S' h p := by
  obtain ⟨w1, hw1⟩ : ∃ w1, w1 = w.alloc (.cells (mC h p).toArray 60) := ⟨_, rfl⟩
  have hb1 : Below w.heap.size w w1 := by rw [hw1]; exact (Below.refl _ w).alloc (Nat.le_refl _) _
  have hm1 : Blk w1 w.heap.size 60 (mC h p).toArray := by rw [hw1]; exact Blk.new _ _ _
  have H1 := hide (And.intro (hS.below hb1) (And.intro hm1 (turned_of_below (F := S.foot s cb tb hb) hb1)))
  have HS := hide hS
  clear hS hb1 hm1
  go_enter Try.func92, Try.ntmps92
  go_wp2_with fail
  rw [← hw1]
  clear hw1
  refine Fre.wp_made (X := Blw) 9 [] (by kernel_rfl) (by kernel_rfl) (by simp) (by simp) (by simp) ?_
  simp only [List.take_succ_cons, List.take_zero, List.drop_succ_cons, List.drop_zero]
  refine Fre.made_val (.pointer (some ⟨s, 0, none⟩)) (by kernel_rfl) (by kernel_rfl) (by kernel_rfl) (fun _ _ => by kernel_rfl) ?_
  simp only [Act.put, List.setIfInBounds_toArray, List.set_cons_zero, List.set_cons_succ]
  refine Fre.made_val (.pointer (some ⟨s, 0, none⟩)) (by kernel_rfl) (by kernel_rfl) (by kernel_rfl) (fun _ _ => by kernel_rfl) ?_
  simp only [Act.put, List.setIfInBounds_toArray, List.set_cons_zero, List.set_cons_succ]
  refine Fre.made_val (.pointer (some ⟨s, 24, none⟩)) (by kernel_rfl) (by kernel_rfl) (by kernel_rfl) (fun _ _ => by kernel_rfl) ?_
  simp only [Act.put, List.setIfInBounds_toArray, List.set_cons_zero, List.set_cons_succ]
  refine Fre.made_val (.map (some cb)) (by kernel_rfl) (by kernel_rfl) (by kernel_rfl) (fun W9 hW9 => exec_load_cell (o := ⟨some 8, _, _, _, _, _⟩) 100 (.tmp 7) rfl ⟨s, 24, none⟩ rfl _ _ W9 Try.underlying100 rfl ((H1.out.1.below (blw hW9)).cells.2.2.2.2.2.1)) ?_
  simp only [Act.put, List.setIfInBounds_toArray, List.set_cons_zero, List.set_cons_succ]
  refine Fre.made_val (.pointer (some ⟨w.heap.size, 20, none⟩)) (by kernel_rfl) (by kernel_rfl) (by kernel_rfl) (fun _ _ => by kernel_rfl) ?_
  simp only [Act.put, List.setIfInBounds_toArray, List.set_cons_zero, List.set_cons_succ]
  refine Fre.made_val (.agg (pC p).toArray) (by kernel_rfl) (by kernel_rfl) (by kernel_rfl) (fun W9 hW9 => exec_load_mid (o := ⟨some 10, _, _, _, _, _⟩) 53 (.tmp 9) rfl w.heap.size 20 rfl (pC p) _ W9 (made_p (H1.out.2.1.below (blw hW9) H1.out.2.1.lt) hh) Try.underlying53 rfl (by have := psz hp; simpa using this)) ?_
  simp only [Act.put, List.setIfInBounds_toArray, List.set_cons_zero, List.set_cons_succ]
  refine Fre.made_val (cvL S p) (by kernel_rfl) (by kernel_rfl) (by kernel_rfl) (fun W9 hW9 => exec_lookup (o := ⟨some 11, _, _, _, _, _⟩) 100 (.tmp 8) (.tmp 10) false rfl (.map (some cb)) (.agg (pC p).toArray) _ rfl rfl ((H1.out.1.below (blw hW9)).look_c hp)) ?_
  simp only [Act.put, List.setIfInBounds_toArray, List.set_cons_zero, List.set_cons_succ]
  refine Fre.made_val (.pointer (some ⟨w.heap.size, 0, none⟩)) (by kernel_rfl) (by kernel_rfl) (by kernel_rfl) (fun _ _ => by kernel_rfl) ?_
  simp only [Act.put, List.setIfInBounds_toArray, List.set_cons_zero, List.set_cons_succ]
  refine Fre.made_val (.agg (bv h).toArray) (by kernel_rfl) (by kernel_rfl) (by kernel_rfl) (fun W9 hW9 => exec_load_mid (o := ⟨some 13, _, _, _, _, _⟩) 23 (.tmp 12) rfl w.heap.size 0 rfl (bv h) _ W9 (made_h (H1.out.2.1.below (blw hW9) H1.out.2.1.lt)) Try.underlying23 rfl (by have := hsz hh; simpa using this)) ?_
  simp only [Act.put, List.setIfInBounds_toArray, List.set_cons_zero, List.set_cons_succ]
  show ∀ w', _ → _
  intro w2 hb2
  simp only [Fre.ended]
  have hb2 : Below w1.heap.size w1 w2 := hb2
  have H2 := hide (And.intro (H1.out.1.below hb2) (And.intro (H1.out.2.1.below hb2 H1.out.2.1.lt) (turned_below H1.out.2.2 hb2)))
  clear hb2
  go_wp2_with fail
  refine (containsH_any (clsL S p) (by omega) h hh (cvL S p) w2 (H2.out.1.row p).at_).mono ?_
  rintro e w3 ⟨rfl, hb3⟩
  have H3 := hide (And.intro (H2.out.1.below hb3) (And.intro (H2.out.2.1.below hb3 H2.out.2.1.lt) (turned_below H2.out.2.2 hb3)))
  clear hb3
  dsimp only
  cases hc : hasH (clsL S p) h with
  | true =>
    go_wp2_with fail
    go_ret
    exact ⟨by first | rfl | (rw [hc]; rfl), S, ⟨H3.out.1, H3.out.2.2, fun k hk => .inl hk⟩, .inl ⟨hc, rfl⟩⟩
  | false =>
    go_wp2_with fail
    have hcbs : cb < w3.heap.size := H3.out.1.cmap.lt
    have hv0 : ∀ k, (cvL S p).ownBlock = some k → k < w3.heap.size := fun k hk => by obtain ⟨cs, hb', _⟩ := ownH_blk (H3.out.1.row p) hk; exact hb'.lt
    have hscb : s ≠ cb := fun e => map_not_cells H3.out.1.cmap (by rw [← e]; exact H3.out.1.blk)
    have hsv : (cvL S p).ownBlock ≠ some s := fun e => by obtain ⟨cs, hb', _⟩ := ownH_blk (H3.out.1.row p) e; exact H3.out.1.blk.ne_ hb' (by decide) rfl
    have hmv : (cvL S p).ownBlock ≠ some w.heap.size := fun e => by obtain ⟨cs, hb', _⟩ := ownH_blk (H3.out.1.row p) e; exact H3.out.2.1.ne_ hb' (by decide) rfl
    have hmc : w.heap.size ≠ cb := fun e => map_not_cells H3.out.1.cmap (by rw [← e]; exact H3.out.2.1)
    have HX := hide (fun (W9 : World) (hx : GrowN cb (cmV S) p (cvL S p) (hashCells (clsL S p ++ [h])) ((clsL S p).length * 20) w3 W9) => (⟨(GrowN.other hx H3.out.1.blk.lt hscb hsv).trans H3.out.1.blk, (GrowN.other hx H3.out.2.1.lt hmc hmv).trans H3.out.2.1⟩ : Blk W9 s 104 (srchCells c cb tb hb S).toArray ∧ Blk W9 w.heap.size 60 (mC h p).toArray))
    have HO := hide (And.intro hcbs hv0)
    have hlow : B ≤ w3.heap.size := by have := H3.out.1.low.1; have := H3.out.1.blk.lt; omega
    clear hcbs hv0 hscb hsv hmv hmc
    refine Fre.wp_made (X := (GrowN cb (cmV S) p (cvL S p) (hashCells (clsL S p ++ [h])) ((clsL S p).length * 20))) 13 [(25, EntT cb (cmV S) p (cvL S p)), (26, GrewH B w3.heap.size (cvL S p) (clsL S p ++ [h])), (27, EntS cb (cmV S) p), (24, OneH w3.heap.size h)] (by kernel_rfl) (by kernel_rfl) (by simp only [List.forall_mem_cons]; exact ⟨entT_ok, grewH_ok rfl, entS_ok, oneH_ok HO.out.1 HO.out.2, fun p hp => by cases hp⟩) (by simp) (by simp) ?_
    simp only [List.take_succ_cons, List.take_zero, List.drop_succ_cons, List.drop_zero]
    refine Fre.made_val (.pointer (some ⟨s, 0, none⟩)) (by kernel_rfl) (by kernel_rfl) (by kernel_rfl) (fun _ _ => by kernel_rfl) ?_
    simp only [Act.put, List.setIfInBounds_toArray, List.set_cons_zero, List.set_cons_succ]
    refine Fre.made_val (.pointer (some ⟨s, 0, none⟩)) (by kernel_rfl) (by kernel_rfl) (by kernel_rfl) (fun _ _ => by kernel_rfl) ?_
    simp only [Act.put, List.setIfInBounds_toArray, List.set_cons_zero, List.set_cons_succ]
    refine Fre.made_val (.pointer (some ⟨s, 24, none⟩)) (by kernel_rfl) (by kernel_rfl) (by kernel_rfl) (fun _ _ => by kernel_rfl) ?_
    simp only [Act.put, List.setIfInBounds_toArray, List.set_cons_zero, List.set_cons_succ]
    refine Fre.made_val (.map (some cb)) (by kernel_rfl) (by kernel_rfl) (by kernel_rfl) (fun W9 hW9 => exec_load_cell (o := ⟨some 18, _, _, _, _, _⟩) 100 (.tmp 17) rfl ⟨s, 24, none⟩ rfl _ _ W9 Try.underlying100 rfl (srch24 H3.out.1.own (HX.out W9 hW9).1)) ?_
    simp only [Act.put, List.setIfInBounds_toArray, List.set_cons_zero, List.set_cons_succ]
    refine Fre.made_val (.pointer (some ⟨w.heap.size, 20, none⟩)) (by kernel_rfl) (by kernel_rfl) (by kernel_rfl) (fun _ _ => by kernel_rfl) ?_
    simp only [Act.put, List.setIfInBounds_toArray, List.set_cons_zero, List.set_cons_succ]
    refine Fre.made_val (.agg (pC p).toArray) (by kernel_rfl) (by kernel_rfl) (by kernel_rfl) (fun W9 hW9 => exec_load_mid (o := ⟨some 20, _, _, _, _, _⟩) 53 (.tmp 19) rfl w.heap.size 20 rfl (pC p) _ W9 (made_p (HX.out W9 hW9).2 hh) Try.underlying53 rfl (by have := psz hp; simpa using this)) ?_
    simp only [Act.put, List.setIfInBounds_toArray, List.set_cons_zero, List.set_cons_succ]
    refine Fre.made_val (.pointer (some ⟨w.heap.size, 0, none⟩)) (by kernel_rfl) (by kernel_rfl) (by kernel_rfl) (fun _ _ => by kernel_rfl) ?_
    simp only [Act.put, List.setIfInBounds_toArray, List.set_cons_zero, List.set_cons_succ]
    refine Fre.made_val (.agg (bv h).toArray) (by kernel_rfl) (by kernel_rfl) (by kernel_rfl) (fun W9 hW9 => exec_load_mid (o := ⟨some 23, _, _, _, _, _⟩) 23 (.tmp 22) rfl w.heap.size 0 rfl (bv h) _ W9 (made_h (HX.out W9 hW9).2) Try.underlying23 rfl (by have := hsz hh; simpa using this)) ?_
    simp only [Act.put, List.setIfInBounds_toArray, List.set_cons_zero, List.set_cons_succ]
    refine Fre.made_new 24 _ (by kernel_rfl) (by kernel_rfl) rfl rfl (fun W9 hW9 => ⟨.slice (some ⟨W9.heap.size, 0, none⟩) 1 1, W9.alloc (.cells (bv h).toArray 23), exec_buildSliceP (o := ⟨some 24, _, _, _, _, _⟩) (v := .agg (bv h).toArray) 25 (.tmp 23) rfl rfl Try.underlying25 sz_hash (by omega) (by omega) (z := .agg (bv (List.replicate 20 0)).toArray) (fun w => by kernel_rfl) (by simp [Value.cells, bvL]; exact hh) W9, GrowN.of_below ((Below.refl _ W9).alloc (Nat.le_refl _) _), W9.heap.size, rfl, GrowN.size hW9, Blk.new _ _ _⟩) ?_
    simp only [Act.put, List.setIfInBounds_toArray, List.set_cons_zero, List.set_cons_succ]
    refine Fre.made_new 25 _ (by kernel_rfl) (by kernel_rfl) rfl rfl (fun W9 hW9 => ?hent) ?_
    case hent =>
      have hx9 : GrowN cb (cmV S) p (cvL S p) (hashCells (clsL S p ++ [h])) ((clsL S p).length * 20) w3 W9 := hW9
      obtain ⟨w', st, r1, r2, r3, r4⟩ := ent_step H3.out.1 hp hx9
      exact ⟨_, w', exec_mapEntry (o := ⟨some 25, _, _, _, _, _⟩) 100 (.tmp 18) (.tmp 20) rfl _ _ _ rfl rfl r1, r4, st, rfl, r2, r3⟩
    simp only [Act.put, List.setIfInBounds_toArray, List.set_cons_zero, List.set_cons_succ]
    refine Fre.made_val1 25 _ (cvL S p) (by kernel_rfl) rfl (by kernel_rfl) (by kernel_rfl) (fun u W9 hW9 hu => by obtain ⟨st, rfl, _⟩ := hu; kernel_rfl) ?_
    simp only [Act.put, List.setIfInBounds_toArray, List.set_cons_zero, List.set_cons_succ]
    refine Fre.made_new1 24 _ 26 _ (by kernel_rfl) rfl (by kernel_rfl) rfl rfl (fun u W9 hW9 hu => ?happ) ?_
    case happ =>
      have hx9 : GrowN cb (cmV S) p (cvL S p) (hashCells (clsL S p ++ [h])) ((clsL S p).length * 20) w3 W9 := hW9
      obtain ⟨r, rfl, hr1, hr2⟩ := hu
      obtain ⟨v', w', r1, r2, r3⟩ := app_hash (H3.out.1.row p) hh hcl hlow hx9 hr2
      exact ⟨v', w', exec_append (o := ⟨some 26, _, _, _, _, _⟩) (.tmp 21) (.tmp 24) 25 rfl _ _ _ _ _ rfl rfl r1, r2, r3⟩
    simp only [Act.put, List.setIfInBounds_toArray, List.set_cons_zero, List.set_cons_succ]
    refine Fre.made_new1 25 _ 27 _ (by kernel_rfl) rfl (by kernel_rfl) rfl rfl (fun u W9 hW9 hu => by obtain ⟨st, rfl, h1, h2⟩ := hu; exact ⟨.int .i64 (st : Nat), W9, by kernel_rfl, Fre.Ext.refl W9, st, rfl, h1, h2⟩) ?_
    simp only [Act.put, List.setIfInBounds_toArray, List.set_cons_zero, List.set_cons_succ]
    show ∀ w', _ → _
    intro w4 hx4
    simp only [Fre.ended]
    have hx4 : GrowN cb (cmV S) p (cvL S p) (hashCells (clsL S p ++ [h])) ((clsL S p).length * 20) w3 w4 := hx4
    intro u25 _ u26 hu26
    rintro u27 ⟨st, rfl, hm4, hst4⟩
    intro u24 _
    simp only [Act.put, List.setIfInBounds_toArray, List.set_cons_zero, List.set_cons_succ]
    obtain ⟨w5, r5, hl5⟩ := H3.out.1.added hp hx4 hm4 hst4 hu26
    refine wpList_entryStore (o := ⟨none, _, _, _, _, _⟩) rfl 100 (.tmp 18) (.tmp 27) (.tmp 26) rfl _ _ _ rfl rfl rfl r5 ?_
    have hbm5 : Blk w5 w.heap.size 60 (mC h p).toArray := (hl5.2.1.block _ H3.out.2.1.lt (fun hf => by have := (HS.out.foot_lt hf).1; omega)).trans H3.out.2.1
    obtain ⟨S1, hS1⟩ : ∃ S1, S1 = S.add p (clsL S p ++ [h]) u26 := ⟨_, rfl⟩
    rw [← hS1] at hl5
    have H5 := hide (And.intro hl5.1 (And.intro hbm5 (And.intro (Turned.then_ H3.out.2.2 hl5.2.1 (fun k _ hf => hf)) (fun k hf => (hl5.2.2 k hf).imp id (fun h1 => Nat.le_trans H3.out.2.2.size h1) : ∀ k, S1.foot s cb tb hb k → S.foot s cb tb hb k ∨ w.heap.size ≤ k))))
    have ht1 : tmN S1 p = tmN S p := by rw [hS1]; rfl
    have hh1 : hereL S1 h = hereL S h := by rw [hS1]; rfl
    have hb1 : S1.bad = S.bad := by rw [hS1]; rfl
    have HS1 := hide (And.intro hS1 (And.intro ht1 (And.intro hh1 hb1)))
    clear hS1 ht1 hh1 hb1 hl5 hbm5 hm4 hst4 hx4 hu26 r5
    go_wp2_with fail
    refine Fre.wp_made (X := Blw) 7 [] (by kernel_rfl) (by kernel_rfl) (by simp) (by simp) (by simp) ?_
    simp only [List.take_succ_cons, List.take_zero, List.drop_succ_cons, List.drop_zero]
    refine Fre.made_val (.pointer (some ⟨s, 0, none⟩)) (by kernel_rfl) (by kernel_rfl) (by kernel_rfl) (fun _ _ => by kernel_rfl) ?_
    simp only [Act.put, List.setIfInBounds_toArray, List.set_cons_zero, List.set_cons_succ]
    refine Fre.made_val (.pointer (some ⟨s, 0, none⟩)) (by kernel_rfl) (by kernel_rfl) (by kernel_rfl) (fun _ _ => by kernel_rfl) ?_
    simp only [Act.put, List.setIfInBounds_toArray, List.set_cons_zero, List.set_cons_succ]
    refine Fre.made_val (.pointer (some ⟨s, 25, none⟩)) (by kernel_rfl) (by kernel_rfl) (by kernel_rfl) (fun _ _ => by kernel_rfl) ?_
    simp only [Act.put, List.setIfInBounds_toArray, List.set_cons_zero, List.set_cons_succ]
    refine Fre.made_val (.map (some tb)) (by kernel_rfl) (by kernel_rfl) (by kernel_rfl) (fun W9 hW9 => exec_load_cell (o := ⟨some 31, _, _, _, _, _⟩) 101 (.tmp 30) rfl ⟨s, 25, none⟩ rfl _ _ W9 Try.underlying101 rfl ((H5.out.1.below (blw hW9)).cells.2.2.2.2.2.2.1)) ?_
    simp only [Act.put, List.setIfInBounds_toArray, List.set_cons_zero, List.set_cons_succ]
    refine Fre.made_val (.pointer (some ⟨w.heap.size, 20, none⟩)) (by kernel_rfl) (by kernel_rfl) (by kernel_rfl) (fun _ _ => by kernel_rfl) ?_
    simp only [Act.put, List.setIfInBounds_toArray, List.set_cons_zero, List.set_cons_succ]
    refine Fre.made_val (.agg (pC p).toArray) (by kernel_rfl) (by kernel_rfl) (by kernel_rfl) (fun W9 hW9 => exec_load_mid (o := ⟨some 33, _, _, _, _, _⟩) 53 (.tmp 32) rfl w.heap.size 20 rfl (pC p) _ W9 (made_p (H5.out.2.1.below (blw hW9) H5.out.2.1.lt) hh) Try.underlying53 rfl (by have := psz hp; simpa using this)) ?_
    simp only [Act.put, List.setIfInBounds_toArray, List.set_cons_zero, List.set_cons_succ]
    refine Fre.made_val (.int .i64 (tmN S p)) (by kernel_rfl) (by kernel_rfl) (by kernel_rfl) (fun W9 hW9 => exec_lookup (o := ⟨some 34, _, _, _, _, _⟩) 101 (.tmp 31) (.tmp 33) false rfl (.map (some tb)) (.agg (pC p).toArray) _ rfl rfl (by have := (H5.out.1.below (blw hW9)).look_t hp; rw [HS1.out.2.1] at this; exact this)) ?_
    simp only [Act.put, List.setIfInBounds_toArray, List.set_cons_zero, List.set_cons_succ]
    show ∀ w', _ → _
    intro w6 hb6
    simp only [Fre.ended]
    have hb6 : Below w5.heap.size w5 w6 := hb6
    have H6 := hide (And.intro (H5.out.1.below hb6) (And.intro (H5.out.2.1.below hb6 H5.out.2.1.lt) (And.intro (turned_below H5.out.2.2.1 hb6) H5.out.2.2.2)))
    clear hb6
    by_cases htm : 0 < tmN S p
    · have hmh := made_h H6.out.2.1
      have hmp := made_p H6.out.2.1 hh
      go_wp2_with (first | (refine wpList_value (o := ⟨some 38, _, _, _, _, _⟩) rfl (.agg (bv h).toArray) w6 (exec_load_mid (o := ⟨some 38, _, _, _, _, _⟩) 23 (.tmp 37) rfl w.heap.size 0 rfl (bv h) _ w6 (hmh) Try.underlying23 rfl (by have := hsz hh; simpa using this)) ?_) | (refine wpList_value (o := ⟨some 40, _, _, _, _, _⟩) rfl (.agg (pC p).toArray) w6 (exec_load_mid (o := ⟨some 40, _, _, _, _, _⟩) 53 (.tmp 39) rfl w.heap.size 20 rfl (pC p) _ w6 (hmp) Try.underlying53 rfl (by have := psz hp; simpa using this)) ?_))
      refine (turn_any h hh p hp true (by rw [HS1.out.2.2.1]; exact hn) (by rw [HS1.out.2.2.2]; exact hbd) H6.out.1).mono ?_
      rintro e w7 ⟨rfl, S', hl7, hq7⟩
      have H7 := hide (And.intro hl7 hq7)
      clear hl7 hq7 hmh hmp
      dsimp only
      go_wp2_with fail
      go_ret
      refine ⟨by first | rfl | (rw [hc]; rfl), S', SLeft.trans ⟨H6.out.1, H6.out.2.2.1, H6.out.2.2.2⟩ H7.out.1, .inr ⟨hc, u26, .inl ⟨htm, ?_⟩⟩⟩
      rw [← HS1.out.1]
      exact H7.out.2
    · go_wp2_with fail
      go_ret
      exact ⟨by first | rfl | (rw [hc]; rfl), S1, ⟨H6.out.1, H6.out.2.2.1, H6.out.2.2.2⟩, .inr ⟨hc, u26, .inr ⟨by omega, HS1.out.1⟩⟩⟩
end Go.Proofs.Ytfppddnfdinipaa
