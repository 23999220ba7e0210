/- package pick: choose. -/
import Derived.Test.YtfppddnfdinipaaPickI
import Derived.Test.YtfppddnfdinipaaBuild2
namespace Go.Proofs.Ytfppddnfdinipaa
open Go Go.RowKit Go.Maps
set_option maxRecDepth 100000
/-- a row of paths, read by value, lies outside of what lies above -/
theorem pths_of {w : World} {B : Nat} {v : Value} {ps : List Pth} {F : Nat → Prop} (h : pathsLay.At w B [v] ps) (hB : B ≤ w.heap.size) (hF : ∀ k, F k → B ≤ k) : PthsAt w F v ps := by
  obtain ⟨A, cap, e, _, _, _, hA⟩ := slice_open h
  refine ⟨A, cap, e, fun hl => ?_⟩
  obtain ⟨b, off, e2, hb, hE⟩ := hA hl
  refine ⟨b, off, e2, by omega, fun hf => by have := hF b hf; omega, fun j p hp => ?_⟩
  obtain ⟨cs, hr, hat⟩ := hE j p hp
  obtain ⟨rfl, hok⟩ := pathLay_at.1 hat
  exact ⟨hr, hok⟩
/-- one path in a block of its own -/
theorem pths_one {w : World} {b : Nat} {p : Pth} {F : Nat → Prop} (hb : Blk w b 53 (pC p).toArray) (hp : okP p) (hF : ¬ F b) : PthsAt w F (.slice (some ⟨b, 0, none⟩) 1 1) [p] := by
  refine ⟨_, 1, rfl, fun _ => ⟨b, 0, rfl, hb.lt, hF, fun j q hq => ?_⟩⟩
  cases j with
  | zero =>
    simp only [List.getElem?_cons_zero, Option.some.injEq] at hq
    subst hq
    exact ⟨rangeAt_blk hb, hp⟩
  | succ j => simp at hq
theorem SAt.foot_low {B : Nat} {w : World} {s cb tb hb : Nat} {c : Cvs} {S : Sst} (h : SAt B w s cb tb hb c S) : ∀ k, S.foot s cb tb hb k → B ≤ k := fun _ hk => (h.foot_lt hk).2
theorem SLeft.alike {B : Nat} {w w' : World} {s cb tb hb : Nat} {c : Cvs} {S S' : Sst} (h0 : SAt B w s cb tb hb c S) (h : SLeft B w s cb tb hb c S S' w') : Alike B w w' := fun k hk => h.2.1.block k (by have := h0.blk.lt; have := h0.low.1; omega) fun hf => by have := (h0.foot_lt hf).2; omega
def OneBox (N0 : Nat) (t : TypeId) (zc : Array Value) (u : Value) (w : World) : Prop := ∃ r, u = .pointer (some ⟨r, 0, none⟩) ∧ N0 ≤ r ∧ Blk w r t zc
theorem oneBox_ok {N0 : Nat} {t : TypeId} {zc : Array Value} : Fre.MadeOk Blw (OneBox N0 t zc) := ⟨fun _ _ _ ⟨r, h1, h2, h3⟩ hx => ⟨r, h1, h2, h3.below (blw hx) h3.lt⟩⟩
def zcM : Array Value := (bv (List.replicate 20 0) ++ (bv (List.replicate 20 0) ++ [Value.string ByteArray.empty])).toArray
abbrev oC (p : Pth) (v : Value) : List Value := pC p ++ [v]
theorem opt_p {w : World} {g : Nat} {p : Pth} {v : Value} (hb : Blk w g 55 (oC p v).toArray) : w.rangeAt g 0 (pC p) := by
  have := rangeAt_blk hb
  exact rangeAt_left (c2 := [v]) (by simpa using this)
theorem opt_v {w : World} {g : Nat} {p : Pth} {v : Value} (hb : Blk w g 55 (oC p v).toArray) (hp : okP p) : w.cell? ⟨g, 21, none⟩ = some v := by
  rw [hb.cell]
  simp [pC_len hp]
theorem sz_made : (Try.prog.info? 60).map (·.size) = some 41 := by kernel_rfl
/-- how often paths are there behind a choice -/
def cntC (cnt : Pth → Nat) (p : Pth) (cl : List Pth) : Pth → Nat := cntK true (cntK true cnt [p] 1) cl cl.length
/-- what a choice holds, outside of the search -/
structure HoldB (w : World) (F : Nat → Prop) (s b3 b7 b5 : Nat) (h : Hsh) (p : Pth) (v : Value) : Prop where
  k3 : Blk w b3 98 #[.pointer (some ⟨s, 0, none⟩)]
  k7 : Blk w b7 60 (mC h p).toArray
  k5 : Blk w b5 55 (oC p v).toArray
  f3 : ¬ F b3
  f7 : ¬ F b7
  f5 : ¬ F b5
theorem HoldB.below {w w' : World} {F : Nat → Prop} {s b3 b7 b5 : Nat} {h : Hsh} {p : Pth} {v : Value} (hh : HoldB w F s b3 b7 b5 h p v) (hb : Below w.heap.size w w') : HoldB w' F s b3 b7 b5 h p v :=
  ⟨hh.k3.below hb hh.k3.lt, hh.k7.below hb hh.k7.lt, hh.k5.below hb hh.k5.lt, hh.f3, hh.f7, hh.f5⟩
theorem SLeft.not {B : Nat} {w w' : World} {s cb tb hb : Nat} {c : Cvs} {S S' : Sst} (hl : SLeft B w s cb tb hb c S S' w') {k : Nat} (hk : k < w.heap.size) (hf : ¬ S.foot s cb tb hb k) : ¬ S'.foot s cb tb hb k := fun h => (hl.2.2 k h).elim hf fun h1 => by omega
theorem HoldB.left {B : Nat} {w w' : World} {s cb tb hb : Nat} {c : Cvs} {S S' : Sst} {b3 b7 b5 : Nat} {h : Hsh} {p : Pth} {v : Value} (hh : HoldB w (S.foot s cb tb hb) s b3 b7 b5 h p v) (hl : SLeft B w s cb tb hb c S S' w') : HoldB w' (S'.foot s cb tb hb) s b3 b7 b5 h p v :=
  ⟨(hl.2.1.block _ hh.k3.lt hh.f3).trans hh.k3, (hl.2.1.block _ hh.k7.lt hh.f7).trans hh.k7, (hl.2.1.block _ hh.k5.lt hh.f5).trans hh.k5, hl.not hh.k3.lt hh.f3, hl.not hh.k7.lt hh.f7, hl.not hh.k5.lt hh.f5⟩
/-- what a choice leaves for its undoing -/
structure UndoAt (w : World) (F : Nat → Prop) (s b8 b3 b7 b5 : Nat) (named : Bool) (h : Hsh) (p : Pth) (v : Value) : Prop where
  hold : HoldB w F s b3 b7 b5 h p v
  k8 : Blk w b8 4 #[.bool named]
  f8 : ¬ F b8
theorem UndoAt.left {B : Nat} {w w' : World} {s cb tb hb : Nat} {c : Cvs} {S S' : Sst} {b8 b3 b7 b5 : Nat} {named : Bool} {h : Hsh} {p : Pth} {v : Value} (hh : UndoAt w (S.foot s cb tb hb) s b8 b3 b7 b5 named h p v) (hl : SLeft B w s cb tb hb c S S' w') : UndoAt w' (S'.foot s cb tb hb) s b8 b3 b7 b5 named h p v :=
  ⟨hh.hold.left hl, (hl.2.1.block _ hh.k8.lt hh.f8).trans hh.k8, hl.not hh.k8.lt hh.f8⟩
theorem NameQ.fix {own : Hsh} {S S' : Sst} {h : Hsh} {p : Pth} (hq : NameQ own S S' h p) : S'.steps = S.steps ∧ S'.fuel = S.fuel := by
  rcases hq with ⟨_, rfl⟩ | ⟨_, u, ⟨_, hq⟩ | ⟨_, rfl⟩⟩
  · exact ⟨rfl, rfl⟩
  · exact ⟨hq.steps, hq.fuel⟩
  · exact ⟨rfl, rfl⟩
theorem UnnameQ.fix {own : Hsh} {S S' : Sst} {h : Hsh} {p : Pth} (hq : UnnameQ own S S' h p) : S'.steps = S.steps ∧ S'.fuel = S.fuel := by
  obtain ⟨S1, u, ⟨_, hq⟩ | ⟨_, rfl⟩, rfl⟩ := hq
  · exact ⟨hq.steps, hq.fuel⟩
  · exact ⟨rfl, rfl⟩
set_option maxHeartbeats 4000000 in
theorem choose_any {B : Nat} {w : World} {s cb tb hb : Nat} {c : Cvs} {S : Sst} {U : List Hsh} {V : List Pth} {cnt : Pth → Nat} {M : Pth → List Hsh} (hU : U.length ≤ 100000 ∧ ∀ h ∈ U, okH h) (hV : V.length ≤ 100000) (cls : List Hsh) (hcls9 : cls.length ≤ 1000000) (hcls : hashesLay.At w B [c.classes] cls)
    (r : Nat) (h : Hsh) (hr : cls[r]? = some h) (hhU : h ∈ U) (p : Pth) (hp : okP p) (hpV : p ∈ V) (cl : List Pth) (hcl : cl.length ≤ 400000) (hclV : ∀ q ∈ cl, q ∈ V) (v : Value) (hv : pathsLay.At w B [v] cl) (hc : ∀ q, cnt q ≤ 400000) (hS : SAt B w s cb tb hb c S) (hI : InvP c.own U V S cnt M (there cnt M)) :
    Calls Try.prog 57 #[.pointer (some ⟨s, 0, none⟩), .int .i64 (r : Int), .agg (oC p v).toArray] w fun e w' => ∃ b8 b3 b7 b5 S', e = .returned (.func (.func 118) #[] #[.pointer (some ⟨b8, 0, none⟩), .pointer (some ⟨b3, 0, none⟩), .pointer (some ⟨b7, 0, none⟩), .pointer (some ⟨b5, 0, none⟩)]) ∧ SLeft B w s cb tb hb c S S' w' ∧ InvP c.own U V S' (cntC cnt p cl) (nameM M p h) (there (cntC cnt p cl) (nameM M p h)) ∧ (S'.steps = S.steps ∧ S'.fuel = S.fuel) ∧ UndoAt w' (S'.foot s cb tb hb) s b8 b3 b7 b5 (!hasH (M p) h) h p v := by
  have hBw : B ≤ w.heap.size := by have := hS.blk.lt; have := hS.low.1; omega
  obtain ⟨w2, hw2⟩ : ∃ w2, w2 = (w.alloc (.cells #[.pointer (some ⟨s, 0, none⟩)] 98)).alloc (.cells (oC p v).toArray 55) := ⟨_, rfl⟩
  have hb2 : Below w.heap.size w w2 := by rw [hw2]; exact ((Below.refl _ w).alloc (Nat.le_refl _) _).alloc (by rw [size_alloc]; omega) _
  have hk3 : Blk w2 w.heap.size 98 #[.pointer (some ⟨s, 0, none⟩)] := by rw [hw2]; exact (Blk.new w _ _).alloc _
  have hk5 : Blk w2 (w.heap.size + 1) 55 (oC p v).toArray := by rw [hw2]; exact Blk.new1 _ _ _ _
  obtain ⟨Ac, capc, hcc, _, _, _, hAc⟩ := slice_open hcls
  have hrl : r < cls.length := (List.getElem?_eq_some_iff.1 hr).1
  obtain ⟨bc, offc, hAe, hlc, hEc⟩ := hAc (by omega)
  obtain ⟨cs, hrc, hat⟩ := hEc r h hr
  obtain ⟨rfl, hh⟩ := hashLay_at.1 hat
  have hcc2 : c.classes = .slice (some ⟨bc, offc, none⟩) cls.length capc := by rw [hcc, hAe]
  have hrc2 : w2.rangeAt bc (offc + r * 20) (bv h) := rangeAt_same hrc (hb2.block bc (by omega))
  have HC := hide (And.intro hcc2 (And.intro hrc2 (show bc < w2.heap.size by have := hb2.size; omega)))
  have HV := hide hv
  have H2 := hide (And.intro (hS.below hb2) (And.intro hk3 (And.intro hk5 hb2)))
  have H0 := hide (And.intro hS hI)
  have HBW := hide hBw
  clear hcls hcc hcc2 hAc hAe hEc hrc hrc2 hat hv hS hI hk3 hk5 hb2 hBw
  have r0 : (0 : Int) ≤ (r : Int) := by omega
  have r1 : (r : Int) < (cls.length : Int) := by omega
  have c9 : (cls.length : Int) ≤ 1000000 := by omega
  go_enter Try.func57, Try.ntmps57
  go_wp2_with fail
  rw [← hw2]
  clear hw2
  refine Fre.wp_made (X := Blw) 12 [(7, OneBox w2.heap.size 60 zcM)] (by kernel_rfl) (by kernel_rfl) (by simp only [List.forall_mem_cons]; exact ⟨oneBox_ok, fun p hp => by cases hp⟩) (by simp) (by simp) ?_
  simp only [List.take_succ_cons, List.take_zero, List.drop_succ_cons, List.drop_zero]
  refine Fre.made_val (.pointer (some ⟨s, 0, none⟩)) (by kernel_rfl) (by kernel_rfl) (by kernel_rfl) (fun W9 hW9 => exec_load_cell (o := ⟨some 9, _, _, _, _, _⟩) 98 (.tmp 3) rfl ⟨w.heap.size, 0, none⟩ rfl _ _ W9 Try.underlying98 rfl (by have h9 := H2.out.2.1.below (blw hW9) H2.out.2.1.lt; rw [h9.cell]; rfl)) ?_
  simp only [Act.put, List.setIfInBounds_toArray, List.set_cons_zero, List.set_cons_succ]
  refine Fre.made_val (.pointer (some ⟨s, 0, none⟩)) (by kernel_rfl) (by kernel_rfl) (by kernel_rfl) (fun _ _ => by kernel_rfl) ?_
  simp only [Act.put, List.setIfInBounds_toArray, List.set_cons_zero, List.set_cons_succ]
  refine Fre.made_val (.pointer (some ⟨s, 0, none⟩)) (by kernel_rfl) (by kernel_rfl) (by kernel_rfl) (fun _ _ => by kernel_rfl) ?_
  simp only [Act.put, List.setIfInBounds_toArray, List.set_cons_zero, List.set_cons_succ]
  refine Fre.made_val (.pointer (some ⟨s, 21, none⟩)) (by kernel_rfl) (by kernel_rfl) (by kernel_rfl) (fun _ _ => by kernel_rfl) ?_
  simp only [Act.put, List.setIfInBounds_toArray, List.set_cons_zero, List.set_cons_succ]
  refine Fre.made_val (.slice (some ⟨bc, offc, none⟩) cls.length capc) (by kernel_rfl) (by kernel_rfl) (by kernel_rfl) (fun W9 hW9 => exec_load_cell (o := ⟨some 13, _, _, _, _, _⟩) 25 (.tmp 12) rfl ⟨s, 21, none⟩ rfl _ _ W9 Try.underlying25 rfl (by have := (H2.out.1.below (blw hW9)).cells.2.2.1; rw [HC.out.1] at this; exact this)) ?_
  simp only [Act.put, List.setIfInBounds_toArray, List.set_cons_zero, List.set_cons_succ]
  refine Fre.made_val (.int .i64 (r : Int)) (by kernel_rfl) (by kernel_rfl) (by kernel_rfl) (fun _ _ => by kernel_rfl) ?_
  simp only [Act.put, List.setIfInBounds_toArray, List.set_cons_zero, List.set_cons_succ]
  refine Fre.made_val (.pointer (some ⟨bc, offc + (r : Int).toNat * 20, none⟩)) (by kernel_rfl) (by kernel_rfl) (by kernel_rfl) (fun W9 _ => exec_index_off (o := ⟨some 15, _, _, _, _, _⟩) 25 23 (.tmp 13) (.tmp 14) rfl bc offc cls.length capc (r : Int) .i64 rfl rfl ⟨r0, r1⟩ 20 Try.underlying25 sz_hash W9) ?_
  simp only [Act.put, List.setIfInBounds_toArray, List.set_cons_zero, List.set_cons_succ]
  rw [show offc + (r : Int).toNat * 20 = offc + r * 20 by omega]
  refine Fre.made_val (.agg (bv h).toArray) (by kernel_rfl) (by kernel_rfl) (by kernel_rfl) (fun W9 hW9 => exec_load_mid (o := ⟨some 16, _, _, _, _, _⟩) 23 (.tmp 15) rfl bc (offc + r * 20) rfl (bv h) _ W9 (rangeAt_same HC.out.2.1 ((blw hW9).block bc HC.out.2.2)) Try.underlying23 rfl (by have := hsz hh; simpa using this)) ?_
  simp only [Act.put, List.setIfInBounds_toArray, List.set_cons_zero, List.set_cons_succ]
  refine Fre.made_val (.pointer (some ⟨w.heap.size + 1, 0, none⟩)) (by kernel_rfl) (by kernel_rfl) (by kernel_rfl) (fun _ _ => by kernel_rfl) ?_
  simp only [Act.put, List.setIfInBounds_toArray, List.set_cons_zero, List.set_cons_succ]
  refine Fre.made_val (.agg (pC p).toArray) (by kernel_rfl) (by kernel_rfl) (by kernel_rfl) (fun W9 hW9 => exec_load_mid (o := ⟨some 18, _, _, _, _, _⟩) 53 (.tmp 17) rfl (w.heap.size + 1) 0 rfl (pC p) _ W9 (opt_p (H2.out.2.2.1.below (blw hW9) H2.out.2.2.1.lt)) Try.underlying53 rfl (by have := psz hp; simpa using this)) ?_
  simp only [Act.put, List.setIfInBounds_toArray, List.set_cons_zero, List.set_cons_succ]
  refine Fre.made_val (.agg (mC h p).toArray) (by kernel_rfl) (by kernel_rfl) (by kernel_rfl) (fun W9 hW9 => ?hbuild) ?_
  case hbuild =>
    have e9 : (Value.agg (bv h).toArray).cells ++ (Value.agg (pC p).toArray).cells = (mC h p).toArray := by simp [Value.cells]
    refine Eq.trans (exec_build2 (o := ⟨some 19, _, _, _, _, _⟩) 60 (.tmp 16) (.tmp 18) rfl (n1 := 20) (n2 := 21) (z := .agg zcM) (v1 := .agg (bv h).toArray) (v2 := .agg (pC p).toArray) rfl rfl Try.underlying60 (fun w => by kernel_rfl) (by kernel_rfl) (fun w => by kernel_rfl) (by simp [Value.cells, bvL]; exact hh) (by simp [Value.cells, pC_len hp]) W9) ?_
    rw [e9]
  simp only [Act.put, List.setIfInBounds_toArray, List.set_cons_zero, List.set_cons_succ]
  refine Fre.made_new 7 _ (by kernel_rfl) (by kernel_rfl) rfl rfl (fun W9 hW9 => ⟨.pointer (some ⟨W9.heap.size, 0, none⟩), W9.alloc (.cells zcM 60), by kernel_rfl, (Below.refl _ W9).alloc (Nat.le_refl _) _, W9.heap.size, rfl, (blw hW9).size, Blk.new _ _ _⟩) ?_
  simp only [Act.put, List.setIfInBounds_toArray, List.set_cons_zero, List.set_cons_succ]
  show ∀ w', _ → _
  intro w3 hb3
  simp only [Fre.ended]
  have hb3 : Below w2.heap.size w2 w3 := hb3
  rintro u7 ⟨b7, rfl, h7a, h7b⟩
  simp only [Act.put, List.setIfInBounds_toArray, List.set_cons_zero, List.set_cons_succ]
  refine wpList_store_blkA (o := ⟨none, _, _, _, _, _⟩) rfl 60 (.tmp 7) (.tmp 19) rfl b7 zcM (mC h p).toArray 60 h7b ?_ ?_ ?_ rfl rfl ?_
  · rw [sz_made, List.size_toArray, List.length_append, bvL, pC_len hp, show h.length = 20 from hh]
  · rw [show (mC h p).toArray.size = 41 by rw [List.size_toArray, List.length_append, bvL, pC_len hp, show h.length = 20 from hh]]; kernel_rfl
  · exact all_oneCell_toArray (fun u hu => (List.mem_append.1 hu).elim (bv1 h u) (pC_one p u))
  intro w4 hm4 hg4
  have hb4 : Below w2.heap.size w2 w4 := hb3.grown hg4 hb3.size (fun k hk => by injection hk with hk; omega)
  have hho : HoldB w4 (S.foot s cb tb hb) s w.heap.size b7 (w.heap.size + 1) h p v := ⟨H2.out.2.1.below hb4 H2.out.2.1.lt, hm4, H2.out.2.2.1.below hb4 H2.out.2.2.1.lt, fun hf => by have := (H0.out.1.foot_lt hf).1; omega, fun hf => by have := (H0.out.1.foot_lt hf).1; have := H2.out.2.2.2.size; omega, fun hf => by have := (H0.out.1.foot_lt hf).1; omega⟩
  have hb04 := H2.out.2.2.2.trans (Below.mono hb4 H2.out.2.2.2.size)
  have H4 := hide (And.intro hho hb04)
  clear hb3 h7a h7b hm4 hg4 hb4 hho hb04
  obtain ⟨w5, hw5⟩ : ∃ w5, w5 = w4.alloc (.cells (pC p).toArray 53) := ⟨_, rfl⟩
  have hb5 : Below w4.heap.size w4 w5 := by rw [hw5]; exact (Below.refl _ w4).alloc (Nat.le_refl _) _
  have hk : Blk w5 w4.heap.size 53 (pC p).toArray := by rw [hw5]; exact Blk.new _ _ _
  have H5 := hide (And.intro hk (And.intro (H4.out.1.below hb5) (H4.out.2.trans (Below.mono hb5 H4.out.2.size))))
  have HW5 := hide hw5
  clear hw5 hk hb5
  go_wp2_with (first | (refine wpList_value (o := ⟨some 20, _, _, _, _, _⟩) rfl (.pointer (some ⟨s, 0, none⟩)) w4 (exec_load_cell (o := ⟨some 20, _, _, _, _, _⟩) 98 (.tmp 3) rfl ⟨w.heap.size, 0, none⟩ rfl _ _ w4 Try.underlying98 rfl (by have h9 := H4.out.1.k3; rw [h9.cell]; rfl)) ?_) | (refine wpList_value (o := ⟨some 22, _, _, _, _, _⟩) rfl (.agg (pC p).toArray) w4 (exec_load_mid (o := ⟨some 22, _, _, _, _, _⟩) 53 (.tmp 21) rfl (w.heap.size + 1) 0 rfl (pC p) _ w4 (opt_p H4.out.1.k5) Try.underlying53 rfl (by have := psz hp; simpa using this)) ?_; simp only [Act.put, List.setIfInBounds_toArray, List.set_cons_zero, List.set_cons_succ]) | (refine wpList_value (o := ⟨some 23, _, _, _, _, _⟩) rfl (.slice (some ⟨w4.heap.size, 0, none⟩) 1 1) w5 (by rw [HW5.out]; exact exec_buildSliceP (o := ⟨some 23, _, _, _, _, _⟩) (v := .agg (pC p).toArray) 24 (.tmp 22) rfl rfl Try.underlying24 sz_path (by omega) (by omega) (z := .agg zcP) (fun w => by kernel_rfl) (by simp [Value.cells, pC_len hp]) w4) ?_))
  refine (put_any hU hV [p] (by simp) (fun q hq => by rw [List.mem_singleton.1 hq]; exact hpV) (cnt := cnt) (fun q => by have := hc q; simp; omega) _ (pths_one H5.out.1 hp (fun hf => by have := (H0.out.1.foot_lt hf).1; have := H4.out.2.size; omega)) (H0.out.1.below H5.out.2.2) H0.out.2).mono ?_
  rintro e w6 ⟨rfl, S1, hl6, hI6, hk6⟩
  have H6 := hide (And.intro (SLeft.from H5.out.2.2 hl6) (And.intro hI6 (And.intro hk6 (H5.out.2.1.left hl6))))
  clear hl6 hI6 hk6
  dsimp only
  have hv6 := pathsLay.alike HV.out (SLeft.alike H0.out.1 H6.out.1)
  have hpt := pths_of (F := S1.foot s cb tb hb) hv6 (by have := HBW.out; have := H6.out.1.2.1.size; omega) H6.out.1.1.foot_low
  have HPT := hide hpt
  clear hv6 hpt
  go_wp2_with (first | (refine wpList_value (o := ⟨some 25, _, _, _, _, _⟩) rfl (.pointer (some ⟨s, 0, none⟩)) w6 (exec_load_cell (o := ⟨some 25, _, _, _, _, _⟩) 98 (.tmp 3) rfl ⟨w.heap.size, 0, none⟩ rfl _ _ w6 Try.underlying98 rfl (by have h9 := H6.out.2.2.2.k3; rw [h9.cell]; rfl)) ?_) | (refine wpList_value (o := ⟨some 27, _, _, _, _, _⟩) rfl v w6 (exec_load_cell (o := ⟨some 27, _, _, _, _, _⟩) 24 (.tmp 26) rfl ⟨w.heap.size + 1, 21, none⟩ rfl _ _ w6 Try.underlying24 rfl (opt_v H6.out.2.2.2.k5 hp)) ?_))
  refine (put_any hU hV cl (by omega) hclV (cnt := cntK true cnt [p] 1) (fun q => by have := hc q; have := pcnt_len (([p] : List Pth).take 1) q; simp at this; unfold cntK; simp; omega) v HPT.out H6.out.1.1 H6.out.2.1).mono ?_
  rintro e w7 ⟨rfl, S2, hl7, hI7, hk7⟩
  have H7 := hide (And.intro (H6.out.1.trans hl7) (And.intro hI7 (And.intro (H6.out.2.2.1.trans hk7) (H6.out.2.2.2.left hl7))))
  clear hl7 hI7 hk7
  dsimp only
  have hln := H7.out.2.1.lens hU.1 hV
  go_wp2_with (first | (refine wpList_value (o := ⟨some 29, _, _, _, _, _⟩) rfl (.pointer (some ⟨s, 0, none⟩)) w7 (exec_load_cell (o := ⟨some 29, _, _, _, _, _⟩) 98 (.tmp 3) rfl ⟨w.heap.size, 0, none⟩ rfl _ _ w7 Try.underlying98 rfl (by have h9 := H7.out.2.2.2.k3; rw [h9.cell]; rfl)) ?_) | (refine wpList_value (o := ⟨some 30, _, _, _, _, _⟩) rfl (.agg (mC h p).toArray) w7 (exec_load_blk (o := ⟨some 30, _, _, _, _, _⟩) 60 (.tmp 7) rfl b7 rfl 60 _ _ w7 H7.out.2.2.2.k7 Try.underlying60 rfl (by rw [sz_made, List.size_toArray, List.length_append, bvL, pC_len hp, show h.length = 20 from hh])) ?_))
  refine (name_any h hh p hp (hln.1 h) (hln.2.1 p) hln.2.2 H7.out.1.1).mono ?_
  rintro e w8 ⟨rfl, S3, hl8, hq8⟩
  have H8 := hide (And.intro (H7.out.1.trans hl8) (And.intro (inv_name H7.out.2.1 hhU hpV hq8) (And.intro hq8.fix (H7.out.2.2.2.left hl8))))
  obtain ⟨nm, hnm⟩ : ∃ nm, nm = (!hasH (clsL S2 p) h) := ⟨_, rfl⟩
  have HN := hide (show nm = !hasH (M p) h by rw [hnm, H7.out.2.1.cls p])
  rw [← hnm]
  clear hl8 hq8 hnm hln
  dsimp only
  go_wp2_with fail
  go_ret
  have hb9 : Below w8.heap.size w8 (w8.alloc (.cells #[.bool nm] 4)) := (Below.refl _ w8).alloc (Nat.le_refl _) _
  exact ⟨w8.heap.size, w.heap.size, b7, w.heap.size + 1, S3, rfl, H8.out.1.grow hb9, H8.out.2.1, ⟨H8.out.2.2.1.1.trans H7.out.2.2.1.2.2.1, H8.out.2.2.1.2.trans H7.out.2.2.1.2.2.2⟩, H8.out.2.2.2.below hb9, by rw [← HN.out]; exact Blk.new _ _ _, fun hf => by have := (H8.out.1.1.foot_lt hf).1; omega⟩
theorem cntC_eq (cnt : Pth → Nat) (p : Pth) (cl : List Pth) (q : Pth) : cntC cnt p cl q = cnt q + pcnt [p] q + pcnt cl q := by
  unfold cntC cntK
  simp
theorem cnt_back (cnt : Pth → Nat) (p : Pth) (cl : List Pth) : cntK false (cntK false (cntC cnt p cl) [p] 1) cl cl.length = cnt := by
  funext q
  show (if false = true then _ else cntK false (cntC cnt p cl) [p] 1 q - pcnt (cl.take cl.length) q) = _
  rw [if_neg (by decide), List.take_length]
  show (if false = true then _ else cntC cnt p cl q - pcnt (([p] : List Pth).take 1) q) - _ = _
  rw [if_neg (by decide), cntC_eq]
  simp only [List.take_succ_cons, List.take_zero]
  omega
theorem cnt_mid (cnt : Pth → Nat) (p : Pth) (cl : List Pth) (q : Pth) : cntK false (cntC cnt p cl) [p] 1 q = cnt q + pcnt cl q := by
  show (if false = true then _ else cntC cnt p cl q - pcnt (([p] : List Pth).take 1) q) = _
  rw [if_neg (by decide), cntC_eq]
  simp
  omega
theorem name_back {M : Pth → List Hsh} {p : Pth} {h : Hsh} (hn : hasH (M p) h = false) : nameM M p h p = M p ++ [h] ∧ upd (nameM M p h) p (M p) = M := by
  unfold nameM
  rw [if_neg (by rw [hn]; simp)]
  refine ⟨by unfold upd; rw [if_pos rfl], ?_⟩
  funext q
  unfold upd
  by_cases e : q = p
  · subst e; simp
  · simp [e]
set_option maxHeartbeats 4000000 in
theorem undo_any {B : Nat} {w : World} {s cb tb hb : Nat} {c : Cvs} {S : Sst} {U : List Hsh} {V : List Pth} {cnt : Pth → Nat} {M : Pth → List Hsh} (hU : U.length ≤ 100000 ∧ ∀ h ∈ U, okH h) (hV : V.length ≤ 100000)
    (h : Hsh) (hh : okH h) (p : Pth) (hp : okP p) (hpV : p ∈ V) (cl : List Pth) (hcl : cl.length ≤ 400000) (hclV : ∀ q ∈ cl, q ∈ V) (v : Value) (hv : pathsLay.At w B [v] cl) (hc : ∀ q, cnt q ≤ 400000) (b8 b3 b7 b5 : Nat) (hu : UndoAt w (S.foot s cb tb hb) s b8 b3 b7 b5 (!hasH (M p) h) h p v) (hS : SAt B w s cb tb hb c S) (hI : InvP c.own U V S (cntC cnt p cl) (nameM M p h) (there (cntC cnt p cl) (nameM M p h))) :
    Calls Try.prog 118 #[.pointer (some ⟨b8, 0, none⟩), .pointer (some ⟨b3, 0, none⟩), .pointer (some ⟨b7, 0, none⟩), .pointer (some ⟨b5, 0, none⟩)] w fun e w' => e = .returned (.tuple #[]) ∧ ∃ S', SLeft B w s cb tb hb c S S' w' ∧ InvP c.own U V S' cnt M (there cnt M) ∧ (S'.steps = S.steps ∧ S'.fuel = S.fuel) := by
  have H0 := hide (And.intro hS (And.intro hI hu))
  have HV := hide hv
  have hBw : B ≤ w.heap.size := by have := hS.blk.lt; have := hS.low.1; omega
  have HBW := hide hBw
  clear hS hI hu hv hBw
  obtain ⟨nm, hnm⟩ : ∃ nm, nm = (!hasH (M p) h) := ⟨_, rfl⟩
  have hu8 := H0.out.2.2.k8
  rw [← hnm] at hu8
  have HU8 := hide hu8
  clear hu8
  go_enter Try.func118, Try.ntmps118
  cases nm with
  | true =>
    have hno : hasH (M p) h = false := by
      cases hq : hasH (M p) h with
      | true => rw [hq] at hnm; cases hnm
      | false => rfl
    have HNB := hide (name_back hno)
    clear hno hnm
    have hln := H0.out.2.1.lens hU.1 hV
    have hl0 : 0 < (clsL S p).length := by rw [H0.out.2.1.cls p, HNB.out.1]; simp
    go_wp2_with (first | (refine wpList_value (o := ⟨some 4, _, _, _, _, _⟩) rfl (.bool true) w (exec_load_cell (o := ⟨some 4, _, _, _, _, _⟩) 4 (.tmp 0) rfl ⟨b8, 0, none⟩ rfl _ _ w Try.underlying4 rfl (by have h9 := HU8.out; rw [h9.cell]; rfl)) ?_) | (refine wpList_value (o := ⟨some 5, _, _, _, _, _⟩) rfl (.pointer (some ⟨s, 0, none⟩)) w (exec_load_cell (o := ⟨some 5, _, _, _, _, _⟩) 98 (.tmp 1) rfl ⟨b3, 0, none⟩ rfl _ _ w Try.underlying98 rfl (by have h9 := H0.out.2.2.hold.k3; rw [h9.cell]; rfl)) ?_) | (refine wpList_value (o := ⟨some 6, _, _, _, _, _⟩) rfl (.agg (mC h p).toArray) w (exec_load_blk (o := ⟨some 6, _, _, _, _, _⟩) 60 (.tmp 2) rfl b7 rfl 60 _ _ w H0.out.2.2.hold.k7 Try.underlying60 rfl (by rw [sz_made, List.size_toArray, List.length_append, bvL, pC_len hp, show h.length = 20 from hh])) ?_))
    refine (unname_any h hh p hp (hln.1 h) ⟨hl0, hln.2.1 p⟩ hln.2.2 H0.out.1).mono ?_
    rintro e w4 ⟨rfl, S0, hl4, hq4⟩
    have hi4 := inv_unname H0.out.2.1 HNB.out.1 hq4
    rw [HNB.out.2] at hi4
    have H4 := hide (And.intro hl4 (And.intro hi4 (And.intro hq4.fix (H0.out.2.2.hold.left hl4))))
    clear hl4 hi4 hq4 hln hl0
    dsimp only
    obtain ⟨w5, hw5⟩ : ∃ w5, w5 = w4.alloc (.cells (pC p).toArray 53) := ⟨_, rfl⟩
    have hb5 : Below w4.heap.size w4 w5 := by rw [hw5]; exact (Below.refl _ w4).alloc (Nat.le_refl _) _
    have hk : Blk w5 w4.heap.size 53 (pC p).toArray := by rw [hw5]; exact Blk.new _ _ _
    have H5 := hide (And.intro hk (And.intro (H4.out.2.2.2.below hb5) hb5))
    have HW5 := hide hw5
    clear hw5 hk hb5
    go_wp2_with (first | (refine wpList_value (o := ⟨some 8, _, _, _, _, _⟩) rfl (.pointer (some ⟨s, 0, none⟩)) w4 (exec_load_cell (o := ⟨some 8, _, _, _, _, _⟩) 98 (.tmp 1) rfl ⟨b3, 0, none⟩ rfl _ _ w4 Try.underlying98 rfl (by have h9 := H4.out.2.2.2.k3; rw [h9.cell]; rfl)) ?_) | (refine wpList_value (o := ⟨some 10, _, _, _, _, _⟩) rfl (.agg (pC p).toArray) w4 (exec_load_mid (o := ⟨some 10, _, _, _, _, _⟩) 53 (.tmp 9) rfl b5 0 rfl (pC p) _ w4 (opt_p H4.out.2.2.2.k5) Try.underlying53 rfl (by have := psz hp; simpa using this)) ?_; simp only [Act.put, List.setIfInBounds_toArray, List.set_cons_zero, List.set_cons_succ]) | (refine wpList_value (o := ⟨some 11, _, _, _, _, _⟩) rfl (.slice (some ⟨w4.heap.size, 0, none⟩) 1 1) w5 (by rw [HW5.out]; exact exec_buildSliceP (o := ⟨some 11, _, _, _, _, _⟩) (v := .agg (pC p).toArray) 24 (.tmp 10) rfl rfl Try.underlying24 sz_path (by omega) (by omega) (z := .agg zcP) (fun w => by kernel_rfl) (by simp [Value.cells, pC_len hp]) w4) ?_))
    refine (take_any hU hV [p] (by simp) (fun q hq => by rw [List.mem_singleton.1 hq]; exact hpV) (cnt := cntC cnt p cl) (fun q => by rw [cntC_eq]; omega) (fun q => by rw [cntC_eq]; have := hc q; have := pcnt_len [p] q; have := pcnt_len cl q; simp at *; omega) _ (pths_one H5.out.1 hp (fun hf => by have := (H4.out.1.1.foot_lt hf).1; omega)) (H4.out.1.1.below H5.out.2.2) H4.out.2.1).mono ?_
    rintro e w6 ⟨rfl, S1, hl6, hI6, hk6⟩
    have H6 := hide (And.intro (H4.out.1.trans (SLeft.from H5.out.2.2 hl6)) (And.intro hI6 (And.intro hk6 (H5.out.2.1.left hl6))))
    clear hl6 hI6 hk6
    dsimp only
    have hv6 := pathsLay.alike HV.out (SLeft.alike H0.out.1 H6.out.1)
    have hpt := pths_of (F := S1.foot s cb tb hb) hv6 (by have := HBW.out; have := H6.out.1.2.1.size; omega) H6.out.1.1.foot_low
    have HPT := hide hpt
    clear hv6 hpt
    go_wp2_with (first | (refine wpList_value (o := ⟨some 13, _, _, _, _, _⟩) rfl (.pointer (some ⟨s, 0, none⟩)) w6 (exec_load_cell (o := ⟨some 13, _, _, _, _, _⟩) 98 (.tmp 1) rfl ⟨b3, 0, none⟩ rfl _ _ w6 Try.underlying98 rfl (by have h9 := H6.out.2.2.2.k3; rw [h9.cell]; rfl)) ?_) | (refine wpList_value (o := ⟨some 15, _, _, _, _, _⟩) rfl v w6 (exec_load_cell (o := ⟨some 15, _, _, _, _, _⟩) 24 (.tmp 14) rfl ⟨b5, 21, none⟩ rfl _ _ w6 Try.underlying24 rfl (opt_v H6.out.2.2.2.k5 hp)) ?_))
    refine (take_any hU hV cl (by omega) hclV (cnt := cntK false (cntC cnt p cl) [p] 1) (fun q => by rw [cnt_mid]; omega) (fun q => by rw [cnt_mid]; have := hc q; have := pcnt_len cl q; omega) v HPT.out H6.out.1.1 H6.out.2.1).mono ?_
    rintro e w7 ⟨rfl, S2, hl7, hI7, hk7⟩
    dsimp only
    go_wp2_with fail
    go_end0
    rw [cnt_back] at hI7
    exact ⟨rfl, S2, H6.out.1.trans hl7, hI7, hk7.2.2.1.trans (H6.out.2.2.1.2.2.1.trans H4.out.2.2.1.1), hk7.2.2.2.trans (H6.out.2.2.1.2.2.2.trans H4.out.2.2.1.2)⟩
  | false =>
    have hno : hasH (M p) h = true := by
      cases hq : hasH (M p) h with
      | false => rw [hq] at hnm; cases hnm
      | true => rfl
    clear hnm
    obtain ⟨w4, rfl⟩ : ∃ w4, w4 = w := ⟨_, rfl⟩
    have hi4 := H0.out.2.1
    have hM : nameM M p h = M := by unfold nameM; rw [if_pos hno]
    rw [hM] at hi4
    have H4 := hide (And.intro (SLeft.refl H0.out.1) (And.intro hi4 (And.intro (And.intro rfl rfl : S.steps = S.steps ∧ S.fuel = S.fuel) H0.out.2.2.hold)))
    clear hi4 hM hno
    obtain ⟨w5, hw5⟩ : ∃ w5, w5 = w4.alloc (.cells (pC p).toArray 53) := ⟨_, rfl⟩
    have hb5 : Below w4.heap.size w4 w5 := by rw [hw5]; exact (Below.refl _ w4).alloc (Nat.le_refl _) _
    have hk : Blk w5 w4.heap.size 53 (pC p).toArray := by rw [hw5]; exact Blk.new _ _ _
    have H5 := hide (And.intro hk (And.intro (H4.out.2.2.2.below hb5) hb5))
    have HW5 := hide hw5
    clear hw5 hk hb5
    go_wp2_with (first | (refine wpList_value (o := ⟨some 4, _, _, _, _, _⟩) rfl (.bool false) w4 (exec_load_cell (o := ⟨some 4, _, _, _, _, _⟩) 4 (.tmp 0) rfl ⟨b8, 0, none⟩ rfl _ _ w4 Try.underlying4 rfl (by have h9 := HU8.out; rw [h9.cell]; rfl)) ?_) | (refine wpList_value (o := ⟨some 8, _, _, _, _, _⟩) rfl (.pointer (some ⟨s, 0, none⟩)) w4 (exec_load_cell (o := ⟨some 8, _, _, _, _, _⟩) 98 (.tmp 1) rfl ⟨b3, 0, none⟩ rfl _ _ w4 Try.underlying98 rfl (by have h9 := H4.out.2.2.2.k3; rw [h9.cell]; rfl)) ?_) | (refine wpList_value (o := ⟨some 10, _, _, _, _, _⟩) rfl (.agg (pC p).toArray) w4 (exec_load_mid (o := ⟨some 10, _, _, _, _, _⟩) 53 (.tmp 9) rfl b5 0 rfl (pC p) _ w4 (opt_p H4.out.2.2.2.k5) Try.underlying53 rfl (by have := psz hp; simpa using this)) ?_; simp only [Act.put, List.setIfInBounds_toArray, List.set_cons_zero, List.set_cons_succ]) | (refine wpList_value (o := ⟨some 11, _, _, _, _, _⟩) rfl (.slice (some ⟨w4.heap.size, 0, none⟩) 1 1) w5 (by rw [HW5.out]; exact exec_buildSliceP (o := ⟨some 11, _, _, _, _, _⟩) (v := .agg (pC p).toArray) 24 (.tmp 10) rfl rfl Try.underlying24 sz_path (by omega) (by omega) (z := .agg zcP) (fun w => by kernel_rfl) (by simp [Value.cells, pC_len hp]) w4) ?_))
    refine (take_any hU hV [p] (by simp) (fun q hq => by rw [List.mem_singleton.1 hq]; exact hpV) (cnt := cntC cnt p cl) (fun q => by rw [cntC_eq]; omega) (fun q => by rw [cntC_eq]; have := hc q; have := pcnt_len [p] q; have := pcnt_len cl q; simp at *; omega) _ (pths_one H5.out.1 hp (fun hf => by have := (H4.out.1.1.foot_lt hf).1; omega)) (H4.out.1.1.below H5.out.2.2) H4.out.2.1).mono ?_
    rintro e w6 ⟨rfl, S1, hl6, hI6, hk6⟩
    have H6 := hide (And.intro (H4.out.1.trans (SLeft.from H5.out.2.2 hl6)) (And.intro hI6 (And.intro hk6 (H5.out.2.1.left hl6))))
    clear hl6 hI6 hk6
    dsimp only
    have hv6 := pathsLay.alike HV.out (SLeft.alike H0.out.1 H6.out.1)
    have hpt := pths_of (F := S1.foot s cb tb hb) hv6 (by have := HBW.out; have := H6.out.1.2.1.size; omega) H6.out.1.1.foot_low
    have HPT := hide hpt
    clear hv6 hpt
    go_wp2_with (first | (refine wpList_value (o := ⟨some 13, _, _, _, _, _⟩) rfl (.pointer (some ⟨s, 0, none⟩)) w6 (exec_load_cell (o := ⟨some 13, _, _, _, _, _⟩) 98 (.tmp 1) rfl ⟨b3, 0, none⟩ rfl _ _ w6 Try.underlying98 rfl (by have h9 := H6.out.2.2.2.k3; rw [h9.cell]; rfl)) ?_) | (refine wpList_value (o := ⟨some 15, _, _, _, _, _⟩) rfl v w6 (exec_load_cell (o := ⟨some 15, _, _, _, _, _⟩) 24 (.tmp 14) rfl ⟨b5, 21, none⟩ rfl _ _ w6 Try.underlying24 rfl (opt_v H6.out.2.2.2.k5 hp)) ?_))
    refine (take_any hU hV cl (by omega) hclV (cnt := cntK false (cntC cnt p cl) [p] 1) (fun q => by rw [cnt_mid]; omega) (fun q => by rw [cnt_mid]; have := hc q; have := pcnt_len cl q; omega) v HPT.out H6.out.1.1 H6.out.2.1).mono ?_
    rintro e w7 ⟨rfl, S2, hl7, hI7, hk7⟩
    dsimp only
    go_wp2_with fail
    go_end0
    rw [cnt_back] at hI7
    exact ⟨rfl, S2, H6.out.1.trans hl7, hI7, hk7.2.2.1.trans (H6.out.2.2.1.2.2.1), hk7.2.2.2.trans (H6.out.2.2.1.2.2.2)⟩
end Go.Proofs.Ytfppddnfdinipaa
