/- package pick: over. -/
import Derived.Test.YtfppddnfdinipaaRowCase
namespace Go.Proofs.Ytfppddnfdinipaa
open Go Go.RowKit Go.Maps
set_option maxRecDepth 100000
theorem SLeft.belowB {B : Nat} {w w' : World} {s cb tb hb : Nat} {c : Cvs} {S S' : Sst} (h0 : SAt B w s cb tb hb c S) (h : SLeft B w s cb tb hb c S S' w') : Below B w w' :=
  ⟨h.2.1.os, h.2.1.tape, h.2.1.output, h.2.1.size, fun k hk => SLeft.alike h0 h k hk⟩
def namesM (of : List Mde) : Pth → List Hsh := of.foldl (fun M m => nameM M m.2 m.1) fun _ => []
theorem names_next {of : List Mde} {k : Nat} {m : Mde} (h : of[k]? = some m) : namesM (of.take (k + 1)) = nameM (namesM (of.take k)) m.2 m.1 := by
  unfold namesM
  rw [List.take_add_one, h, List.foldl_append]
  rfl
theorem names_mem (of : List Mde) : ∀ h p, h ∈ namesM of p ↔ (h, p) ∈ of := by
  have key : ∀ (of : List Mde) (M : Pth → List Hsh) h p, h ∈ (of.foldl (fun M m => nameM M m.2 m.1) M) p ↔ h ∈ M p ∨ (h, p) ∈ of := by
    intro of
    induction of with
    | nil => intro M h p; simp
    | cons m of ih =>
      intro M h p
      rw [List.foldl_cons, ih, mem_nameM, List.mem_cons]
      constructor
      · rintro ((h1 | ⟨rfl, rfl⟩) | h1)
        · exact .inl h1
        · exact .inr (.inl rfl)
        · exact .inr (.inr h1)
      · rintro (h1 | h1 | h1)
        · exact .inl (.inl h1)
        · subst h1
          exact .inl (.inr ⟨rfl, rfl⟩)
        · exact .inr h1
  intro h p
  unfold namesM
  rw [key]
  simp
/-- how often the fixed paths are there -/
def cnt0 (ps : List Pth) : Pth → Nat := cntK true (fun _ => 0) ps ps.length
theorem cnt0_eq (ps : List Pth) (q : Pth) : cnt0 ps q = pcnt ps q := by
  unfold cnt0 cntK
  rw [List.take_length]
  simp
theorem say_first (fixed : List Pth) (of : List Mde) : Say (cnt0 fixed) (namesM of) fixed of where
  cnt := fun q => by rw [cnt0_eq]; exact pcnt_pos
  mem := names_mem of
theorem caseC_at {v : Cvs} (h : okH v.own) : (caseC v)[20]? = some v.fixed ∧ (caseC v)[21]? = some v.classes ∧ (caseC v)[22]? = some v.opts ∧ (caseC v)[23]? = some v.of := by
  have hl : (bv v.own).length = 20 := by rw [bvL]; exact h
  unfold caseC
  simp only [List.getElem?_append_right (show (bv v.own).length ≤ 20 by omega), List.getElem?_append_right (show (bv v.own).length ≤ 21 by omega), List.getElem?_append_right (show (bv v.own).length ≤ 22 by omega), List.getElem?_append_right (show (bv v.own).length ≤ 23 by omega), hl]
  exact ⟨rfl, rfl, rfl, rfl⟩
theorem case_cells {w : World} {g : Nat} {v : Cvs} (ho : okH v.own) (h : Blk w g 29 (caseC v).toArray) : w.cell? ⟨g, 20, none⟩ = some v.fixed ∧ w.cell? ⟨g, 21, none⟩ = some v.classes ∧ w.cell? ⟨g, 22, none⟩ = some v.opts ∧ w.cell? ⟨g, 23, none⟩ = some v.of := by
  have hc : ∀ i, w.cell? ⟨g, i, none⟩ = (caseC v)[i]? := fun i => by rw [h.cell]; simp
  simp only [hc]
  exact caseC_at ho
theorem csz {v : Cvs} (h : okH v.own) : (Try.prog.info? 29).map (·.size) = some (caseC v).toArray.size := by
  rw [List.size_toArray, caseC_len h]
  kernel_rfl
theorem mC_len {h : Hsh} {p : Pth} (hh : okH h) (hp : okP p) : (mC h p).length = 41 := by
  show (bv h ++ pC p).length = 41
  rw [List.length_append, bvL, pC_len hp, show h.length = 20 from hh]
theorem msz {h : Hsh} {p : Pth} (hh : okH h) (hp : okP p) : (Try.prog.info? 60).map (·.size) = some (mC h p).toArray.size := by
  rw [List.size_toArray, mC_len hh hp]
  kernel_rfl
theorem mC_one (h : Hsh) (p : Pth) : ∀ u ∈ mC h p, u.oneCell' = true := by
  intro u hu
  rcases List.mem_append.1 hu with hu | hu
  · exact bv1 _ u hu
  · exact pC_one p u hu
theorem cntK_one {cnt : Pth → Nat} {ps : List Pth} {k : Nat} {p : Pth} (h : ps[k]? = some p) : cntK true (cntK true cnt ps k) [p] ([p] : List Pth).length = cntK true cnt ps (k + 1) := by
  rw [cntK_put h]
  have := cntK_put (cnt := cntK true cnt ps k) (ps := [p]) (k := 0) (p := p) rfl
  rw [cntK_zero] at this
  exact this
/-- a search over a case, as it begins -/
def OverQ (w : World) (v : Cvs) (c : CaseP) (g : Int) (e : Ending) (w' : World) : Prop :=
  ∃ B s cb tb hb S, e = .returned (.pointer (some ⟨s, 0, none⟩)) ∧ w.heap.size ≤ B ∧ Below w.heap.size w w' ∧ SAt B w' s cb tb hb v S ∧ InvP v.own c.U c.V S (cnt0 c.fixed) (namesM c.of) (there (cnt0 c.fixed) (namesM c.of)) ∧ S.steps = 0 ∧ S.fuel = g
set_option maxHeartbeats 4000000 in
theorem over_any (w : World) (v : Cvs) (c : CaseP) (hc : c.size ≤ 120) (hC : CaseAt w.heap.size w v c) (f : Int) (hf : -9223372036854775808 ≤ f ∧ f ≤ 9223372036854775807) :
    Calls Try.prog 48 #[.agg (caseC v).toArray, .int .i64 f] w (OverQ w v c (max f 0)) := by
  obtain ⟨b1, b2, b3, b4, b5, b6, b7⟩ := CaseP.bounds hc
  have hUl : c.U.length ≤ 100000 ∧ ∀ h ∈ c.U, okH h := ⟨by omega, hC.okU⟩
  have hVl : c.V.length ≤ 100000 := by omega
  obtain ⟨w1, hw1⟩ : ∃ w1, w1 = w.alloc (.cells (caseC v).toArray 29) := ⟨_, rfl⟩
  have hb1 : Below w.heap.size w w1 := by rw [hw1]; exact (Below.refl _ w).alloc (Nat.le_refl _) _
  have hk1 : Blk w1 w.heap.size 29 (caseC v).toArray := by rw [hw1]; exact Blk.new _ _ _
  have hz1 : w1.heap.size = w.heap.size + 1 := by rw [hw1, size_alloc]
  have hC1 : CaseAt w.heap.size w1 v c := hC.alike fun k hk => hb1.block k hk
  have ho : okH v.own := by rw [hC.own]; exact hC.okO
  have H1 := hide (And.intro hb1 (And.intro hk1 (And.intro hC1 hz1)))
  clear hb1 hk1 hC1 hz1
  have hmm := @run_makeMap Try.prog
  obtain ⟨w2, hw2⟩ : ∃ w2, w2 = ((((w.alloc (.cells (caseC v).toArray 29)).alloc (.map #[] 0)).alloc (.map #[] 0)).alloc (.map #[] 0)).alloc (.cells (srchCells v (w.heap.size + 1) (w.heap.size + 1 + 1) (w.heap.size + 1 + 1 + 1) (S0 (max f 0))).toArray 104) := ⟨_, rfl⟩
  have hz2 : w2.heap.size = w.heap.size + 1 + 1 + 1 + 1 + 1 := by rw [hw2]; simp only [size_alloc]
  have hb2 : Below (w.heap.size + 1) w1 w2 := by
    rw [hw2, hw1]
    refine ((((Below.refl _ _).alloc ?_ _).alloc ?_ _).alloc ?_ _).alloc ?_ _ <;> simp only [size_alloc] <;> omega
  have hS2 : SAt (w.heap.size + 1) w2 (w.heap.size + 1 + 1 + 1 + 1) (w.heap.size + 1) (w.heap.size + 1 + 1) (w.heap.size + 1 + 1 + 1) v (S0 (max f 0)) := by
    have e1 := size_alloc w (.cells (caseC v).toArray 29)
    have m1 := mapIs_new (ek := pV) (ok := okP) (ev := fun v : Value => v) (w.alloc (.cells (caseC v).toArray 29))
    have e2 := size_alloc (w.alloc (.cells (caseC v).toArray 29)) (.map #[] 0)
    have m2 := mapIs_new (ek := pV) (ok := okP) (ev := intV) ((w.alloc (.cells (caseC v).toArray 29)).alloc (.map #[] 0))
    have e3 := size_alloc ((w.alloc (.cells (caseC v).toArray 29)).alloc (.map #[] 0)) (.map #[] 0)
    have m3 := mapIs_new (ek := hV) (ok := okH) (ev := mapV) (((w.alloc (.cells (caseC v).toArray 29)).alloc (.map #[] 0)).alloc (.map #[] 0))
    have e4 := size_alloc (((w.alloc (.cells (caseC v).toArray 29)).alloc (.map #[] 0)).alloc (.map #[] 0)) (.map #[] 0)
    have k4 : Blk w2 ((((w.alloc (.cells (caseC v).toArray 29)).alloc (.map #[] 0)).alloc (.map #[] 0)).alloc (.map #[] 0)).heap.size 104 (srchCells v (w.heap.size + 1) (w.heap.size + 1 + 1) (w.heap.size + 1 + 1 + 1) (S0 (max f 0))).toArray := by rw [hw2]; exact Blk.new _ _ _
    rw [e1] at m1
    rw [e2, e1] at m2
    rw [e3, e2, e1] at m3
    rw [e4, e3, e2, e1] at k4
    refine sat_new ho k4 ?_ ?_ ?_ (by omega) (by omega)
    · refine m1.of_eq ?_
      rw [hw2, Below.heap_alloc _ _ _ (by omega), Below.heap_alloc _ _ _ (by omega), Below.heap_alloc _ _ _ (by omega)]
    · refine m2.of_eq ?_
      rw [hw2, Below.heap_alloc _ _ _ (by omega), Below.heap_alloc _ _ _ (by omega)]
    · refine m3.of_eq ?_
      rw [hw2, Below.heap_alloc _ _ _ (by omega)]
  have hI2 : InvP v.own c.U c.V (S0 (max f 0)) (fun _ => 0) (namesM (c.of.take 0)) (there (fun _ => 0) (namesM (c.of.take 0))) := inv_new (nodup_dd _) _
  have hF2 : (S0 (max f 0)).steps = 0 ∧ (S0 (max f 0)).fuel = max f 0 := ⟨rfl, rfl⟩
  obtain ⟨S2, hSS⟩ : ∃ S2, S2 = S0 (max f 0) := ⟨_, rfl⟩
  have hw2' := hw2
  rw [← hSS] at hS2 hI2 hF2
  have hC2 : CaseAt w.heap.size w2 v c := H1.out.2.2.1.alike fun k hk => hb2.block k (by omega)
  have hk2 : Blk w2 w.heap.size 29 (caseC v).toArray := (hb2.block _ (by omega)).trans H1.out.2.1
  obtain ⟨Am, capm, hvm, _, _, _, hAm⟩ := slice_open hC2.atM
  obtain ⟨Af, capf, hvf, _, _, _, hAf⟩ := slice_open hC2.atF
  have H2 := hide (And.intro hb2 (And.intro hS2 (And.intro hI2 (And.intro hF2 (And.intro hC2 (And.intro hk2 (And.intro hvm (And.intro hAm (And.intro hvf (And.intro hAf hz2))))))))))
  clear hb2 hS2 hI2 hF2 hC2 hk2 hvm hAm hvf hAf hz2 hSS hC
  rcases (show (0 ≤ f ∧ max f 0 = f) ∨ (¬ 0 ≤ f ∧ max f 0 = 0) by omega) with ⟨hf0, hg⟩ | ⟨hf0, hg⟩
  all_goals
    rw [hg] at hw2
    have HW := hide hw2
    clear hw2 hw2' hg
    go_enter Try.func48, Try.ntmps48
    go_wp2_with (first | (refine wpList_value (o := ⟨some 10, _, _, _, _, _⟩) rfl (.agg (caseC v).toArray) w1 (by rw [← hw1]; exact exec_load_blk (o := ⟨some 10, _, _, _, _, _⟩) 29 (.tmp 2) rfl w.heap.size rfl 29 _ _ w1 H1.out.2.1 Try.underlying29 rfl (csz ho)) ?_; rw [hw1]) | (refine wpList_value (o := ⟨some 16, _, _, _, _, _⟩) rfl _ _ (exec_srch ho _ _ _ _ _ rfl rfl rfl rfl rfl rfl) ?_) | (refine wpList_value (o := ⟨some 19, _, _, _, _, _⟩) rfl (.slice Am c.of.length capm) w2 (by rw [← HW.out]; exact exec_load_cell (o := ⟨some 19, _, _, _, _, _⟩) 27 (.tmp 18) rfl ⟨w.heap.size, 23, none⟩ rfl _ _ w2 Try.underlying27 rfl (by have := (case_cells ho H2.out.2.2.2.2.2.1).2.2.2; rw [H2.out.2.2.2.2.2.2.1] at this; exact this)) ?_))
    go_loopw [21] (fun x wr => ∃ k S1, k ≤ c.of.length ∧ x = .int .i64 ((k : Nat) : Int) ∧ SAt (w.heap.size + 1) wr (w.heap.size + 1 + 1 + 1 + 1) (w.heap.size + 1) (w.heap.size + 1 + 1) (w.heap.size + 1 + 1 + 1) v S1 ∧ Below (w.heap.size + 1) w2 wr ∧ InvP v.own c.U c.V S1 (fun _ => 0) (namesM (c.of.take k)) (there (fun _ => 0) (namesM (c.of.take k))) ∧ S1.steps = 0 ∧ S1.fuel = max f 0) (fun x _ => c.of.length - (intOf x).toNat)
    case atStart => exact ⟨0, S2, by omega, rfl, H2.out.2.1, Below.refl _ _, H2.out.2.2.1, H2.out.2.2.2.1⟩
    case round =>
      obtain ⟨wo, rfl⟩ : ∃ wo, wo = wr := ⟨_, rfl⟩
      obtain ⟨k, S1, hk, rfl, hs1, hbw1, hi1, hf1⟩ := hrel
      have H3 := hide (And.intro hs1 (And.intro hbw1 (And.intro hi1 hf1)))
      clear hs1 hbw1 hi1 hf1
      have k0 : (0 : Int) ≤ (k : Int) := by omega
      have k9 : (c.of.length : Int) ≤ 120 := by omega
      by_cases hk2 : k < c.of.length
      · have k1 : (k : Int) < (c.of.length : Int) := by omega
        obtain ⟨m, hm⟩ : ∃ m, c.of[k]? = some m := ⟨_, List.getElem?_eq_getElem hk2⟩
        obtain ⟨bm, om, rfl, hlm, hEm⟩ := H2.out.2.2.2.2.2.2.2.1 (by omega)
        obtain ⟨cs, hr, hat⟩ := hEm k m hm
        obtain ⟨rfl, hmh, hmp⟩ := madeLay_at.1 hat
        have hr1 : wo.rangeAt bm (om + k * 41) (mC m.1 m.2) := rangeAt_same hr (H3.out.2.1.block bm (by omega))
        have HM := hide (And.intro hm hr1)
        have hmU : m.1 ∈ c.U := mem_dd.2 (List.mem_append_right _ (List.mem_map.2 ⟨m, List.mem_of_getElem? hm, rfl⟩))
        have hmV : m.2 ∈ c.V := List.mem_append_right _ (List.mem_append_left _ (List.mem_map.2 ⟨m, List.mem_of_getElem? hm, rfl⟩))
        clear hm hr hat hEm hr1
        go_wp2_with (first | (refine wpList_value (o := ⟨some 23, _, _, _, _, _⟩) rfl (.pointer (some ⟨bm, om + (k : Int).toNat * 41, none⟩)) wo (exec_index_off (o := ⟨some 23, _, _, _, _, _⟩) 27 60 (.tmp 19) (.tmp 21) rfl bm om c.of.length capm (k : Int) .i64 rfl rfl ⟨k0, k1⟩ 41 Try.underlying27 sz_made wo) ?_; rw [show om + (k : Int).toNat * 41 = om + k * 41 by omega]) | (refine wpList_value (o := ⟨some 24, _, _, _, _, _⟩) rfl (.agg (mC m.1 m.2).toArray) wo (exec_load_mid (o := ⟨some 24, _, _, _, _, _⟩) 60 (.tmp 23) rfl bm (om + k * 41) rfl (mC m.1 m.2) _ wo HM.out.2 Try.underlying60 rfl (by have := msz hmh hmp; simpa using this)) ?_; simp only [Act.put, List.setIfInBounds_toArray, List.set_cons_zero, List.set_cons_succ]) | ((with_reducible refine wpList_box (o1 := ⟨some 7, _, _, _, _, _⟩) (o2 := ⟨none, _, _, _, _, _⟩) rfl rfl 60 (.tmp 7) (.tmp 24) ?_ zcM (mC m.1 m.2).toArray ?_ (msz hmh hmp) ?_ ?_ ?_ ?_ ?_); rfl; kernel_rfl; (simp only [List.size_toArray, mC_len hmh hmp]; kernel_rfl); exact all_oneCell_toArray (mC_one m.1 m.2); rfl; rfl; intro w3 hm3 hb3; have H4 := hide (And.intro hm3 hb3); clear hm3 hb3; dsimp only [Act.put]) | (refine wpList_value (o := ⟨some 26, _, _, _, _, _⟩) rfl (.agg (mC m.1 m.2).toArray) w3 (exec_load_blk (o := ⟨some 26, _, _, _, _, _⟩) 60 (.tmp 7) rfl wo.heap.size rfl 60 _ _ w3 H4.out.1 Try.underlying60 rfl (msz hmh hmp)) ?_))
        have hln := H3.out.2.2.1.lens hUl.1 hVl
        have hs3 := H3.out.1.below H4.out.2
        refine (name_any m.1 hmh m.2 hmp (hln.1 m.1) (hln.2.1 m.2) hln.2.2 hs3).mono ?_
        rintro e w4 ⟨rfl, S3, hl4, hq4⟩
        have H5 := hide (And.intro hl4 (And.intro (SLeft.belowB hs3 hl4) (And.intro (inv_name H3.out.2.2.1 hmU hmV hq4) (NameQ.fix hq4))))
        clear hl4 hq4 hs3 hln
        dsimp only
        go_wp2_with fail
        go_roundw
        case rel => exact ⟨k + 1, S3, by omega, by go_num, H5.out.1.1, (H3.out.2.1.trans (Below.mono H4.out.2 (by have := H3.out.2.1.size; have := H2.out.2.2.2.2.2.2.2.2.2.2; omega))).trans H5.out.2.1, by rw [names_next HM.out.1]; exact H5.out.2.2.1, by rw [H5.out.2.2.2.1]; exact H3.out.2.2.2.1, by rw [H5.out.2.2.2.2]; exact H3.out.2.2.2.2⟩
        case measure => simp [intOf]; omega
      · obtain rfl : k = c.of.length := by omega
        have hi3 := H3.out.2.2.1
        rw [List.take_length] at hi3
        have hkc := (H3.out.2.1.block w.heap.size (by omega)).trans H2.out.2.2.2.2.2.1
        have H4 := hide (And.intro H3.out.1 (And.intro H3.out.2.1 (And.intro hi3 (And.intro H3.out.2.2.2 hkc))))
        clear hi3 hkc
        go_wp2_with (first | (refine wpList_value (o := ⟨some 30, _, _, _, _, _⟩) rfl (.slice Af c.fixed.length capf) wo (exec_load_cell (o := ⟨some 30, _, _, _, _, _⟩) 24 (.tmp 29) rfl ⟨w.heap.size, 20, none⟩ rfl _ _ wo Try.underlying24 rfl (by have := (case_cells ho H4.out.2.2.2.2).1; rw [H2.out.2.2.2.2.2.2.2.2.1] at this; exact this)) ?_))
        go_loopw [32] (fun x wr => ∃ k S1, k ≤ c.fixed.length ∧ x = .int .i64 ((k : Nat) : Int) ∧ SAt (w.heap.size + 1) wr (w.heap.size + 1 + 1 + 1 + 1) (w.heap.size + 1) (w.heap.size + 1 + 1) (w.heap.size + 1 + 1 + 1) v S1 ∧ Below (w.heap.size + 1) w2 wr ∧ InvP v.own c.U c.V S1 (cntK true (fun _ => 0) c.fixed k) (namesM c.of) (there (cntK true (fun _ => 0) c.fixed k) (namesM c.of)) ∧ S1.steps = 0 ∧ S1.fuel = max f 0) (fun x _ => c.fixed.length - (intOf x).toNat)
        case atStart => exact ⟨0, S1, by omega, rfl, H4.out.1, H4.out.2.1, by rw [cntK_zero]; exact H4.out.2.2.1, H4.out.2.2.2.1⟩
        case round =>
          obtain ⟨wo, rfl⟩ : ∃ wo, wo = wr := ⟨_, rfl⟩
          obtain ⟨k, S1, hk, rfl, hs1, hbw1, hi1, hf1⟩ := hrel
          have H5 := hide (And.intro hs1 (And.intro hbw1 (And.intro hi1 hf1)))
          clear hs1 hbw1 hi1 hf1
          have k0 : (0 : Int) ≤ (k : Int) := by omega
          have k9 : (c.fixed.length : Int) ≤ 120 := by omega
          by_cases hk2 : k < c.fixed.length
          · have k1 : (k : Int) < (c.fixed.length : Int) := by omega
            obtain ⟨p, hp⟩ : ∃ p, c.fixed[k]? = some p := ⟨_, List.getElem?_eq_getElem hk2⟩
            obtain ⟨bf, of', rfl, hlf, hEf⟩ := H2.out.2.2.2.2.2.2.2.2.2.1 (by omega)
            obtain ⟨cs, hr, hat⟩ := hEf k p hp
            obtain ⟨rfl, hpo⟩ := pathLay_at.1 hat
            have hr1 : wo.rangeAt bf (of' + k * 21) (pC p) := rangeAt_same hr (H5.out.2.1.block bf (by omega))
            have HP := hide (And.intro hp hr1)
            have hpV : p ∈ c.V := List.mem_append_left _ (List.mem_of_getElem? hp)
            clear hp hr hat hEf hr1
            obtain ⟨w4, hw4⟩ : ∃ w4 : World → World, w4 = fun w3 => w3.alloc (.cells (pC p).toArray 53) := ⟨_, rfl⟩
            have HW4 := hide hw4
            clear hw4
            go_wp2_with (first | (refine wpList_value (o := ⟨some 34, _, _, _, _, _⟩) rfl (.pointer (some ⟨bf, of' + (k : Int).toNat * 21, none⟩)) wo (exec_index_off (o := ⟨some 34, _, _, _, _, _⟩) 24 53 (.tmp 30) (.tmp 32) rfl bf of' c.fixed.length capf (k : Int) .i64 rfl rfl ⟨k0, k1⟩ 21 Try.underlying24 sz_path wo) ?_; rw [show of' + (k : Int).toNat * 21 = of' + k * 21 by omega]) | (refine wpList_value (o := ⟨some 35, _, _, _, _, _⟩) rfl (.agg (pC p).toArray) wo (exec_load_mid (o := ⟨some 35, _, _, _, _, _⟩) 53 (.tmp 34) rfl bf (of' + k * 21) rfl (pC p) _ wo HP.out.2 Try.underlying53 rfl (by have := psz hpo; simpa using this)) ?_; simp only [Act.put, List.setIfInBounds_toArray, List.set_cons_zero, List.set_cons_succ]) | ((with_reducible refine wpList_box (o1 := ⟨some 9, _, _, _, _, _⟩) (o2 := ⟨none, _, _, _, _, _⟩) rfl rfl 53 (.tmp 9) (.tmp 35) ?_ zcP (pC p).toArray ?_ (psz hpo) ?_ ?_ ?_ ?_ ?_); rfl; kernel_rfl; (simp only [List.size_toArray, pC_len hpo]; kernel_rfl); exact all_oneCell_toArray (pC_one p); rfl; rfl; intro w3 hm3 hb3; have H6 := hide (And.intro hm3 hb3); clear hm3 hb3; dsimp only [Act.put]) | (refine wpList_value (o := ⟨some 37, _, _, _, _, _⟩) rfl (.agg (pC p).toArray) w3 (exec_load_blk (o := ⟨some 37, _, _, _, _, _⟩) 53 (.tmp 9) rfl wo.heap.size rfl 53 _ _ w3 H6.out.1 Try.underlying53 rfl (psz hpo)) ?_) | (refine wpList_value (o := ⟨some 38, _, _, _, _, _⟩) rfl (.slice (some ⟨w3.heap.size, 0, none⟩) 1 1) (w4 w3) (by rw [HW4.out]; exact exec_buildSliceP (o := ⟨some 38, _, _, _, _, _⟩) (v := .agg (pC p).toArray) 24 (.tmp 37) rfl rfl Try.underlying24 sz_path (by omega) (by omega) (z := .agg zcP) (fun w => by kernel_rfl) (by simp [Value.cells, pC_len hpo]) w3) ?_))
            have hb4 : Below w3.heap.size w3 (w4 w3) := by rw [HW4.out]; exact (Below.refl _ w3).alloc (Nat.le_refl _) _
            have hk4 : Blk (w4 w3) w3.heap.size 53 (pC p).toArray := by rw [HW4.out]; exact Blk.new _ _ _
            have hs4 := (H5.out.1.below H6.out.2).below hb4
            refine (put_any hUl hVl [p] (by simp) (fun q hq => by rw [List.mem_singleton.1 hq]; exact hpV) (cnt := cntK true (fun _ => 0) c.fixed k) (fun q => by have := pcnt_take c.fixed k q; have := pcnt_len c.fixed q; unfold cntK; simp; omega) _ (pths_one hk4 hpo (fun hf => by have := (H5.out.1.foot_lt hf).1; have := H6.out.2.size; omega)) hs4 H5.out.2.2.1).mono ?_
            rintro e w5 ⟨rfl, S5, hl5, hi5, hk5⟩
            rw [cntK_one HP.out.1] at hi5
            have H7 := hide (And.intro hl5 (And.intro (SLeft.belowB hs4 hl5) (And.intro hi5 (And.intro hk5 hb4))))
            clear hl5 hi5 hk5 hs4 hb4 hk4
            dsimp only
            go_wp2_with fail
            go_roundw
            case rel => exact ⟨k + 1, S5, by omega, by go_num, H7.out.1.1, (((H5.out.2.1.trans (Below.mono H6.out.2 (by have := H5.out.2.1.size; have := H2.out.2.2.2.2.2.2.2.2.2.2; omega))).trans (Below.mono H7.out.2.2.2.2 (by have := H5.out.2.1.size; have := H6.out.2.size; have := H2.out.2.2.2.2.2.2.2.2.2.2; omega)))).trans H7.out.2.1, H7.out.2.2.1, by rw [H7.out.2.2.2.1.2.2.1]; exact H5.out.2.2.2.1, by rw [H7.out.2.2.2.1.2.2.2]; exact H5.out.2.2.2.2⟩
            case measure => simp [intOf]; omega
          · obtain rfl : k = c.fixed.length := by omega
            go_wp2_with fail
            go_ret
            exact ⟨_, _, _, _, _, S1, rfl, by omega, H1.out.1.trans (Below.mono (H2.out.1.trans H5.out.2.1) (by omega)), H5.out.1, H5.out.2.2.1, H5.out.2.2.2⟩
end Go.Proofs.Ytfppddnfdinipaa
