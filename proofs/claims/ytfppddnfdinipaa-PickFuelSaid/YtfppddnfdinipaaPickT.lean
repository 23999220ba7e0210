/- package pick: Least. -/
import Derived.Test.YtfppddnfdinipaaPickR
namespace Go.Proofs.Ytfppddnfdinipaa
open Go Go.RowKit Go.Maps
set_option maxRecDepth 100000
theorem empty_any (A : Option Addr) (n cap : Nat) (w : World) : Calls Try.prog 46 #[.slice A n cap] w fun e w' => e = .returned (.bool (decide (n = 0))) ∧ w' = w := by
  have hn : ((n : Int) == 0) = decide (n = 0) := by
    by_cases h : n = 0
    · subst h; rfl
    · simp [h]
  go_enter Try.func46, Try.ntmps46
  go_wp2_with fail
  go_ret
  exact ⟨rfl, rfl⟩
theorem any_next {l : List (List Opt)} {k : Nat} {os : List Opt} (h : l[k]? = some os) : (l.take (k + 1)).any (·.isEmpty) = ((l.take k).any (·.isEmpty) || os.isEmpty) := by
  rw [List.take_add_one, h, List.any_append]
  simp
theorem idx_any (w : World) (B : Nat) (v : Value) (opts : List (List Opt)) (hO : rowsLay.At w B [v] opts) (hl : opts.length ≤ 100000) :
    Calls Try.prog 91 #[v, .func (.func 46) #[] #[]] w fun e w' => (∃ i : Int, e = .returned (.int .i64 i) ∧ (0 ≤ i ↔ opts.any (·.isEmpty) = true)) ∧ w' = w := by
  obtain ⟨Ao, capo, rfl, _, _, _, hAo⟩ := slice_open hO
  have HO := hide hAo
  clear hAo hO
  go_enter Try.func91, Try.ntmps91
  go_wp2_with fail
  go_loopw [8] (fun x wr => ∃ k, k ≤ opts.length ∧ x = .int .i64 ((k : Nat) : Int) ∧ wr = w ∧ (opts.take k).any (·.isEmpty) = false) (fun x _ => opts.length - (intOf x).toNat)
  case atStart => exact ⟨0, by omega, rfl, rfl, rfl⟩
  case round =>
    obtain ⟨k, hk, rfl, rfl, he⟩ := hrel
    have k0 : (0 : Int) ≤ (k : Int) := by omega
    have k9 : (opts.length : Int) ≤ 100000 := by omega
    by_cases hk2 : k < opts.length
    · have k1 : (k : Int) < (opts.length : Int) := by omega
      obtain ⟨os, hos⟩ : ∃ os, opts[k]? = some os := ⟨_, List.getElem?_eq_getElem hk2⟩
      obtain ⟨bo, offo, rfl, _, hE⟩ := HO.out (by omega)
      obtain ⟨cs, hr, hat⟩ := hE k os hos
      obtain ⟨vr, rfl, hat⟩ := rowLay_at hat
      obtain ⟨Ar, capr, rfl, _, _, _, _⟩ := slice_open hat
      have HR := hide (And.intro hr hos)
      have HE := hide he
      clear hE hr hat he hos
      go_wp2_with (first | (refine wpList_value (o := ⟨some 14, _, _, _, _, _⟩) rfl (.pointer (some ⟨bo, offo + (k : Int).toNat * 1, none⟩)) wr (exec_index_off (o := ⟨some 14, _, _, _, _, _⟩) 26 57 (.tmp 12) (.tmp 13) rfl bo offo opts.length capo (k : Int) .i64 rfl rfl ⟨k0, k1⟩ 1 Try.underlying26 sz_row wr) ?_; rw [show offo + (k : Int).toNat * 1 = offo + k by omega]) | (refine wpList_value (o := ⟨some 15, _, _, _, _, _⟩) rfl (.slice Ar os.length capr) wr (exec_load_cell (o := ⟨some 15, _, _, _, _, _⟩) 57 (.tmp 14) rfl ⟨bo, offo + k, none⟩ rfl _ _ wr Try.underlying57 rfl (by have h9 : wr.cell? ⟨bo, offo + k * 1 + 0, none⟩ = some (.slice Ar os.length capr) := HR.out.1 0 _ rfl; rwa [Nat.mul_one, Nat.add_zero] at h9)) ?_))
      refine (empty_any Ar os.length capr wr).mono ?_
      rintro e w2 ⟨rfl, rfl⟩
      dsimp only
      have hnx := any_next HR.out.2
      rw [HE.out, Bool.false_or] at hnx
      have HN := hide hnx
      clear hnx
      by_cases hz : os.length = 0
      · have hd : decide (os.length = 0) = true := by simp [hz]
        rw [hd]
        go_wp2_with fail
        go_ret
        refine ⟨⟨_, rfl, ⟨fun _ => ?_, fun _ => k0⟩⟩, rfl⟩
        obtain rfl := List.eq_nil_of_length_eq_zero hz
        exact List.any_eq_true.2 ⟨[], List.mem_of_getElem? HR.out.2, rfl⟩
      · have hd : decide (os.length = 0) = false := by simp [hz]
        rw [hd]
        go_wp2_with fail
        go_roundw
        case rel =>
          refine ⟨k + 1, by omega, by go_num, trivial, ?_⟩
          rw [HN.out]
          cases os with
          | nil => exact absurd rfl hz
          | cons x os => rfl
        case measure => simp [intOf]; omega
    · obtain rfl : k = opts.length := by omega
      rw [List.take_length] at he
      have HE := hide he
      clear he
      go_wp2_with fail
      go_ret
      exact ⟨⟨_, rfl, ⟨fun h => absurd h (by omega), fun h => by rw [HE.out] at h; cases h⟩⟩, rfl⟩
theorem containsE_any (w : World) (B : Nat) (v : Value) (opts : List (List Opt)) (hO : rowsLay.At w B [v] opts) (hl : opts.length ≤ 100000) :
    Calls Try.prog 47 #[v, .func (.func 46) #[] #[]] w fun e w' => e = .returned (.bool (opts.any (·.isEmpty))) ∧ w' = w := by
  have HO := hide hO
  clear hO
  go_enter Try.func47, Try.ntmps47
  go_wp2_with fail
  refine (idx_any w B v opts HO.out hl).mono ?_
  rintro e w2 ⟨⟨i, rfl, hi⟩, rfl⟩
  dsimp only
  go_wp2_with fail
  go_ret
  refine ⟨?_, rfl⟩
  show Ending.returned (Value.bool (decide (i ≥ 0))) = _
  rw [show decide (i ≥ 0) = opts.any (·.isEmpty) by rw [Bool.eq_iff_iff, decide_eq_true_iff, ← hi]]
set_option maxHeartbeats 4000000 in
theorem least_any (w : World) (v : Cvs) (c : CaseP) (hc : c.size ≤ 120) (hC : CaseAt w.heap.size w v c) (f : Int) (hf : -9223372036854775808 ≤ f ∧ f ≤ 9223372036854775807) :
    Calls Try.prog 13 #[.agg (caseC v).toArray, .int .i64 f] w fun e w' => ∃ u, e = .returned (.tuple #[u, .int .i64 (leastB c f).2.1, .int .i64 (leastB c f).2.2]) ∧ OwnI w.heap.size w' u (leastB c f).1 ∧ Below w.heap.size w w' := by
  obtain ⟨b1, b2, b3, b4, b5, b6, b7⟩ := CaseP.bounds hc
  have hUl : c.U.length ≤ 100000 ∧ ∀ h ∈ c.U, okH h := ⟨by omega, hC.okU⟩
  have hVl : c.V.length ≤ 100000 := by omega
  obtain ⟨w1, hw1⟩ : ∃ w1, w1 = w.alloc (.cells (caseC v).toArray 29) := ⟨_, rfl⟩
  have hb1 : Below w.heap.size w w1 := by rw [hw1]; exact (Below.refl _ w).alloc (Nat.le_refl _) _
  have hk1 : Blk w1 w.heap.size 29 (caseC v).toArray := by rw [hw1]; exact Blk.new _ _ _
  have hz1 : w1.heap.size = w.heap.size + 1 := by rw [hw1, size_alloc]
  have hC1 : CaseAt w.heap.size w1 v c := hC.alike fun k hk => hb1.block k hk
  have ho : okH v.own := by rw [hC.own]; exact hC.okO
  obtain ⟨Ao, capo, hvo, _, _, _, _⟩ := slice_open hC1.atO
  obtain ⟨Ac, capc, hvc, _, _, _, _⟩ := slice_open hC1.atC
  have hcells := case_cells ho hk1
  rw [hvo, hvc] at hcells
  have H1 := hide (And.intro hb1 (And.intro hk1 (And.intro hC1 (And.intro hcells (And.intro hvo hvc)))))
  have HW := hide hw1
  clear hb1 hk1 hC1 hC hvo hvc hcells hw1
  have o9 : (c.opts.length : Int) ≤ 120 := by omega
  have c9 : (c.cls.length : Int) ≤ 120 := by omega
  by_cases hne : c.opts.length = c.cls.length
  · have hcl : w1.cell? ⟨w.heap.size, 21, none⟩ = some (.slice Ac c.opts.length capc) := by rw [hne]; exact H1.out.2.2.2.1.2.1
    have HCL := hide hcl
    have HNE := hide hne
    clear hcl hne
    go_enter Try.func13, Try.ntmps13
    go_wp2_with (first | (refine wpList_value (o := ⟨some 11, _, _, _, _, _⟩) rfl (.slice Ao c.opts.length capo) w1 (by rw [← HW.out]; exact exec_load_cell (o := ⟨some 11, _, _, _, _, _⟩) 26 (.tmp 10) rfl ⟨w.heap.size, 22, none⟩ rfl _ _ w1 Try.underlying26 rfl H1.out.2.2.2.1.2.2.1) ?_) | (refine wpList_value (o := ⟨some 14, _, _, _, _, _⟩) rfl (.slice Ac c.opts.length capc) w1 (exec_load_cell (o := ⟨some 14, _, _, _, _, _⟩) 25 (.tmp 13) rfl ⟨w.heap.size, 21, none⟩ rfl _ _ w1 Try.underlying25 rfl HCL.out) ?_) | (refine wpList_value (o := ⟨some 19, _, _, _, _, _⟩) rfl (.slice Ao c.opts.length capo) w1 (exec_load_cell (o := ⟨some 19, _, _, _, _, _⟩) 26 (.tmp 18) rfl ⟨w.heap.size, 22, none⟩ rfl _ _ w1 Try.underlying26 rfl H1.out.2.2.2.1.2.2.1) ?_))
    have hO1 := H1.out.2.2.1.atO
    rw [H1.out.2.2.2.2.1] at hO1
    refine (containsE_any w1 _ _ c.opts hO1 (by omega)).mono ?_
    clear hO1
    rintro e w2 ⟨rfl, rfl⟩
    dsimp only
    cases hany : c.opts.any (·.isEmpty) with
    | true =>
      go_wp2_with fail
      go_ret3
      have e : leastB c f = ([], 0, 5) := by unfold leastB; rw [if_neg (fun h => h HNE.out), if_pos hany]
      rw [e]
      exact ⟨_, rfl, OwnI.nil _ _, H1.out.1⟩
    | false =>
      have HA := hide hany
      clear hany
      go_wp2_with ((refine wpList_value (o := ⟨some 22, _, _, _, _, _⟩) rfl (.agg (caseC v).toArray) w2 (exec_load_blk (o := ⟨some 22, _, _, _, _, _⟩) 29 (.tmp 2) rfl w.heap.size rfl 29 _ _ w2 H1.out.2.1 Try.underlying29 rfl (csz ho)) ?_))
      refine (over_any w2 v c hc (H1.out.2.2.1.widen (by omega)) f hf).mono ?_
      rintro e w3 ⟨B, s, cb, tb, hb, S, rfl, hB, hb3, hs3, hi3, hst, hfu⟩
      have hconf := (inv_bad hi3).trans (confl_iff (say_first c.fixed c.of))
      have hfrom := from_eq (own := v.own) (fuel := S.fuel) (c.cls.zip c.opts) (say_first c.fixed c.of) S.steps
      rw [H1.out.2.2.1.own] at hconf hfrom
      obtain ⟨bd, hbd⟩ : ∃ bd, bd = S.bad := ⟨_, rfl⟩
      rw [← hbd] at hconf
      have c27 : w3.cell? ⟨s, 27, none⟩ = some (.int .i64 bd) := by rw [hbd]; exact hs3.cells.2.2.2.2.2.2.2.2.1
      have H3 := hide (And.intro hB (And.intro hb3 (And.intro hs3 (And.intro hi3 (And.intro hst (And.intro hfu (And.intro hconf hfrom)))))))
      clear hB hb3 hs3 hi3 hst hfu hconf hfrom hbd
      dsimp only
      by_cases hb0 : 0 < bd
      · go_wp2_with fail
        go_ret3
        have e : leastB c f = ([], 0, 13) := by
          have hcl := H3.out.2.2.2.2.2.2.1.1 hb0
          unfold leastB
          rw [if_neg (fun h => h HNE.out), if_neg (by rw [HA.out]; simp), if_neg (by rw [hcl]; simp)]
        rw [e]
        exact ⟨_, rfl, OwnI.nil _ _, H1.out.1.trans (Below.mono H3.out.2.1 (by omega))⟩
      · go_wp2_with fail
        have hC3 : CaseAt B w3 v c := (H1.out.2.2.1.alike fun k hk => H3.out.2.1.block k (by omega)).widen (by have := H3.out.1; omega)
        have hsz3 := H3.out.2.1.size
        refine (from_any (N := w.heap.size) hUl hVl (c.cls.zip c.opts) (cnt0 c.fixed) (namesM c.of) S w3 [] (.slice none 0 0) (by simp) (by simp) (fun q => by have := pcnt_len c.fixed q; rw [cnt0_eq, List.length_zip]; omega) (hC3.ok hc HNE.out) (OwnI.nil _ _) (fun k hk => by cases hk) (by omega) H3.out.2.2.1 H3.out.2.2.2.1 (by rw [H3.out.2.2.2.2.1]; omega) (by rw [H3.out.2.2.2.2.2.1]; omega)).mono ?_
        rintro e w4 ⟨u, rfl, S4, hl4, hi4, hs4, hp4, hf4, hr4, hn4⟩
        rw [H1.out.2.2.1.own, H3.out.2.2.2.2.2.2.2] at hs4 hr4 hn4
        rw [H1.out.2.2.1.own, H3.out.2.2.2.2.2.2.2]
        rw [H3.out.2.2.2.2.1, H3.out.2.2.2.2.2.1] at hs4 hr4 hn4 ⊢
        have e : leastB c f = ((fromB c.own (max f 0) (c.cls.zip c.opts) c.fixed c.of 0).1.row, (fromB c.own (max f 0) (c.cls.zip c.opts) c.fixed c.of 0).2, (fromB c.own (max f 0) (c.cls.zip c.opts) c.fixed c.of 0).1.code) := by
          have hcl : cleanB c.own c.fixed c.of = true := by
            cases h : cleanB c.own c.fixed c.of with
            | true => rfl
            | false =>
              have := H3.out.2.2.2.2.2.2.1.2 h
              omega
          unfold leastB
          rw [if_neg (fun h => h HNE.out), if_neg (by rw [HA.out]; simp), if_pos hcl]
        generalize fromB c.own (max f 0) (c.cls.zip c.opts) c.fixed c.of 0 = R at hs4 hr4 hn4 e ⊢
        obtain ⟨R, m⟩ := R
        have HE := hide e
        clear e
        have hs28 : w4.cell? ⟨s, 28, none⟩ = some (.int .i64 m) := by have := hl4.1.cells.2.2.2.2.2.2.2.2.2.1; rw [hs4] at this; exact this
        have hown : OwnI w.heap.size w4 u R.row := by
          cases R with
          | ok l => exact (hr4 l rfl).1
          | fuel => rw [hn4 (fun l h => by cases h)]; exact OwnI.nil _ _
          | conflict => rw [hn4 (fun l h => by cases h)]; exact OwnI.nil _ _
        have hb4 : Below w.heap.size w w4 := H1.out.1.trans ((Below.mono H3.out.2.1 (by omega)).trans (Below.mono (SLeft.belowB H3.out.2.2.1 hl4) (by have := H3.out.1; omega)))
        have H4 := hide (And.intro hown (And.intro hb4 hs28))
        clear hl4 hi4 hs4 hp4 hf4 hr4 hn4 hown hb4 hs28 hC3 hsz3
        dsimp only
        go_wp2_with fail
        refine Fre.wp_made (X := Blw) 8 [] (by kernel_rfl) (by kernel_rfl) (by simp) (by simp) (by simp) ?_
        simp only [List.take_succ_cons, List.take_zero, List.drop_succ_cons, List.drop_zero]
        refine Fre.made_val (u) (by kernel_rfl) (by kernel_rfl) (by kernel_rfl) (fun _ _ => by kernel_rfl) ?_
        simp only [Act.put, List.setIfInBounds_toArray, List.set_cons_zero, List.set_cons_succ]
        refine Fre.made_val (.pointer (some ⟨s, 0, none⟩)) (by kernel_rfl) (by kernel_rfl) (by kernel_rfl) (fun _ _ => by kernel_rfl) ?_
        simp only [Act.put, List.setIfInBounds_toArray, List.set_cons_zero, List.set_cons_succ]
        refine Fre.made_val (.pointer (some ⟨s, 0, none⟩)) (by kernel_rfl) (by kernel_rfl) (by kernel_rfl) (fun _ _ => by kernel_rfl) ?_
        simp only [Act.put, List.setIfInBounds_toArray, List.set_cons_zero, List.set_cons_succ]
        refine Fre.made_val (.pointer (some ⟨s, 28, none⟩)) (by kernel_rfl) (by kernel_rfl) (by kernel_rfl) (fun _ _ => by kernel_rfl) ?_
        simp only [Act.put, List.setIfInBounds_toArray, List.set_cons_zero, List.set_cons_succ]
        refine Fre.made_val (.int .i64 m) (by kernel_rfl) (by kernel_rfl) (by kernel_rfl) (fun W9 hW9 => exec_load_cell (o := ⟨some 39, _, _, _, _, _⟩) 3 (.tmp 38) rfl ⟨s, 28, none⟩ rfl _ _ W9 Try.underlying3 rfl (by have hb9 : Below w4.heap.size w4 W9 := hW9; rw [World.cell?_of_block (hb9.block s (World.block_lt_of_cell? w4 _ H4.out.2.2))]; exact H4.out.2.2)) ?_
        simp only [Act.put, List.setIfInBounds_toArray, List.set_cons_zero, List.set_cons_succ]
        refine Fre.made_val (.int .i64 R.code) (by kernel_rfl) (by kernel_rfl) (by kernel_rfl) (fun _ _ => by kernel_rfl) ?_
        simp only [Act.put, List.setIfInBounds_toArray, List.set_cons_zero, List.set_cons_succ]
        refine Fre.made_val (u) (by kernel_rfl) (by kernel_rfl) (by kernel_rfl) (fun _ _ => by kernel_rfl) ?_
        simp only [Act.put, List.setIfInBounds_toArray, List.set_cons_zero, List.set_cons_succ]
        refine Fre.made_val (.int .i64 m) (by kernel_rfl) (by kernel_rfl) (by kernel_rfl) (fun _ _ => by kernel_rfl) ?_
        simp only [Act.put, List.setIfInBounds_toArray, List.set_cons_zero, List.set_cons_succ]
        show ∀ w', _ → _
        intro w5 hb5
        simp only [Fre.ended]
        have H5 := hide (show Below w4.heap.size w4 w5 from hb5)
        clear hb5
        go_wp2_with fail
        go_ret3
        rw [HE.out]
        exact ⟨u, rfl, owned_keepN H4.out.1 fun g _ hl => H5.out.block g hl, H4.out.2.1.trans (Below.mono H5.out H4.out.2.1.size)⟩
  · have hni : ¬ (c.opts.length : Int) = (c.cls.length : Int) := by omega
    go_enter Try.func13, Try.ntmps13
    go_wp2_with (first | (refine wpList_value (o := ⟨some 11, _, _, _, _, _⟩) rfl (.slice Ao c.opts.length capo) w1 (by rw [← HW.out]; exact exec_load_cell (o := ⟨some 11, _, _, _, _, _⟩) 26 (.tmp 10) rfl ⟨w.heap.size, 22, none⟩ rfl _ _ w1 Try.underlying26 rfl H1.out.2.2.2.1.2.2.1) ?_) | (refine wpList_value (o := ⟨some 14, _, _, _, _, _⟩) rfl (.slice Ac c.cls.length capc) w1 (exec_load_cell (o := ⟨some 14, _, _, _, _, _⟩) 25 (.tmp 13) rfl ⟨w.heap.size, 21, none⟩ rfl _ _ w1 Try.underlying25 rfl H1.out.2.2.2.1.2.1) ?_))
    go_ret3
    have e : leastB c f = ([], 0, 2) := by unfold leastB; rw [if_pos hne]
    rw [e]
    exact ⟨_, rfl, OwnI.nil _ _, H1.out.1⟩
end Go.Proofs.Ytfppddnfdinipaa
