/- package pick: the undoing as a deferred call. -/
import Derived.Test.YtfppddnfdinipaaPickL
import Derived.Defers
namespace Go.Proofs.Ytfppddnfdinipaa
open Go Go.RowKit Go.Maps
set_option maxRecDepth 100000
set_option maxHeartbeats 4000000 in
theorem undo_d {B : Nat} (u : FrameMode) {w : World} {s cb tb hb : Nat} {c : Cvs} {S : Sst} {U : List Hsh} {V : List Pth} {cnt : Pth → Nat} {M : Pth → List Hsh} (hU : U.length ≤ 100000 ∧ ∀ h ∈ U, okH h) (hV : V.length ≤ 100000)
    (h : Hsh) (hh : okH h) (p : Pth) (hp : okP p) (hpV : p ∈ V) (cl : List Pth) (hcl : cl.length ≤ 400000) (hclV : ∀ q ∈ cl, q ∈ V) (v : Value) (hv : pathsLay.At w B [v] cl) (hc : ∀ q, cnt q ≤ 400000) (b8 b3 b7 b5 : Nat) (hu : UndoAt w (S.foot s cb tb hb) s b8 b3 b7 b5 (!hasH (M p) h) h p v) (hS : SAt B w s cb tb hb c S) (hI : InvP c.own U V S (cntC cnt p cl) (nameM M p h) (there (cntC cnt p cl) (nameM M p h))) :
    CallsD Try.prog 118 #[.pointer (some ⟨b8, 0, none⟩), .pointer (some ⟨b3, 0, none⟩), .pointer (some ⟨b7, 0, none⟩), .pointer (some ⟨b5, 0, none⟩)] u w fun e u' w' => u' = u ∧ (e = .returned (.tuple #[]) ∧ ∃ S', SLeft B w s cb tb hb c S S' w' ∧ InvP c.own U V S' cnt M (there cnt M) ∧ (S'.steps = S.steps ∧ S'.fuel = S.fuel)) := by
  have H0 := hide (And.intro hS (And.intro hI hu))
  have HV := hide hv
  have hBw : B ≤ w.heap.size := by have := hS.blk.lt; have := hS.low.1; omega
  have HBW := hide hBw
  clear hS hI hu hv hBw
  obtain ⟨nm, hnm⟩ : ∃ nm, nm = (!hasH (M p) h) := ⟨_, rfl⟩
  have hu8 := H0.out.2.2.k8
  rw [← hnm] at hu8
  have HU8 := hide hu8
  clear hu8
  go_enter_d Try.func118, Try.ntmps118
  cases nm with
  | true =>
    have hno : hasH (M p) h = false := by
      cases hq : hasH (M p) h with
      | true => rw [hq] at hnm; cases hnm
      | false => rfl
    have HNB := hide (name_back hno)
    clear hno hnm
    have hln := H0.out.2.1.lens hU.1 hV
    have hl0 : 0 < (clsL S p).length := by rw [H0.out.2.1.cls p, HNB.out.1]; simp
    go_wp2_with (first | (refine wpList_value (o := ⟨some 4, _, _, _, _, _⟩) rfl (.bool true) w (exec_load_cell (o := ⟨some 4, _, _, _, _, _⟩) 4 (.tmp 0) rfl ⟨b8, 0, none⟩ rfl _ _ w Try.underlying4 rfl (by have h9 := HU8.out; rw [h9.cell]; rfl)) ?_) | (refine wpList_value (o := ⟨some 5, _, _, _, _, _⟩) rfl (.pointer (some ⟨s, 0, none⟩)) w (exec_load_cell (o := ⟨some 5, _, _, _, _, _⟩) 98 (.tmp 1) rfl ⟨b3, 0, none⟩ rfl _ _ w Try.underlying98 rfl (by have h9 := H0.out.2.2.hold.k3; rw [h9.cell]; rfl)) ?_) | (refine wpList_value (o := ⟨some 6, _, _, _, _, _⟩) rfl (.agg (mC h p).toArray) w (exec_load_blk (o := ⟨some 6, _, _, _, _, _⟩) 60 (.tmp 2) rfl b7 rfl 60 _ _ w H0.out.2.2.hold.k7 Try.underlying60 rfl (by rw [sz_made, List.size_toArray, List.length_append, bvL, pC_len hp, show h.length = 20 from hh])) ?_))
    refine (unname_any h hh p hp (hln.1 h) ⟨hl0, hln.2.1 p⟩ hln.2.2 H0.out.1).mono ?_
    rintro e w4 ⟨rfl, S0, hl4, hq4⟩
    have hi4 := inv_unname H0.out.2.1 HNB.out.1 hq4
    rw [HNB.out.2] at hi4
    have H4 := hide (And.intro hl4 (And.intro hi4 (And.intro hq4.fix (H0.out.2.2.hold.left hl4))))
    clear hl4 hi4 hq4 hln hl0
    dsimp only
    obtain ⟨w5, hw5⟩ : ∃ w5, w5 = w4.alloc (.cells (pC p).toArray 53) := ⟨_, rfl⟩
    have hb5 : Below w4.heap.size w4 w5 := by rw [hw5]; exact (Below.refl _ w4).alloc (Nat.le_refl _) _
    have hk : Blk w5 w4.heap.size 53 (pC p).toArray := by rw [hw5]; exact Blk.new _ _ _
    have H5 := hide (And.intro hk (And.intro (H4.out.2.2.2.below hb5) hb5))
    have HW5 := hide hw5
    clear hw5 hk hb5
    go_wp2_with (first | (refine wpList_value (o := ⟨some 8, _, _, _, _, _⟩) rfl (.pointer (some ⟨s, 0, none⟩)) w4 (exec_load_cell (o := ⟨some 8, _, _, _, _, _⟩) 98 (.tmp 1) rfl ⟨b3, 0, none⟩ rfl _ _ w4 Try.underlying98 rfl (by have h9 := H4.out.2.2.2.k3; rw [h9.cell]; rfl)) ?_) | (refine wpList_value (o := ⟨some 10, _, _, _, _, _⟩) rfl (.agg (pC p).toArray) w4 (exec_load_mid (o := ⟨some 10, _, _, _, _, _⟩) 53 (.tmp 9) rfl b5 0 rfl (pC p) _ w4 (opt_p H4.out.2.2.2.k5) Try.underlying53 rfl (by have := psz hp; simpa using this)) ?_; simp only [Act.put, List.setIfInBounds_toArray, List.set_cons_zero, List.set_cons_succ]) | (refine wpList_value (o := ⟨some 11, _, _, _, _, _⟩) rfl (.slice (some ⟨w4.heap.size, 0, none⟩) 1 1) w5 (by rw [HW5.out]; exact exec_buildSliceP (o := ⟨some 11, _, _, _, _, _⟩) (v := .agg (pC p).toArray) 24 (.tmp 10) rfl rfl Try.underlying24 sz_path (by omega) (by omega) (z := .agg zcP) (fun w => by kernel_rfl) (by simp [Value.cells, pC_len hp]) w4) ?_))
    refine (take_any hU hV [p] (by simp) (fun q hq => by rw [List.mem_singleton.1 hq]; exact hpV) (cnt := cntC cnt p cl) (fun q => by rw [cntC_eq]; omega) (fun q => by rw [cntC_eq]; have := hc q; have := pcnt_len [p] q; have := pcnt_len cl q; simp at *; omega) _ (pths_one H5.out.1 hp (fun hf => by have := (H4.out.1.1.foot_lt hf).1; omega)) (H4.out.1.1.below H5.out.2.2) H4.out.2.1).mono ?_
    rintro e w6 ⟨rfl, S1, hl6, hI6, hk6⟩
    have H6 := hide (And.intro (H4.out.1.trans (SLeft.from H5.out.2.2 hl6)) (And.intro hI6 (And.intro hk6 (H5.out.2.1.left hl6))))
    clear hl6 hI6 hk6
    dsimp only
    have hv6 := pathsLay.alike HV.out (SLeft.alike H0.out.1 H6.out.1)
    have hpt := pths_of (F := S1.foot s cb tb hb) hv6 (by have := HBW.out; have := H6.out.1.2.1.size; omega) H6.out.1.1.foot_low
    have HPT := hide hpt
    clear hv6 hpt
    go_wp2_with (first | (refine wpList_value (o := ⟨some 13, _, _, _, _, _⟩) rfl (.pointer (some ⟨s, 0, none⟩)) w6 (exec_load_cell (o := ⟨some 13, _, _, _, _, _⟩) 98 (.tmp 1) rfl ⟨b3, 0, none⟩ rfl _ _ w6 Try.underlying98 rfl (by have h9 := H6.out.2.2.2.k3; rw [h9.cell]; rfl)) ?_) | (refine wpList_value (o := ⟨some 15, _, _, _, _, _⟩) rfl v w6 (exec_load_cell (o := ⟨some 15, _, _, _, _, _⟩) 24 (.tmp 14) rfl ⟨b5, 21, none⟩ rfl _ _ w6 Try.underlying24 rfl (opt_v H6.out.2.2.2.k5 hp)) ?_))
    refine (take_any hU hV cl (by omega) hclV (cnt := cntK false (cntC cnt p cl) [p] 1) (fun q => by rw [cnt_mid]; omega) (fun q => by rw [cnt_mid]; have := hc q; have := pcnt_len cl q; omega) v HPT.out H6.out.1.1 H6.out.2.1).mono ?_
    rintro e w7 ⟨rfl, S2, hl7, hI7, hk7⟩
    dsimp only
    go_wp2_with fail
    go_end0
    rw [cnt_back] at hI7
    exact ⟨rfl, S2, H6.out.1.trans hl7, hI7, hk7.2.2.1.trans (H6.out.2.2.1.2.2.1.trans H4.out.2.2.1.1), hk7.2.2.2.trans (H6.out.2.2.1.2.2.2.trans H4.out.2.2.1.2)⟩
  | false =>
    have hno : hasH (M p) h = true := by
      cases hq : hasH (M p) h with
      | false => rw [hq] at hnm; cases hnm
      | true => rfl
    clear hnm
    obtain ⟨w4, rfl⟩ : ∃ w4, w4 = w := ⟨_, rfl⟩
    have hi4 := H0.out.2.1
    have hM : nameM M p h = M := by unfold nameM; rw [if_pos hno]
    rw [hM] at hi4
    have H4 := hide (And.intro (SLeft.refl H0.out.1) (And.intro hi4 (And.intro (And.intro rfl rfl : S.steps = S.steps ∧ S.fuel = S.fuel) H0.out.2.2.hold)))
    clear hi4 hM hno
    obtain ⟨w5, hw5⟩ : ∃ w5, w5 = w4.alloc (.cells (pC p).toArray 53) := ⟨_, rfl⟩
    have hb5 : Below w4.heap.size w4 w5 := by rw [hw5]; exact (Below.refl _ w4).alloc (Nat.le_refl _) _
    have hk : Blk w5 w4.heap.size 53 (pC p).toArray := by rw [hw5]; exact Blk.new _ _ _
    have H5 := hide (And.intro hk (And.intro (H4.out.2.2.2.below hb5) hb5))
    have HW5 := hide hw5
    clear hw5 hk hb5
    go_wp2_with (first | (refine wpList_value (o := ⟨some 4, _, _, _, _, _⟩) rfl (.bool false) w4 (exec_load_cell (o := ⟨some 4, _, _, _, _, _⟩) 4 (.tmp 0) rfl ⟨b8, 0, none⟩ rfl _ _ w4 Try.underlying4 rfl (by have h9 := HU8.out; rw [h9.cell]; rfl)) ?_) | (refine wpList_value (o := ⟨some 8, _, _, _, _, _⟩) rfl (.pointer (some ⟨s, 0, none⟩)) w4 (exec_load_cell (o := ⟨some 8, _, _, _, _, _⟩) 98 (.tmp 1) rfl ⟨b3, 0, none⟩ rfl _ _ w4 Try.underlying98 rfl (by have h9 := H4.out.2.2.2.k3; rw [h9.cell]; rfl)) ?_) | (refine wpList_value (o := ⟨some 10, _, _, _, _, _⟩) rfl (.agg (pC p).toArray) w4 (exec_load_mid (o := ⟨some 10, _, _, _, _, _⟩) 53 (.tmp 9) rfl b5 0 rfl (pC p) _ w4 (opt_p H4.out.2.2.2.k5) Try.underlying53 rfl (by have := psz hp; simpa using this)) ?_; simp only [Act.put, List.setIfInBounds_toArray, List.set_cons_zero, List.set_cons_succ]) | (refine wpList_value (o := ⟨some 11, _, _, _, _, _⟩) rfl (.slice (some ⟨w4.heap.size, 0, none⟩) 1 1) w5 (by rw [HW5.out]; exact exec_buildSliceP (o := ⟨some 11, _, _, _, _, _⟩) (v := .agg (pC p).toArray) 24 (.tmp 10) rfl rfl Try.underlying24 sz_path (by omega) (by omega) (z := .agg zcP) (fun w => by kernel_rfl) (by simp [Value.cells, pC_len hp]) w4) ?_))
    refine (take_any hU hV [p] (by simp) (fun q hq => by rw [List.mem_singleton.1 hq]; exact hpV) (cnt := cntC cnt p cl) (fun q => by rw [cntC_eq]; omega) (fun q => by rw [cntC_eq]; have := hc q; have := pcnt_len [p] q; have := pcnt_len cl q; simp at *; omega) _ (pths_one H5.out.1 hp (fun hf => by have := (H4.out.1.1.foot_lt hf).1; omega)) (H4.out.1.1.below H5.out.2.2) H4.out.2.1).mono ?_
    rintro e w6 ⟨rfl, S1, hl6, hI6, hk6⟩
    have H6 := hide (And.intro (H4.out.1.trans (SLeft.from H5.out.2.2 hl6)) (And.intro hI6 (And.intro hk6 (H5.out.2.1.left hl6))))
    clear hl6 hI6 hk6
    dsimp only
    have hv6 := pathsLay.alike HV.out (SLeft.alike H0.out.1 H6.out.1)
    have hpt := pths_of (F := S1.foot s cb tb hb) hv6 (by have := HBW.out; have := H6.out.1.2.1.size; omega) H6.out.1.1.foot_low
    have HPT := hide hpt
    clear hv6 hpt
    go_wp2_with (first | (refine wpList_value (o := ⟨some 13, _, _, _, _, _⟩) rfl (.pointer (some ⟨s, 0, none⟩)) w6 (exec_load_cell (o := ⟨some 13, _, _, _, _, _⟩) 98 (.tmp 1) rfl ⟨b3, 0, none⟩ rfl _ _ w6 Try.underlying98 rfl (by have h9 := H6.out.2.2.2.k3; rw [h9.cell]; rfl)) ?_) | (refine wpList_value (o := ⟨some 15, _, _, _, _, _⟩) rfl v w6 (exec_load_cell (o := ⟨some 15, _, _, _, _, _⟩) 24 (.tmp 14) rfl ⟨b5, 21, none⟩ rfl _ _ w6 Try.underlying24 rfl (opt_v H6.out.2.2.2.k5 hp)) ?_))
    refine (take_any hU hV cl (by omega) hclV (cnt := cntK false (cntC cnt p cl) [p] 1) (fun q => by rw [cnt_mid]; omega) (fun q => by rw [cnt_mid]; have := hc q; have := pcnt_len cl q; omega) v HPT.out H6.out.1.1 H6.out.2.1).mono ?_
    rintro e w7 ⟨rfl, S2, hl7, hI7, hk7⟩
    dsimp only
    go_wp2_with fail
    go_end0
    rw [cnt_back] at hI7
    exact ⟨rfl, S2, H6.out.1.trans hl7, hI7, hk7.2.2.1.trans (H6.out.2.2.1.2.2.1), hk7.2.2.2.trans (H6.out.2.2.1.2.2.2)⟩
end Go.Proofs.Ytfppddnfdinipaa
