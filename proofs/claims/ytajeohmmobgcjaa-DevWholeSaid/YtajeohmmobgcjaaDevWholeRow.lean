/- spencelaw04.DevWhole is true of every input, and leaves all as it was. No condition. -/
import Derived.Test.YtajeohmmobgcjaaDevWhole
import Derived.Test.YtajeohmmobgcjaaRowDeeds
namespace Go.Proofs.Ytajeohmmobgcjaa
open Go Go.ChangeShapes Go.WideShapes Go.ChangeAt Go.RowKit
theorem Try.ownK : ownKnob Try.prog.godebug = none := by kernel_rfl
set_option maxRecDepth 100000
set_option maxHeartbeats 1000000 in
theorem devWhole_out (s x : Int) (f t : List Deed) (fcap tcap : Nat) (fA tA : Option Addr) (w : World) (hfl : f.length ≤ 140737488355328) (htl : t.length ≤ 140737488355328) (hbf : ∀ p ∈ f, p.b.length ≤ 140737488355328) (hbt : ∀ p ∈ t, p.b.length ≤ 140737488355328)
    (hf : DeedsM w w.heap.size (.slice fA f.length fcap) f) (ht : DeedsM w w.heap.size (.slice tA t.length tcap) t) (h : s < 1 ∨ greatB s f = true ∨ greatB s t = true ∨ 60 < s) :
    Calls Try.prog 5 #[.int .i64 s, .slice fA f.length fcap, .slice tA t.length tcap, .int .i64 x] w fun e w' => e = .returned (.bool true) ∧ Below w.heap.size w w' := by
  have HF := hide hf
  have HT := hide ht
  have HBS := hide (And.intro (And.intro hfl htl) (And.intro hbf hbt))
  clear hf ht hfl htl hbf hbt
  by_cases h1 : s < 1
  · clear h
    go_enter Try.func5, Try.ntmps5
    go_wp2_with fail
    refine (awake4_any _).mono ?_
    rintro e wa ⟨rfl, hba⟩
    have HA := hide hba
    clear hba
    dsimp only
    go_wp2_with fail
    go_ret
    exact ⟨rfl, HA.out⟩
  · cases hg1 : greatB s f with
    | true =>
      clear h
      have hs1 : 1 ≤ s := by omega
      have HG := hide hg1
      clear hg1
      go_enter Try.func5, Try.ntmps5
      go_wp2_with fail
      refine (awake4_any _).mono ?_
      rintro e wa ⟨rfl, hba⟩
      have HA := hide hba
      have HF1 := hide (HF.out.alike (alike_of_below hba))
      clear hba
      dsimp only
      go_wp2_with fail
      refine (great_any s f HBS.out.1.1 HBS.out.2.1 _ _ _ HF1.out).mono ?_
      rintro e w1 ⟨rfl, rfl⟩
      rw [HG.out]
      dsimp only
      go_wp2_with fail
      go_ret
      exact ⟨rfl, HA.out⟩
    | false =>
      cases hg2 : greatB s t with
      | true =>
        clear h
        have hs1 : 1 ≤ s := by omega
        have HG := hide (And.intro hg1 hg2)
        clear hg1 hg2
        go_enter Try.func5, Try.ntmps5
        go_wp2_with fail
        refine (awake4_any _).mono ?_
        rintro e wa ⟨rfl, hba⟩
        have HA := hide hba
        have HF1 := hide (HF.out.alike (alike_of_below hba))
        have HT1 := hide (HT.out.alike (alike_of_below hba))
        clear hba
        dsimp only
        go_wp2_with fail
        refine (great_any s f HBS.out.1.1 HBS.out.2.1 _ _ _ HF1.out).mono ?_
        rintro e w1 ⟨rfl, rfl⟩
        rw [HG.out.1]
        dsimp only
        go_wp2_with fail
        refine (great_any s t HBS.out.1.2 HBS.out.2.2 _ _ _ HT1.out).mono ?_
        rintro e w2 ⟨rfl, rfl⟩
        rw [HG.out.2]
        dsimp only
        go_wp2_with fail
        go_ret
        exact ⟨rfl, HA.out⟩
      | false =>
        have hs2 : 60 < s := by
          rw [hg1, hg2] at h
          rcases h with h | h | h | h
          · exact absurd h h1
          · cases h
          · cases h
          · exact h
        clear h
        have hs1 : 1 ≤ s := by omega
        have HG := hide (And.intro hg1 hg2)
        clear hg1 hg2
        go_enter Try.func5, Try.ntmps5
        go_wp2_with fail
        refine (awake4_any _).mono ?_
        rintro e wa ⟨rfl, hba⟩
        have HA := hide hba
        have HF1 := hide (HF.out.alike (alike_of_below hba))
        have HT1 := hide (HT.out.alike (alike_of_below hba))
        clear hba
        dsimp only
        go_wp2_with fail
        refine (great_any s f HBS.out.1.1 HBS.out.2.1 _ _ _ HF1.out).mono ?_
        rintro e w1 ⟨rfl, rfl⟩
        rw [HG.out.1]
        dsimp only
        go_wp2_with fail
        refine (great_any s t HBS.out.1.2 HBS.out.2.2 _ _ _ HT1.out).mono ?_
        rintro e w2 ⟨rfl, rfl⟩
        rw [HG.out.2]
        dsimp only
        go_wp2_with fail
        go_ret
        exact ⟨rfl, HA.out⟩
theorem devWhole_any (s x : Int) (f t : List Deed) (fcap tcap : Nat) (fA tA : Option Addr) (w : World) (hx : -9223372036854775808 ≤ x ∧ x ≤ 9223372036854775807) (hfl : f.length ≤ 140737488355328) (htl : t.length ≤ 140737488355328) (hbf : ∀ p ∈ f, p.b.length ≤ 140737488355328) (hbt : ∀ p ∈ t, p.b.length ≤ 140737488355328)
    (hf : DeedsM w w.heap.size (.slice fA f.length fcap) f) (ht : DeedsM w w.heap.size (.slice tA t.length tcap) t) :
    Calls Try.prog 5 #[.int .i64 s, .slice fA f.length fcap, .slice tA t.length tcap, .int .i64 x] w fun e w' => e = .returned (.bool true) ∧ Below w.heap.size w w' := by
  by_cases h : s < 1 ∨ greatB s f = true ∨ greatB s t = true ∨ 60 < s
  · exact devWhole_out s x f t fcap tcap fA tA w hfl htl hbf hbt hf ht h
  · have h1 : greatB s f = false := by
      cases hg : greatB s f with
      | false => rfl
      | true => exact absurd (.inr (.inl hg)) h
    have h2 : greatB s t = false := by
      cases hg : greatB s t with
      | false => rfl
      | true => exact absurd (.inr (.inr (.inl hg))) h
    have h3 : ¬ s < 1 := fun e => h (.inl e)
    have h4 : ¬ 60 < s := fun e => h (.inr (.inr (.inr e)))
    obtain ⟨n, rfl⟩ : ∃ n : Nat, s = (n : Int) := ⟨s.toNat, by omega⟩
    exact devWhole_in n x f t fcap tcap fA tA w (by omega) hx hf ht h1 h2
theorem devWhole_lifted (os : Os) (started : os.Started) (H : Type) (enc : TypeId × Value → H) :
    ReturnsInHanded {} Try.checked os 5 .any (Rows.devWholeSpec.pre6 enc Try.prog Try.f5 Rows.devWholeRow.domain false) (Rows.devWholeSpec.post enc Try.prog Try.f5 false true false false) := by
  refine returnsInHanded_of_change_sized (C := Try.checked) Try.ownK started (by kernel_rfl) Try.func5
    (ChangeSpec.witness6 (enc := enc) (C := Try.checked) false ⟨#[], #[.int .i64 0, .slice none 0 0, .slice none 0 0, .int .i64 0], []⟩ 8 (by kernel_rfl) (by kernel_rfl) (by kernel_rfl) (by kernel_rfl)) ?_
  intro W base args ds gs before hval0 hW _ hsz0 _
  have hval : ∀ (j : Nat) t v, Try.f5.params[j]? = some t → args[j]? = some v → Value.okWide Try.prog W .any base t v := hval0
  have hsz : (DataW.weightsEach Try.prog (Try.f5.params.toList ++ []) (ds ++ gs)).all (· ≤ reachBytes) = true := hsz0
  have hW' := hW
  obtain ⟨p, q, hA0, hV, rfl, hfz, hnd⟩ := hW
  have hA : DataW.TrodAll enc Try.prog W 0 (fun _ => true) true Try.f5.params.toList args.toList ds p := hA0
  rw [Try.params5] at hA hval hsz
  obtain ⟨v0, v1, v2, v3, d0, d1, d2, d3, p0, p1, p2, p3, rfl, rfl, rfl, h0, h1, h2, h3⟩ := trodAll_four hA
  obtain ⟨rfl, rfl⟩ := trodVars_none hV
  obtain ⟨s, rfl, rfl, rfl, _⟩ := open_int Try.underlying3 (hval 0 3 v0 rfl rfl) h0
  obtain ⟨x, rfl, rfl, rfl, wx⟩ := open_int Try.underlying3 (hval 3 3 v3 rfl rfl) h3
  have hs1 : ∀ n ∈ d1.weights Try.prog 41, n ≤ reachBytes := fun n hn => by
    have h := List.all_eq_true.1 hsz n (DataW.weights_mem_each (j := 1) (t := 41) (d := d1) rfl rfl n hn)
    simpa using h
  have hs2 : ∀ n ∈ d2.weights Try.prog 41, n ≤ reachBytes := fun n hn => by
    have h := List.all_eq_true.1 hsz n (DataW.weights_mem_each (j := 2) (t := 41) (d := d2) rfl rfl n hn)
    simpa using h
  obtain ⟨fA, fcap, f, rfl, hf, hfl, hbf⟩ := open_deeds (hval 1 41 v1 rfl rfl) h1 hs1
  obtain ⟨tA, tcap, t, rfl, ht, htl, hbt⟩ := open_deeds (hval 2 41 v2 rfl rfl) h2 hs2
  have fin : ∀ e W', e = Ending.returned (.bool true) ∧ Below W.heap.size W W' → ∃ v, e = .returned v ∧ Rows.devWholeSpec.post enc Try.prog Try.f5 false true false false W #[.int .i64 s, .slice fA f.length fcap, .slice tA t.length tcap, .int .i64 x] v W' := by
    rintro e W' ⟨rfl, hb⟩
    exact ⟨_, rfl, law_end laidOut hW' rfl rfl (by kernel_rfl) Try.underlying4 (by kernel_rfl) hb⟩
  exact (devWhole_any s x f t fcap tcap fA tA W (bounds_i64 wx) hfl htl hbf hbt hf ht).mono fin
theorem devWhole_holds : Rows.DevWholeSaid :=
  OpenClaim.holds_of_wide 5 Try.f5 rfl rfl rfl rfl rfl rfl rfl ⟨rfl, rfl, rfl, rfl, rfl⟩ rfl rfl rfl rfl rfl (by kernel_rfl) Try.func5 (by kernel_rfl)
    (of_decide_eq_true (by kernel_rfl)) (by unfold Func.isWrapper; first | (rw [if_pos (by decide +kernel)]; kernel_rfl) | (rw [if_neg (by decide +kernel)]; exact ⟨rfl, rfl⟩))
    (fun os started H enc _ => devWhole_lifted os started H enc)
#print axioms devWhole_holds
end Go.Proofs.Ytajeohmmobgcjaa
