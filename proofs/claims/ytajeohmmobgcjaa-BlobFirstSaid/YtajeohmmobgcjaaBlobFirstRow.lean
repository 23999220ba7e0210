/- spencelaw07.BlobFirst is true of every input, and leaves all as it was. No condition. -/
import Derived.Test.YtajeohmmobgcjaaBlobFirst
import Derived.Test.YtajeohmmobgcjaaRowRuns
import Derived.Lib.SmallJoins
namespace Go.Proofs.Ytajeohmmobgcjaa
open Go Go.ChangeShapes Go.WideShapes Go.ChangeAt Go.RowKit
theorem Try.ownK : ownKnob Try.prog.godebug = none := by kernel_rfl
set_option maxRecDepth 100000
set_option maxHeartbeats 1000000 in
theorem first_any (l a d n : Int) (hn : -9223372036854775808 ≤ n ∧ n ≤ 9223372036854775807) (v : Value) (rs : List Run) (hl : rs.length ≤ 140737488355328) (w : World) (hrs : RunsM w w.heap.size v rs) :
    Calls Try.prog 4 #[.agg #[.int .i64 l, .int .i64 a, .int .i64 d], .int .i64 n, v] w fun e w' => e = .returned (.bool true) ∧ Below w.heap.size w w' := by
  by_cases hlen : rs.length ≤ 60
  · by_cases hsec : secs l a d ≤ 60
    · have h64 : rightP l a d → d ≤ 64 := fun h => by
        have h1 := h.1
        have h2 := h.2.1
        rw [secs, if_pos h] at hsec
        unfold inW at h1 h2
        omega
      by_cases hap : apartP l a d rs
      · by_cases hn1 : 1 ≤ n
        · by_cases hE : findE l a d rs n = 0
          · have hd := apart_d hap
            obtain ⟨D, rfl⟩ : ∃ D : Nat, d = (D : Int) := ⟨d.toNat, by omega⟩
            exact first_in l a n D hn.2 hn1 v rs hlen hsec hap hE w hrs
          · have hE7 : findE l a d rs n = 7 := by
              rw [findE, if_pos ⟨hap, by omega⟩] at hE ⊢
              split at hE
              · rename_i h
                rw [if_pos h]
              · exact absurd rfl hE
            have hR : findR l a d rs n = [] := if_neg hE
            have hdec := decide_eq_true hap
            obtain ⟨A, cp, rfl, hrest⟩ := id hrs
            clear hrest
            have HL := hide (And.intro h64 hrs)
            clear h64 hrs hap hE
            go_enter Try.func4, Try.ntmps4
            go_wp2_with fail
            refine (awake7_any _).mono ?_
            rintro e w1 ⟨rfl, hb1⟩
            have hsh1 : Blk w1 w.heap.size 23 #[.int .i64 l, .int .i64 a, .int .i64 d] := (Blk.new w _ _).below hb1 (by rw [size_alloc]; omega)
            have hbb1 : Below w.heap.size w w1 := ((Below.refl _ w).alloc (Nat.le_refl _) (.cells #[.int .i64 l, .int .i64 a, .int .i64 d] 23)).next hb1
            have H1 := hide (And.intro hsh1 hbb1)
            have c0 := hsh1.cell 0
            have c1 := hsh1.cell 1
            have c2 := hsh1.cell 2
            have hlt := hsh1.lt
            clear hsh1 hbb1 hb1
            dsimp only
            go_wp2_with fail
            refine (lsecs_any l a d _).mono ?_
            rintro e w2 ⟨rfl, hb2⟩
            have H2 := hide (And.intro (H1.out.1.below hb2 H1.out.1.lt) (H1.out.2.next hb2))
            clear hb2 c0 c1 c2 hlt H1
            have c0 := H2.out.1.cell 0
            have c1 := H2.out.1.cell 1
            have c2 := H2.out.1.cell 2
            have hlt := H2.out.1.lt
            dsimp only
            go_wp2_with fail
            refine (lapart_any l a d HL.out.1 _ rs (by omega) _ (HL.out.2.below H2.out.2)).mono ?_
            rintro e w3 ⟨rfl, hb3⟩
            rw [hdec]
            have H3 := hide (And.intro (H2.out.1.below hb3 H2.out.1.lt) (H2.out.2.next hb3))
            clear hb3 c0 c1 c2 hlt H2
            have c0 := H3.out.1.cell 0
            have c1 := H3.out.1.cell 1
            have c2 := H3.out.1.cell 2
            have hlt := H3.out.1.lt
            dsimp only
            go_wp2_with fail
            refine (lfind_any l a d HL.out.1 _ rs (by omega) n _ (HL.out.2.below H3.out.2)).mono ?_
            rintro e w4 ⟨o, rfl, ho, hb4⟩
            rw [hE7]
            rw [hR] at ho
            obtain ⟨Af, cf, rfl, hof⟩ := ho.m
            have H4 := hide (H3.out.2.next hb4)
            clear ho hof hb4 c0 c1 c2 hlt H3
            simp only [List.length_nil]
            go_wp2_with fail
            go_ret
            exact ⟨rfl, H4.out⟩
        · have q3 : n < 1 := by omega
          have hdec := decide_eq_true hap
          obtain ⟨A, cp, rfl, hrest⟩ := id hrs
          clear hrest
          have HL := hide (And.intro h64 hrs)
          clear h64 hrs hap
          go_enter Try.func4, Try.ntmps4
          go_wp2_with fail
          refine (awake7_any _).mono ?_
          rintro e w1 ⟨rfl, hb1⟩
          have hsh1 : Blk w1 w.heap.size 23 #[.int .i64 l, .int .i64 a, .int .i64 d] := (Blk.new w _ _).below hb1 (by rw [size_alloc]; omega)
          have hbb1 : Below w.heap.size w w1 := ((Below.refl _ w).alloc (Nat.le_refl _) (.cells #[.int .i64 l, .int .i64 a, .int .i64 d] 23)).next hb1
          have H1 := hide (And.intro hsh1 hbb1)
          have c0 := hsh1.cell 0
          have c1 := hsh1.cell 1
          have c2 := hsh1.cell 2
          have hlt := hsh1.lt
          clear hsh1 hbb1 hb1
          dsimp only
          go_wp2_with fail
          refine (lsecs_any l a d _).mono ?_
          rintro e w2 ⟨rfl, hb2⟩
          have H2 := hide (And.intro (H1.out.1.below hb2 H1.out.1.lt) (H1.out.2.next hb2))
          clear hb2 c0 c1 c2 hlt H1
          have c0 := H2.out.1.cell 0
          have c1 := H2.out.1.cell 1
          have c2 := H2.out.1.cell 2
          have hlt := H2.out.1.lt
          dsimp only
          go_wp2_with fail
          refine (lapart_any l a d HL.out.1 _ rs (by omega) _ (HL.out.2.below H2.out.2)).mono ?_
          rintro e w3 ⟨rfl, hb3⟩
          rw [hdec]
          have H3 := hide (And.intro (H2.out.1.below hb3 H2.out.1.lt) (H2.out.2.next hb3))
          clear hb3 c0 c1 c2 hlt H2
          have c0 := H3.out.1.cell 0
          have c1 := H3.out.1.cell 1
          have c2 := H3.out.1.cell 2
          have hlt := H3.out.1.lt
          dsimp only
          go_wp2_with fail
          go_ret
          exact ⟨rfl, H3.out.2⟩
      · have hdec := decide_eq_false hap
        obtain ⟨A, cp, rfl, hrest⟩ := id hrs
        clear hrest
        have HL := hide (And.intro h64 hrs)
        clear h64 hrs hap
        go_enter Try.func4, Try.ntmps4
        go_wp2_with fail
        refine (awake7_any _).mono ?_
        rintro e w1 ⟨rfl, hb1⟩
        have hsh1 : Blk w1 w.heap.size 23 #[.int .i64 l, .int .i64 a, .int .i64 d] := (Blk.new w _ _).below hb1 (by rw [size_alloc]; omega)
        have hbb1 : Below w.heap.size w w1 := ((Below.refl _ w).alloc (Nat.le_refl _) (.cells #[.int .i64 l, .int .i64 a, .int .i64 d] 23)).next hb1
        have H1 := hide (And.intro hsh1 hbb1)
        have c0 := hsh1.cell 0
        have c1 := hsh1.cell 1
        have c2 := hsh1.cell 2
        have hlt := hsh1.lt
        clear hsh1 hbb1 hb1
        dsimp only
        go_wp2_with fail
        refine (lsecs_any l a d _).mono ?_
        rintro e w2 ⟨rfl, hb2⟩
        have H2 := hide (And.intro (H1.out.1.below hb2 H1.out.1.lt) (H1.out.2.next hb2))
        clear hb2 c0 c1 c2 hlt H1
        have c0 := H2.out.1.cell 0
        have c1 := H2.out.1.cell 1
        have c2 := H2.out.1.cell 2
        have hlt := H2.out.1.lt
        dsimp only
        go_wp2_with fail
        refine (lapart_any l a d HL.out.1 _ rs (by omega) _ (HL.out.2.below H2.out.2)).mono ?_
        rintro e w3 ⟨rfl, hb3⟩
        rw [hdec]
        have H3 := hide (And.intro (H2.out.1.below hb3 H2.out.1.lt) (H2.out.2.next hb3))
        clear hb3 c0 c1 c2 hlt H2
        have c0 := H3.out.1.cell 0
        have c1 := H3.out.1.cell 1
        have c2 := H3.out.1.cell 2
        have hlt := H3.out.1.lt
        dsimp only
        go_wp2_with fail
        go_ret
        exact ⟨rfl, H3.out.2⟩
    · obtain ⟨A, cp, rfl, _⟩ := hrs
      have q1 : ¬ (60 : Int) < (rs.length : Int) := by omega
      have q2 : (60 : Int) < secs l a d := by omega
      go_enter Try.func4, Try.ntmps4
      go_wp2_with fail
      refine (awake7_any _).mono ?_
      rintro e w1 ⟨rfl, hb1⟩
      have hsh1 : Blk w1 w.heap.size 23 #[.int .i64 l, .int .i64 a, .int .i64 d] := (Blk.new w _ _).below hb1 (by rw [size_alloc]; omega)
      have hbb1 : Below w.heap.size w w1 := ((Below.refl _ w).alloc (Nat.le_refl _) (.cells #[.int .i64 l, .int .i64 a, .int .i64 d] 23)).next hb1
      have H1 := hide (And.intro hsh1 hbb1)
      have c0 := hsh1.cell 0
      have c1 := hsh1.cell 1
      have c2 := hsh1.cell 2
      have hlt := hsh1.lt
      clear hsh1 hbb1 hb1
      dsimp only
      go_wp2_with fail
      refine (lsecs_any l a d _).mono ?_
      rintro e w2 ⟨rfl, hb2⟩
      have H2 := hide (And.intro (H1.out.1.below hb2 H1.out.1.lt) (H1.out.2.next hb2))
      clear hb2 c0 c1 c2 hlt H1
      have c0 := H2.out.1.cell 0
      have c1 := H2.out.1.cell 1
      have c2 := H2.out.1.cell 2
      have hlt := H2.out.1.lt
      dsimp only
      go_wp2_with fail
      go_ret
      exact ⟨rfl, H2.out.2⟩
  · obtain ⟨A, cp, rfl, _⟩ := hrs
    have q1 : (60 : Int) < (rs.length : Int) := by omega
    go_enter Try.func4, Try.ntmps4
    go_wp2_with fail
    refine (awake7_any _).mono ?_
    rintro e w1 ⟨rfl, hb1⟩
    have hsh1 : Blk w1 w.heap.size 23 #[.int .i64 l, .int .i64 a, .int .i64 d] := (Blk.new w _ _).below hb1 (by rw [size_alloc]; omega)
    have hbb1 : Below w.heap.size w w1 := ((Below.refl _ w).alloc (Nat.le_refl _) (.cells #[.int .i64 l, .int .i64 a, .int .i64 d] 23)).next hb1
    have H1 := hide (And.intro hsh1 hbb1)
    have c0 := hsh1.cell 0
    have c1 := hsh1.cell 1
    have c2 := hsh1.cell 2
    have hlt := hsh1.lt
    clear hsh1 hbb1 hb1
    dsimp only
    go_wp2_with fail
    go_ret
    exact ⟨rfl, H1.out.2⟩
theorem blobFirst_lifted (os : Os) (started : os.Started) (H : Type) (enc : TypeId × Value → H) :
    ReturnsInHanded {} Try.checked os 4 .any (Rows.blobFirstSpec.pre6 enc Try.prog Try.f4 Rows.blobFirstRow.domain false) (Rows.blobFirstSpec.post enc Try.prog Try.f4 false true false false) := by
  refine returnsInHanded_of_change_sized (C := Try.checked) Try.ownK started (by kernel_rfl) Try.func4
    (ChangeSpec.witness6 (enc := enc) (C := Try.checked) false ⟨#[], #[.agg #[.int .i64 0, .int .i64 0, .int .i64 0], .int .i64 0, .slice none 0 0], []⟩ 8 (by kernel_rfl) (by kernel_rfl) (by kernel_rfl) (by kernel_rfl)) ?_
  intro W base args ds gs before hval0 hW _ hsz0 _
  have hval : ∀ (j : Nat) t v, Try.f4.params[j]? = some t → args[j]? = some v → Value.okWide Try.prog W .any base t v := hval0
  have hsz : (DataW.weightsEach Try.prog (Try.f4.params.toList ++ []) (ds ++ gs)).all (· ≤ reachBytes) = true := hsz0
  have hW' := hW
  obtain ⟨p, q, hA0, hV, rfl, hfz, hnd⟩ := hW
  have hA : DataW.TrodAll enc Try.prog W 0 (fun _ => true) true Try.f4.params.toList args.toList ds p := hA0
  rw [Try.params4] at hA hval hsz
  obtain ⟨v0, v1, v2, d0, d1, d2, p0, p1, p2, rfl, rfl, rfl, h0, h1, h2⟩ := trodAll_three hA
  obtain ⟨rfl, rfl⟩ := trodVars_none hV
  obtain ⟨c0, c1, c2, y0, y1, y2, m, rfl, rfl, rfl, hy0, hy1, hy2⟩ := Joins.open_agg3 Try.underlying23 (by kernel_rfl) (by kernel_rfl) (hval 0 23 v0 rfl rfl) h0
  obtain ⟨l, e0, _, wl⟩ := DataW.trod_int Try.underlying3 hy0
  obtain ⟨a, e1, _, wa⟩ := DataW.trod_int Try.underlying3 hy1
  obtain ⟨d, e2, _, wd⟩ := DataW.trod_int Try.underlying3 hy2
  simp at e0 e1 e2
  subst e0 e1 e2
  obtain ⟨n, rfl, rfl, rfl, wn⟩ := open_int Try.underlying3 (hval 1 3 v1 rfl rfl) h1
  have hs2 : ∀ n ∈ d2.weights Try.prog 24, n ≤ reachBytes := fun n hn => by
    have h := List.all_eq_true.1 hsz n (DataW.weights_mem_each (j := 2) (t := 24) (d := d2) rfl rfl n hn)
    simpa using h
  obtain ⟨rs, hrs, hll⟩ := open_runs (hval 2 24 v2 rfl rfl) h2 hs2
  have fin : ∀ e W', e = Ending.returned (.bool true) ∧ Below W.heap.size W W' → ∃ v, e = .returned v ∧ Rows.blobFirstSpec.post enc Try.prog Try.f4 false true false false W #[.agg #[.int .i64 l, .int .i64 a, .int .i64 d], .int .i64 n, v2] v W' := by
    rintro e W' ⟨rfl, hb⟩
    exact ⟨_, rfl, law_end laidOut hW' rfl rfl (by kernel_rfl) Try.underlying4 (by kernel_rfl) hb⟩
  exact (first_any l a d n (bounds_i64 wn) v2 rs hll W hrs).mono fin
theorem blobFirst_holds : Rows.BlobFirstSaid :=
  OpenClaim.holds_of_wide 4 Try.f4 rfl rfl rfl rfl rfl rfl rfl ⟨rfl, rfl, rfl, rfl, rfl⟩ rfl rfl rfl rfl rfl (by kernel_rfl) Try.func4 (by kernel_rfl)
    (of_decide_eq_true (by kernel_rfl)) (by unfold Func.isWrapper; first | (rw [if_pos (by decide +kernel)]; kernel_rfl) | (rw [if_neg (by decide +kernel)]; exact ⟨rfl, rfl⟩))
    (fun os started H enc _ => blobFirst_lifted os started H enc)
#print axioms blobFirst_holds
end Go.Proofs.Ytajeohmmobgcjaa
