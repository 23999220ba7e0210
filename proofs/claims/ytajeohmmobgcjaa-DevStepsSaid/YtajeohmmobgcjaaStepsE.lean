/- DevSteps: the walk. -/
import Derived.Test.YtajeohmmobgcjaaStepsF
namespace Go.Proofs.Ytajeohmmobgcjaa
open Go Go.RowKit
set_option maxRecDepth 100000
set_option maxHeartbeats 4000000
theorem devSteps_any (w : World) : Calls Try.prog 8 #[] w fun e w' => e = .returned (.bool true) ∧ Below w.heap.size w w' := by
  go_enter Try.func8, Try.ntmps8
  go_wp2_with fail
  go_loopw [1] (fun v wr => ∃ k : Nat, k ≤ 18 ∧ v = .int .i64 ((k : Int) - 1) ∧ Below w.heap.size w wr) (fun v _ => (17 - intOf v).toNat)
  case atStart => exact ⟨0, by omega, rfl, Below.refl _ _⟩
  case round =>
    obtain ⟨k, hk, rfl, hbel⟩ := hrel
    have HB := hide hbel
    clear hbel
    generalize hn : (k : Int) - 1 = n
    by_cases hk2 : k < 18
    · have n1 : n < 17 := by omega
      have n2 : -1 ≤ n := by omega
      go_wp2_with (refine wpList_value (o := ⟨some 33, _, _, _, _, _⟩) rfl (.slice (some ⟨(by4 wr).heap.size, 0, none⟩) 11 11) ((by4 wr).alloc (.cells (flatD (ds1 n wr.heap.size)).toArray 50)) (by kernel_rfl) ?_)
      refine (ds1_does n ⟨n2, n1⟩ wr).mono ?_
      rintro e w' ⟨rfl, hb⟩
      have HB3 := hide (HB.out.trans (Below.mono hb HB.out.size))
      clear hb HB
      dsimp only
      go_wp2_with fail
      exact ⟨⟨k + 1, by omega, by go_num, HB3.out⟩, by simp [intOf]; omega⟩
    · obtain rfl : n = 17 := by omega
      have HB2 := HB
      clear HB hk2 hk
      go_wp2_with fail
      go_loopw [3] (fun v wr => ∃ k : Nat, k ≤ 10 ∧ v = .int .i64 ((k : Int) - 1) ∧ Below w.heap.size w wr) (fun v _ => (17 - intOf v).toNat)
      case atStart => exact ⟨0, by omega, rfl, HB2.out⟩
      case round =>
        clear HB2 hn
        obtain ⟨k, hk, rfl, hbel⟩ := hrel
        have HB := hide hbel
        clear hbel
        generalize hn : (k : Int) - 1 = n
        by_cases hk2 : k < 10
        · have n1 : n < 9 := by omega
          have n2 : -1 ≤ n := by omega
          have HN := hide hn
          clear hn hk2
          go_wp2_with fail
          refine Fre.wp_made (X := Blo) 25 [(43, SlcV [1]), (44, AggV 1 0 0 [1]), (47, SlcV (List.replicate 64 0)), (48, AggV 1 1 0 (List.replicate 64 0)), (49, SlcV (List.replicate 65 0)), (50, AggV 1 1 0 (List.replicate 65 0)), (60, SlcV [byteI n]), (61, AggV 1 n 0 [byteI n])] (by kernel_rfl) (by kernel_rfl) (by simp only [List.forall_mem_cons]; exact ⟨slc_ok _, agg_ok _ _ _ _, slc_ok _, agg_ok _ _ _ _, slc_ok _, agg_ok _ _ _ _, slc_ok _, agg_ok _ _ _ _, fun p hp => by cases hp⟩) (by simp) (by simp) ?_
          simp only [List.take_succ_cons, List.take_zero, List.drop_succ_cons, List.drop_zero]
          refine Fre.made_val (.int .i64 n) (by kernel_rfl) (by kernel_rfl) (by kernel_rfl) (fun _ _ => by kernel_rfl) ?_
          simp only [Act.put, List.setIfInBounds_toArray, List.set_cons_zero, List.set_cons_succ]
          refine Fre.made_val (.agg #[.int .i64 (4), .int .i64 (n), .int .i64 (0), .slice none 0 0]) (by kernel_rfl) (by kernel_rfl) (by kernel_rfl) (fun _ _ => by kernel_rfl) ?_
          simp only [Act.put, List.setIfInBounds_toArray, List.set_cons_zero, List.set_cons_succ]
          refine Fre.made_new 43 _ (by kernel_rfl) (by kernel_rfl) rfl rfl (free_slc [1] (fun W => (by kernel_rfl))) ?_
          simp only [Act.put, List.setIfInBounds_toArray, List.set_cons_zero, List.set_cons_succ]
          refine Fre.made_new1 43 _ 44 _ (by kernel_rfl) rfl (by kernel_rfl) rfl rfl (free_agg (1) (0) (0) [1] (fun r W => by kernel_rfl)) ?_
          simp only [Act.put, List.setIfInBounds_toArray, List.set_cons_zero, List.set_cons_succ]
          refine Fre.made_val (.agg #[.int .i64 (1), .int .i64 (7), .int .i64 (0), .slice none 0 0]) (by kernel_rfl) (by kernel_rfl) (by kernel_rfl) (fun _ _ => by kernel_rfl) ?_
          simp only [Act.put, List.setIfInBounds_toArray, List.set_cons_zero, List.set_cons_succ]
          refine Fre.made_val (.agg #[.int .i64 (3), .int .i64 (0), .int .i64 (0), .slice none 0 0]) (by kernel_rfl) (by kernel_rfl) (by kernel_rfl) (fun _ _ => by kernel_rfl) ?_
          simp only [Act.put, List.setIfInBounds_toArray, List.set_cons_zero, List.set_cons_succ]
          refine Fre.made_new 47 _ (by kernel_rfl) (by kernel_rfl) rfl rfl (free_slc (List.replicate 64 0) (fun W => (by kernel_rfl))) ?_
          simp only [Act.put, List.setIfInBounds_toArray, List.set_cons_zero, List.set_cons_succ]
          refine Fre.made_new1 47 _ 48 _ (by kernel_rfl) rfl (by kernel_rfl) rfl rfl (free_agg (1) (1) (0) (List.replicate 64 0) (fun r W => by kernel_rfl)) ?_
          simp only [Act.put, List.setIfInBounds_toArray, List.set_cons_zero, List.set_cons_succ]
          refine Fre.made_new 49 _ (by kernel_rfl) (by kernel_rfl) rfl rfl (free_slc (List.replicate 65 0) (fun W => (by kernel_rfl))) ?_
          simp only [Act.put, List.setIfInBounds_toArray, List.set_cons_zero, List.set_cons_succ]
          refine Fre.made_new1 49 _ 50 _ (by kernel_rfl) rfl (by kernel_rfl) rfl rfl (free_agg (1) (1) (0) (List.replicate 65 0) (fun r W => by kernel_rfl)) ?_
          simp only [Act.put, List.setIfInBounds_toArray, List.set_cons_zero, List.set_cons_succ]
          refine Fre.made_val (.int .i64 n) (by kernel_rfl) (by kernel_rfl) (by kernel_rfl) (fun _ _ => by kernel_rfl) ?_
          simp only [Act.put, List.setIfInBounds_toArray, List.set_cons_zero, List.set_cons_succ]
          refine Fre.made_val (.int .i64 (n - 3)) (by kernel_rfl) (by kernel_rfl) (by kernel_rfl) (fun W hW => ?hs1) ?_
          case hs1 =>
            go_simp
            first | done | exact IntWalk.wrap64_in _ (by omega) | (simp [IntKind.wrap, IntKind.signed, IntKind.bits] <;> omega)
          simp only [Act.put, List.setIfInBounds_toArray, List.set_cons_zero, List.set_cons_succ]
          refine Fre.made_val (.agg #[.int .i64 (4), .int .i64 (n - 3), .int .i64 (0), .slice none 0 0]) (by kernel_rfl) (by kernel_rfl) (by kernel_rfl) (fun _ _ => by kernel_rfl) ?_
          simp only [Act.put, List.setIfInBounds_toArray, List.set_cons_zero, List.set_cons_succ]
          refine Fre.made_val (.agg #[.int .i64 (3), .int .i64 (0), .int .i64 (0), .slice none 0 0]) (by kernel_rfl) (by kernel_rfl) (by kernel_rfl) (fun _ _ => by kernel_rfl) ?_
          simp only [Act.put, List.setIfInBounds_toArray, List.set_cons_zero, List.set_cons_succ]
          refine Fre.made_val (.agg #[.int .i64 (0), .int .i64 (0), .int .i64 (0), .slice none 0 0]) (by kernel_rfl) (by kernel_rfl) (by kernel_rfl) (fun _ _ => by kernel_rfl) ?_
          simp only [Act.put, List.setIfInBounds_toArray, List.set_cons_zero, List.set_cons_succ]
          refine Fre.made_val (.agg #[.int .i64 (6), .int .i64 (1), .int .i64 (0), .slice none 0 0]) (by kernel_rfl) (by kernel_rfl) (by kernel_rfl) (fun _ _ => by kernel_rfl) ?_
          simp only [Act.put, List.setIfInBounds_toArray, List.set_cons_zero, List.set_cons_succ]
          refine Fre.made_val (.int .i64 n) (by kernel_rfl) (by kernel_rfl) (by kernel_rfl) (fun _ _ => by kernel_rfl) ?_
          simp only [Act.put, List.setIfInBounds_toArray, List.set_cons_zero, List.set_cons_succ]
          refine Fre.made_val (.int .i64 n) (by kernel_rfl) (by kernel_rfl) (by kernel_rfl) (fun _ _ => by kernel_rfl) ?_
          simp only [Act.put, List.setIfInBounds_toArray, List.set_cons_zero, List.set_cons_succ]
          refine Fre.made_val (.int .u8 (n % 256)) (by kernel_rfl) (by kernel_rfl) (by kernel_rfl) (fun W hW => ?hs2) ?_
          case hs2 =>
            go_simp
            first | done | exact IntWalk.wrap64_in _ (by omega) | (simp [IntKind.wrap, IntKind.signed, IntKind.bits] <;> omega)
          simp only [Act.put, List.setIfInBounds_toArray, List.set_cons_zero, List.set_cons_succ]
          refine Fre.made_new 60 _ (by kernel_rfl) (by kernel_rfl) rfl rfl (free_slc [byteI n] (fun W => by rw [← bv_byte n (n % 256) rfl]; kernel_rfl)) ?_
          simp only [Act.put, List.setIfInBounds_toArray, List.set_cons_zero, List.set_cons_succ]
          refine Fre.made_new1 60 _ 61 _ (by kernel_rfl) rfl (by kernel_rfl) rfl rfl (free_agg (1) (n) (0) [byteI n] (fun r W => by kernel_rfl)) ?_
          simp only [Act.put, List.setIfInBounds_toArray, List.set_cons_zero, List.set_cons_succ]
          refine Fre.made_val (.int .i64 n) (by kernel_rfl) (by kernel_rfl) (by kernel_rfl) (fun _ _ => by kernel_rfl) ?_
          simp only [Act.put, List.setIfInBounds_toArray, List.set_cons_zero, List.set_cons_succ]
          refine Fre.made_val (.int .i64 n) (by kernel_rfl) (by kernel_rfl) (by kernel_rfl) (fun _ _ => by kernel_rfl) ?_
          simp only [Act.put, List.setIfInBounds_toArray, List.set_cons_zero, List.set_cons_succ]
          refine Fre.made_val (.int .i64 (510 + n)) (by kernel_rfl) (by kernel_rfl) (by kernel_rfl) (fun W hW => ?hs3) ?_
          case hs3 =>
            go_simp
            first | done | exact IntWalk.wrap64_in _ (by omega) | (simp [IntKind.wrap, IntKind.signed, IntKind.bits] <;> omega)
          simp only [Act.put, List.setIfInBounds_toArray, List.set_cons_zero, List.set_cons_succ]
          refine Fre.made_val (.agg #[.int .i64 (7), .int .i64 (n), .int .i64 (510 + n), .slice none 0 0]) (by kernel_rfl) (by kernel_rfl) (by kernel_rfl) (fun _ _ => by kernel_rfl) ?_
          simp only [Act.put, List.setIfInBounds_toArray, List.set_cons_zero, List.set_cons_succ]
          show ∀ w', _ → _
          intro w4 hb4
          simp only [Fre.ended]
          intro u43 _ u44 h44 u47 _ u48 h48 u49 _ u50 h50 u60 _ u61 h61
          obtain ⟨s44, rfl, k44⟩ := h44
          obtain ⟨s48, rfl, k48⟩ := h48
          obtain ⟨s50, rfl, k50⟩ := h50
          obtain ⟨s61, rfl, k61⟩ := h61
          simp only [Act.put, List.setIfInBounds_toArray, List.set_cons_zero, List.set_cons_succ]
          have hb4 : Below wr.heap.size wr w4 := hb4
          have hrow := row_new (ds2 n s44 s48 s50 s61) w4 (ds2_ok n ⟨n2, n1⟩ k44 k48 k50 k61)
          have hB5 := (HB.out.trans (Below.mono hb4 HB.out.size)).alloc (o := .cells (flatD (ds2 n s44 s48 s50 s61)).toArray 50) (by have := HB.out.size; have := hb4.size; omega)
          refine wpList_value (o := ⟨some 66, _, _, _, _, _⟩) rfl (.slice (some ⟨w4.heap.size, 0, none⟩) 12 12) (w4.alloc (.cells (flatD (ds2 n s44 s48 s50 s61)).toArray 50)) (by kernel_rfl) ?_
          rw [← size_alloc w4 (.cells (flatD (ds2 n s44 s48 s50 s61)).toArray 50)] at hrow
          generalize w4.alloc (.cells (flatD (ds2 n s44 s48 s50 s61)).toArray 50) = w5 at hrow hB5 ⊢
          have HR := hide hrow
          have HB5 := hide hB5
          clear hrow hB5 hb4 k44 k48 k50 k61 HB
          generalize w4.heap.size = g4 at HR ⊢
          simp only [Act.put, List.setIfInBounds_toArray, List.set_cons_zero, List.set_cons_succ]
          go_wp2_with fail
          refine (does_m 3 _ HR.out (Nat.le_refl _) rfl (by show 12 ≤ 1000; omega) (ds2_small n _ _ _ _)).mono ?_
          rintro e w6 ⟨rfl, hb6⟩
          have HR6 := hide (HR.out.alike hb6.block)
          have HB6 := hide (HB5.out.trans (Below.mono hb6 HB5.out.size))
          have HL := hide hb6.size
          clear hb6 HB5 HR
          dsimp only
          go_wp2_with fail
          refine (does_m n _ HR6.out HL.out rfl (by show 12 ≤ 1000; omega) (ds2_small n _ _ _ _)).mono ?_
          rintro e w7 ⟨rfl, hb7⟩
          have HB7 := hide (HB6.out.trans (Below.mono hb7 HB6.out.size))
          clear hb7 HB6 HR6 HL
          dsimp only
          go_wp2_with fail
          have hn := HN.out
          exact ⟨⟨k + 1, by omega, by go_num, HB7.out⟩, by simp [intOf]; omega⟩
        · obtain rfl : n = 9 := by omega
          have HB3 := HB
          clear HB hk2 hk hn
          go_wp2_with fail
          go_loopw [5, 6] (fun v v' wr => ∃ (k : Nat) (l : DV), k ≤ 130 ∧ l.length = k ∧ v' = .int .i64 (k : Int) ∧ Row3 w.heap.size wr v l ∧ (∀ p ∈ l, p.1.b.length ≤ 1) ∧ Below w.heap.size w wr) (fun _ v' _ => 130 - (intOf v').toNat)
          case atStart => exact ⟨0, [], by omega, rfl, rfl, ⟨⟨rfl, .inl ⟨rfl, rfl⟩⟩, fun p hp => by cases hp⟩, (fun p hp => by cases hp), HB3.out⟩
          case round =>
            clear HB3
            obtain ⟨k, l, hk, hl, rfl, hrow, hsm, hbel⟩ := hrel
            have HB := hide (And.intro hl (And.intro hrow (And.intro hsm hbel)))
            clear hl hrow hsm hbel
            by_cases hk2 : k < 130
            · have n1 : (k : Int) < 130 := by omega
              obtain ⟨v', w', happ, hrow', hbel'⟩ := HB.out.2.1.push HB.out.2.2.2.size (by have := HB.out.1; omega) ((k : Int) % 60) (small_i64 (by omega)) ((k : Int) + 1) ((k : Int) + 1) (by omega)
              have HA := hide (And.intro hrow' hbel')
              clear hrow' hbel'
              have HAP := hide happ
              clear happ
              go_wp2_with (at_builtin; refine wpList_value (o := ⟨some 89, _, _, _, _, _⟩) rfl v' w' (exec_append (o := ⟨some 89, _, _, _, _, _⟩) (.tmp 80) (.tmp 88) 41 rfl u5 (.slice (some ⟨wr.heap.size + 1, 0, none⟩) 1 1) _ _ _ rfl rfl HAP.out) ?_)
              have hl := HB.out.1
              refine ⟨⟨k + 1, _, by omega, ?_, by go_num, HA.out.1, ?_, HB.out.2.2.2.trans HA.out.2⟩, by simp [intOf]; omega⟩
              · rw [List.length_append, hl]; rfl
              · intro p hp
                rcases List.mem_append.1 hp with hp | hp
                · exact HB.out.2.2.1 p hp
                · rw [List.mem_singleton.1 hp]; exact Nat.le_refl 1
            · obtain rfl : k = 130 := by omega
              go_wp2_with fail
              refine (newDev_any 8192 (by omega) wr).mono ?_
              rintro e w1 ⟨g, F, rfl, _, hb1, _⟩
              have hs1 : w.heap.size ≤ w1.heap.size := Nat.le_trans HB.out.2.2.2.size hb1.size
              obtain ⟨v', w2, happ, hrow', hbel'⟩ := (HB.out.2.1.below hb1).two hs1 (by have := HB.out.1; omega)
              obtain ⟨A, cap, hv, hm⟩ := hrow'.m
              subst hv
              obtain ⟨n2, hn2⟩ : ∃ n2, n2 = (l ++ [((⟨5, 0, 0, []⟩ : Deed), Value.slice none 0 0), (⟨6, 6917529027641081861, 0, []⟩, .slice none 0 0)]).length := ⟨_, rfl⟩
              rw [← hn2] at happ hm
              have hb2 : Below w.heap.size w w2 := (HB.out.2.2.2.trans (Below.mono hb1 HB.out.2.2.2.size)).trans hbel'
              have HAP := hide happ
              have HM := hide (And.intro hm (And.intro hn2 hb2))
              clear happ hrow' hbel' hm hn2 hs1 hb1 hb2
              dsimp only
              go_wp2_with fail
              refine (new_bad 8193 (by omega) _).mono ?_
              rintro e w' ⟨rfl, rfl⟩
              dsimp only
              go_wp2_with (at_builtin; refine wpList_value (o := ⟨some 102, _, _, _, _, _⟩) rfl (.slice A n2 cap) w2 (exec_append (o := ⟨some 102, _, _, _, _, _⟩) (.tmp 98) (.tmp 101) 41 rfl u5 (.slice (some ⟨w'.heap.size, 0, none⟩) 2 2) _ _ _ rfl rfl HAP.out) ?_)
              have hl := HB.out.1
              have hlen : (onlyD (l ++ [((⟨5, 0, 0, []⟩ : Deed), Value.slice none 0 0), (⟨6, 6917529027641081861, 0, []⟩, .slice none 0 0)])).length = 132 := by
                unfold onlyD
                rw [List.length_map, List.length_append, hl]
                rfl
              have hn3 : n2 = (onlyD (l ++ [((⟨5, 0, 0, []⟩ : Deed), Value.slice none 0 0), (⟨6, 6917529027641081861, 0, []⟩, .slice none 0 0)])).length := by
                rw [hlen, HM.out.2.1, List.length_append, hl]
                rfl
              refine (does_m 60 _ HM.out.1 (Nat.le_refl _) hn3 (by omega) (fun p hp => ?hsmall)).mono ?_
              case hsmall =>
                obtain ⟨q, hq, rfl⟩ := List.mem_map.1 hp
                rcases List.mem_append.1 hq with hq | hq
                · have := HB.out.2.2.1 q hq
                  omega
                · simp only [List.mem_cons, List.not_mem_nil, or_false] at hq
                  rcases hq with rfl | rfl
                  · exact Nat.zero_le _
                  · exact Nat.zero_le _
              rintro e w3 ⟨rfl, hb3⟩
              have H3 := hide (HM.out.2.2.trans (Below.mono hb3 HM.out.2.2.size))
              clear hb3 HM hn3 hlen hl HB
              dsimp only
              go_wp2_with fail
              refine (none_any _).mono ?_
              rintro e w4 ⟨rfl, hb4⟩
              have H4 := hide (H3.out.trans (Below.mono hb4 H3.out.size))
              clear hb4 H3
              dsimp only
              go_wp2_with fail
              refine (awake4_any _).mono ?_
              rintro e w5 ⟨rfl, hb5⟩
              have H5 := hide (H4.out.trans (Below.mono hb5 H4.out.size))
              clear hb5 H4
              dsimp only
              go_wp2_with fail
              go_ret
              exact ⟨rfl, H5.out⟩
end Go.Proofs.Ytajeohmmobgcjaa
