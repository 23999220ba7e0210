/- spencelaw07: BlobFirst. -/
import Derived.Test.YtajeohmmobgcjaaRunApp
import Derived.Test.YtajeohmmobgcjaaFirstLaw
namespace Go.Proofs.Ytajeohmmobgcjaa
open Go Go.RowKit
set_option maxRecDepth 100000
/-- what stays while the law asks: the shape, the runs that came in, the runs that were found -/
structure AskF (w0 w : World) (l a d : Int) (v o : Value) (rs f : List Run) : Prop where
  shape : Blk w w0.heap.size 23 #[.int .i64 l, .int .i64 a, .int .i64 d]
  held : RunsM w w.heap.size v rs
  found : RunsM w w.heap.size o f
  below : Below w0.heap.size w0 w
theorem AskF.grow {w0 w w' : World} {l a d : Int} {v o : Value} {rs f : List Run} (h : AskF w0 w l a d v o rs f) (hb : Below w.heap.size w w') : AskF w0 w' l a d v o rs f :=
  ⟨h.shape.below hb h.shape.lt, h.held.below hb, h.found.below hb, h.below.next hb⟩
theorem AskF.size {w0 w : World} {l a d : Int} {v o : Value} {rs f : List Run} (h : AskF w0 w l a d v o rs f) : w0.heap.size < w.heap.size := h.shape.lt
/-- a row of one run -/
def OneV (B k : Nat) (u : Value) (w : World) : Prop := ∃ r, u = .slice (some ⟨r, 0, none⟩) 1 1 ∧ B ≤ r ∧ Blk w r 40 #[.int .i64 (k : Int), .int .i64 1]
theorem OneV.stays {B k : Nat} {rs : List Run} {u : Value} {w w' : World} (h : OneV B k u w) (hx : GrowR B (runCells (rs ++ [((k : Int), 1)])) (rs.length * 2) w w') : OneV B k u w' := by
  obtain ⟨r, rfl, hr, hb⟩ := h
  refine ⟨r, rfl, hr, ?_⟩
  rcases hx.block r hb.lt with e | ⟨_, hN, cs, cs', e, q1, q2, q3, q4, q5⟩
  · exact e.trans hb
  · have hb' : w.heap[r]? = some (.cells #[.int .i64 (k : Int), .int .i64 1] 40 (0, 0)) := hb
    rw [q1] at hb'
    injection hb' with hb'
    injection hb' with hb' e2
    subst hb' e2
    have h1 : cs'.toList.length = 2 := q3
    have h2 : (runCells (rs ++ [((k : Int), 1)])).length = (rs.length + 1) * 2 := by rw [runCells_len]; simp
    have h3 := congrArg List.length q5
    rw [List.length_take, h1, h2] at h3
    obtain rfl : rs = [] := List.eq_nil_of_length_eq_zero (by omega)
    have h4 : cs'.toList = [.int .i64 (k : Int), .int .i64 1] := by
      have h5 : cs'.toList.take 2 = [.int .i64 (k : Int), .int .i64 1] := q5
      rwa [List.take_of_length_le (by omega)] at h5
    have h6 : cs' = #[.int .i64 (k : Int), .int .i64 1] := Array.ext' h4
    rw [h6] at q2
    exact q2
theorem OneV.runs {B k : Nat} {u : Value} {w : World} (h : OneV B k u w) (hk : k ≤ 1000) : ∃ r, u = .slice (some ⟨r, 0, none⟩) [((k : Int), (1 : Int))].length 1 ∧ RunsM w w.heap.size u [((k : Int), 1)] := by
  obtain ⟨r, rfl, _, hb⟩ := h
  refine ⟨r, rfl, ⟨_, 1, rfl, Nat.le_refl _, (fun h => by cases h), fun _ => ⟨r, 0, rfl, hb.lt, fun j q hj => ?_⟩, fun q hq => ?_⟩⟩
  · cases j with
    | zero =>
      injection hj with hj
      subst hj
      exact ⟨hb.cell 0, hb.cell 1⟩
    | succ j => simp at hj
  · obtain rfl := List.mem_singleton.1 hq
    show (_ ∧ _) ∧ (_ ∧ _)
    omega
set_option maxHeartbeats 4000000 in
theorem first_in (l a n : Int) (D : Nat) (hn : n ≤ 9223372036854775807) (hn1 : 1 ≤ n) (v : Value) (rs : List Run) (hlen : rs.length ≤ 60) (hsec : secs l a D ≤ 60) (hap : apartP l a D rs) (hE0 : findE l a D rs n = 0) (w : World) (hrs : RunsM w w.heap.size v rs) :
    Calls Try.prog 4 #[.agg #[.int .i64 l, .int .i64 a, .int .i64 (D : Int)], .int .i64 n, v] w fun e w' => e = .returned (.bool true) ∧ Below w.heap.size w w' := by
  have hD : D ≤ 60 := by
    have h := hap.1
    have h1 := h.1
    have h2 := h.2.1
    rw [secs, if_pos h] at hsec
    unfold inW at h1 h2
    omega
  have h64 : rightP l a D → (D : Int) ≤ 64 := fun _ => by omega
  have hlen' : rs.length ≤ 1000000 := by omega
  obtain ⟨N, rfl⟩ : ∃ N : Nat, n = (N : Int) := ⟨n.toNat, by omega⟩
  have hnf : N ≤ (freeTo rs D).length := by
    rw [findE, if_pos ⟨hap, by omega⟩, Int.toNat_natCast] at hE0
    by_cases h : ((freeTo rs D).length : Int) < (N : Int)
    · rw [if_pos h] at hE0
      cases hE0
    · omega
  have hN : N ≤ 60 := by have := freeTo_len rs D; omega
  have hR0 : findR l a D rs N = findP rs D N := by rw [findR, if_pos hE0, Int.toNat_natCast, Int.toNat_natCast]
  obtain ⟨E, HF⟩ := first_of hap (by omega) hnf
  obtain ⟨f, hf⟩ : ∃ f, f = findP rs D N := ⟨_, rfl⟩
  rw [← hf] at HF hR0
  clear hf
  obtain ⟨A, cp, rfl, hrest⟩ := id hrs
  clear hrest
  have hdec := decide_eq_true hap
  have HL := hide (And.intro HF (And.intro hap (And.intro h64 (And.intro hrs hnf))))
  clear HF hap h64 hrs hnf
  go_enter Try.func4, Try.ntmps4
  go_wp2_with fail
  refine (awake7_any _).mono ?_
  rintro e w1 ⟨rfl, hb1⟩
  have hsh1 : Blk w1 w.heap.size 23 #[.int .i64 l, .int .i64 a, .int .i64 (D : Int)] := (Blk.new w _ _).below hb1 (by rw [size_alloc]; omega)
  have hbb1 : Below w.heap.size w w1 := ((Below.refl _ w).alloc (Nat.le_refl _) (.cells #[.int .i64 l, .int .i64 a, .int .i64 (D : Int)] 23)).next hb1
  have H1 := hide (And.intro hsh1 hbb1)
  have c0 := hsh1.cell 0
  have c1 := hsh1.cell 1
  have c2 := hsh1.cell 2
  have hlt := hsh1.lt
  clear hsh1 hbb1 hb1
  dsimp only
  go_wp2_with fail
  refine (lsecs_any l a D _).mono ?_
  rintro e w2 ⟨rfl, hb2⟩
  have H2 := hide (And.intro (H1.out.1.below hb2 H1.out.1.lt) (H1.out.2.next hb2))
  clear hb2 c0 c1 c2 hlt H1
  have c0 := H2.out.1.cell 0
  have c1 := H2.out.1.cell 1
  have c2 := H2.out.1.cell 2
  have hlt := H2.out.1.lt
  dsimp only
  go_wp2_with fail
  refine (lapart_any l a D HL.out.2.2.1 _ rs hlen' _ (HL.out.2.2.2.1.below H2.out.2)).mono ?_
  rintro e w3 ⟨rfl, hb3⟩
  rw [hdec]
  have H3 := hide (And.intro (H2.out.1.below hb3 H2.out.1.lt) (H2.out.2.next hb3))
  clear hb3 c0 c1 c2 hlt H2
  have c0 := H3.out.1.cell 0
  have c1 := H3.out.1.cell 1
  have c2 := H3.out.1.cell 2
  have hlt := H3.out.1.lt
  dsimp only
  go_wp2_with fail
  refine (lfind_any l a D HL.out.2.2.1 _ rs hlen' N _ (HL.out.2.2.2.1.below H3.out.2)).mono ?_
  rintro e w4 ⟨o, rfl, ho, hb4⟩
  rw [hE0]
  rw [hR0] at ho
  obtain ⟨Af, cf, rfl, hof⟩ := ho.m
  have H4 : Hid (AskF w w4 l a D (.slice A rs.length cp) (.slice Af f.length cf) rs f) := hide ⟨H3.out.1.below hb4 H3.out.1.lt, HL.out.2.2.2.1.below (H3.out.2.next hb4), hof, H3.out.2.next hb4⟩
  clear ho hof hb4 c0 c1 c2 hlt H3
  dsimp only
  go_wp2_with fail
  have hfl : f.length ≤ 60 := by have := HL.out.1.len; omega
  go_loopw [9, 10, 11] (fun m e i wr => ∃ k : Nat, k ≤ f.length ∧ i = .int .i64 (k : Int) ∧ m = .int .i64 ((pos (f.take k)).length : Int) ∧ e = .int .i64 ((lastR (f.take k)).1 + (lastR (f.take k)).2) ∧ Below w4.heap.size w4 wr) (fun _ _ i _ => f.length - (intOf i).toNat)
  case atStart => exact ⟨0, by omega, rfl, rfl, rfl, Below.refl _ _⟩
  case round =>
    obtain ⟨k, hk, rfl, rfl, rfl, hb⟩ := hrel
    have HB := hide hb
    clear hb
    have n2 : (0 : Int) ≤ (k : Int) := by omega
    have hpl := pos_take_le f k
    rw [HL.out.1.count] at hpl
    by_cases hk2 : k < f.length
    · have n1 : (k : Int) < (f.length : Int) := by omega
      obtain ⟨r, hr⟩ : ∃ r, f[k]? = some r := ⟨_, List.getElem?_eq_getElem hk2⟩
      obtain ⟨bf, of, c1, e1, q1⟩ := (H4.out.grow HB.out).found.range hr
      injection e1 with e1 _ e1'
      subst e1 e1'
      obtain ⟨r1, r2, r3⟩ := HL.out.1.each r (List.mem_of_getElem? hr)
      have d0 := q1 0 _ rfl
      have d1 := q1 1 _ rfl
      rw [Nat.add_zero] at d0
      have hpt := pos_take f k r hr
      have hlr := lastR_take hr
      have p0 : (0 : Int) ≤ ((pos (f.take k)).length : Int) := by omega
      have p1 : ((pos (f.take k)).length : Int) ≤ 60 := by omega
      have p2 : r.1 ≤ 60 := by omega
      have p3 : r.2 ≤ 60 := by omega
      have HP := hide (And.intro hpt hlr)
      have hnx : 0 < k → (lastR (f.take k)).1 + (lastR (f.take k)).2 < r.1 := fun h => pair_next HL.out.1.apart h hr
      have hfin : ((pos (f.take (k + 1))).length : Int) = ((pos (f.take k)).length : Int) + r.2 := by omega
      have hfin2 : (lastR (f.take (k + 1))).1 + (lastR (f.take (k + 1))).2 = r.1 + r.2 := by rw [hlr]
      generalize (pos (f.take k)).length = M at p0 p1 hfin ⊢
      generalize (lastR (f.take k)).1 + (lastR (f.take k)).2 = G at hnx ⊢
      have HFIN := hide (And.intro hfin hfin2)
      clear hpt hlr hfin hfin2 q1 hr hpl
      rcases Nat.eq_zero_or_pos k with hk0 | hk0
      · have n3 : ¬ (0 : Int) < (k : Int) := by omega
        clear hnx hk0
        go_wp2_with fail
        go_quiet (fail)
        go_wp2_with fail
        refine ⟨⟨k + 1, by omega, by go_num, ?_, ?_, below_drewN HB.out _⟩, by simp [intOf]; omega⟩
        · rw [HFIN.out.1]
        · rw [HFIN.out.2]
      · have n3 : (0 : Int) < (k : Int) := by omega
        have n4 : ¬ r.1 ≤ G := by have := hnx hk0; omega
        clear hnx
        go_wp2_with fail
        go_quiet (fail)
        go_wp2_with fail
        refine ⟨⟨k + 1, by omega, by go_num, ?_, ?_, below_drewN HB.out _⟩, by simp [intOf]; omega⟩
        · rw [HFIN.out.1]
        · rw [HFIN.out.2]
    · have n1 : ¬ (k : Int) < (f.length : Int) := by omega
      obtain rfl : k = f.length := by omega
      have eE := HL.out.1.end_
      have eN := HL.out.1.count
      rw [← List.take_length (l := f)] at eE eN
      rw [eE, eN]
      have HA := hide (H4.out.grow HB.out)
      clear HB H4 eE eN hpl n1 n2 hk hk2
      go_wp2_with fail
      have hfr : ∀ r ∈ rs ++ f, r64 r := fun r hr => by
        obtain ⟨_, _, _, _, _, _, h1⟩ := HA.out.held
        obtain ⟨_, _, _, _, _, _, h2⟩ := HA.out.found
        rcases List.mem_append.1 hr with hr | hr
        · exact h1 r hr
        · exact h2 r hr
      have HFR := hide hfr
      clear hfr
      let F := runCells (rs ++ f)
      let V1 : Value → World → Prop := fun u W => W.ownsRow wr.heap.size 40 2 u rs.length (runCells rs)
      let V2 : Value → World → Prop := fun u W => W.ownsRow wr.heap.size 40 2 u (rs.length + f.length) F
      have hL : ∀ p ∈ ([(89, EmptyV wr.heap.size), (91, V1), (93, V2)] : Fre.MadeL), Fre.MadeOk (GrowR wr.heap.size F (rs.length * 2)) p.2 := by
        intro p hp
        simp only [List.mem_cons, List.not_mem_nil, or_false] at hp
        rcases hp with rfl | rfl | rfl
        · exact ⟨fun u W W' h hx => EmptyV.stays h hx⟩
        · exact ⟨fun u W W' h hx => own_first h (by simp only [F]; rw [runCells_app, List.take_left' (runCells_len rs)]) rfl hx⟩
        · exact ⟨fun u W W' h hx => own_last h hx⟩
      refine Fre.wp_made (X := GrowR wr.heap.size F (rs.length * 2)) 11 [(89, EmptyV wr.heap.size), (91, V1), (93, V2)] (by kernel_rfl) (by kernel_rfl) hL (by simp) (by simp) ?_
      simp only [List.take_succ_cons, List.take_zero, List.drop_succ_cons, List.drop_zero]
      refine Fre.made_val (.agg #[.int .i64 l, .int .i64 a, .int .i64 (D : Int)]) (by kernel_rfl) (by kernel_rfl) (by kernel_rfl) (fun W hW => exec_load_blk (o := ⟨some 88, _, _, _, _, _⟩) 23 (.tmp 3) rfl w.heap.size rfl 23 _ _ W (grow_blk HA.out.shape HA.out.size hW) Try.underlying23 rfl (by kernel_rfl)) ?_
      simp only [Act.put, List.setIfInBounds_toArray, List.set_cons_zero, List.set_cons_succ]
      refine Fre.made_new 89 (EmptyV wr.heap.size) (by kernel_rfl) (by kernel_rfl) rfl rfl (fun W hW => ⟨.slice (some ⟨W.heap.size, 0, none⟩) 0 0, W.alloc (.cells #[] 40), by kernel_rfl, GrowR.of_below ((Below.refl _ W).alloc (Nat.le_refl _) _), W.heap.size, rfl, GrowR.size hW, Blk.new W _ _⟩) ?_
      simp only [Act.put, List.setIfInBounds_toArray, List.set_cons_zero, List.set_cons_succ]
      refine Fre.made_val (.slice A rs.length cp) (by kernel_rfl) (by kernel_rfl) (by kernel_rfl) (fun _ _ => by kernel_rfl) ?_
      simp only [Act.put, List.setIfInBounds_toArray, List.set_cons_zero, List.set_cons_succ]
      refine Fre.made_new1 89 (EmptyV wr.heap.size) 91 V1 (by kernel_rfl) rfl (by kernel_rfl) rfl rfl (fun u W hW hu => ?hf91) ?_
      case hf91 =>
        obtain ⟨v', w', h1, h2, h3⟩ := app_first (F := F) (N := rs.length * 2) hu (GrowR.size hW) (grow_runs HA.out.held (Nat.le_refl _) (Nat.le_refl _) hW) (by omega)
        exact ⟨v', w', exec_append (o := ⟨some 91, _, _, _, _, _⟩) (.tmp 89) (.tmp 90) 24 rfl u (.slice A rs.length cp) _ _ _ (by kernel_rfl) (by kernel_rfl) h1, h2, h3⟩
      simp only [Act.put, List.setIfInBounds_toArray, List.set_cons_zero, List.set_cons_succ]
      refine Fre.made_val (.slice Af f.length cf) (by kernel_rfl) (by kernel_rfl) (by kernel_rfl) (fun _ _ => by kernel_rfl) ?_
      simp only [Act.put, List.setIfInBounds_toArray, List.set_cons_zero, List.set_cons_succ]
      refine Fre.made_new1 91 V1 93 V2 (by kernel_rfl) rfl (by kernel_rfl) rfl rfl (fun u W hW hu => ?hm93) ?_
      case hm93 =>
        obtain ⟨v', w', h1, h2, h3⟩ := app_more hu (GrowR.size hW) (grow_runs HA.out.found (Nat.le_refl _) (Nat.le_refl _) hW) HL.out.1.some_ (by omega)
        exact ⟨v', w', exec_append (o := ⟨some 93, _, _, _, _, _⟩) (.tmp 91) (.tmp 92) 24 rfl u (.slice Af f.length cf) _ _ _ (by kernel_rfl) (by kernel_rfl) h1, h2, h3⟩
      simp only [Act.put, List.setIfInBounds_toArray, List.set_cons_zero, List.set_cons_succ]
      refine Fre.made_call1 93 V2 (.tuple #[.int .i64 (freeN l a D (rs ++ f)), .int .i64 (freeE l a D (rs ++ f))]) 16 (fun u => #[.agg #[.int .i64 l, .int .i64 a, .int .i64 (D : Int)], u]) (by kernel_rfl) rfl (by kernel_rfl) (by kernel_rfl) (fun u W => by kernel_rfl) (fun u W hW hu => (lfree_any l a D HL.out.2.2.1 u (rs ++ f) (by rw [List.length_append]; omega) W (show RunsM W W.heap.size u (rs ++ f) from OwnRuns.runs ⟨by rw [List.length_append]; exact hu, HFR.out⟩)).mono fun e w' ⟨h1, h2⟩ => ⟨h1, GrowR.of_below h2⟩) ?_
      simp only [Act.put, List.setIfInBounds_toArray, List.set_cons_zero, List.set_cons_succ]
      refine Fre.made_val (.tuple #[.int .i64 (freeN l a D (rs ++ f)), .int .i64 (freeE l a D (rs ++ f))]) (by kernel_rfl) (by kernel_rfl) (by kernel_rfl) (fun _ _ => by kernel_rfl) ?_
      simp only [Act.put, List.setIfInBounds_toArray, List.set_cons_zero, List.set_cons_succ]
      refine Fre.made_val (.int .i64 (freeN l a D (rs ++ f))) (by kernel_rfl) (by kernel_rfl) (by kernel_rfl) (fun _ _ => by kernel_rfl) ?_
      simp only [Act.put, List.setIfInBounds_toArray, List.set_cons_zero, List.set_cons_succ]
      refine Fre.made_val (.int .i64 (freeE l a D (rs ++ f))) (by kernel_rfl) (by kernel_rfl) (by kernel_rfl) (fun _ _ => by kernel_rfl) ?_
      simp only [Act.put, List.setIfInBounds_toArray, List.set_cons_zero, List.set_cons_succ]
      refine Fre.made_val (.int .i64 (freeN l a D (rs ++ f))) (by kernel_rfl) (by kernel_rfl) (by kernel_rfl) (fun _ _ => by kernel_rfl) ?_
      simp only [Act.put, List.setIfInBounds_toArray, List.set_cons_zero, List.set_cons_succ]
      show ∀ w', _ → _
      intro w5 hx5
      simp only [Fre.ended]
      intro x1 _ x2 _ x3 _
      simp only [Act.put, List.setIfInBounds_toArray, List.set_cons_zero, List.set_cons_succ]
      have hb5 := GrowR.below hx5
      have H5 := hide (HA.out.grow hb5)
      clear hb5 hx5
      go_wp2_with fail
      go_loopw [14, 15] (fun m i wr => ∃ k : Nat, E ≤ k ∧ k ≤ D ∧ i = .int .i64 (k : Int) ∧ m = .int .i64 (((freeTo rs k).length : Int) - (N : Int)) ∧ Below w5.heap.size w5 wr) (fun _ i _ => D - (intOf i).toNat)
      case atStart => exact ⟨E, Nat.le_refl _, HL.out.1.le, rfl, by rw [HL.out.1.free, Int.sub_self], Below.refl _ _⟩
      case round =>
        obtain ⟨k, hkE, hkD, rfl, rfl, hb⟩ := hrel
        have HA := hide (H5.out.grow hb)
        have HB := hide hb
        clear hb
        have c2 := HA.out.shape.cell 2
        have hlt := HA.out.shape.lt
        have n2 : (0 : Int) ≤ (k : Int) := by omega
        have hmore := freeTo_len_le (rs := rs) hkE
        rw [HL.out.1.free] at hmore
        have hmost := freeTo_len rs k
        have p0 : (0 : Int) ≤ ((freeTo rs k).length : Int) - (N : Int) := by omega
        have p1 : ((freeTo rs k).length : Int) - (N : Int) ≤ 60 := by omega
        by_cases hk2 : k < D
        · have n1 : (k : Int) < (D : Int) := by omega
          have hsucc := freeTo_succ rs k
          have hone := apart_one HL.out.2.1 hk2
          have HK := hide (And.intro hsucc hone)
          obtain ⟨M, hM⟩ : ∃ M, M = ((freeTo rs k).length : Int) - (N : Int) := ⟨_, rfl⟩
          rw [← hM] at p0 p1 ⊢
          have HM := hide hM
          have hfr2 : ∀ r ∈ rs ++ [((k : Int), (1 : Int))], r64 r := fun r hr => by
            rcases List.mem_append.1 hr with hr | hr
            · exact HFR.out r (List.mem_append_left _ hr)
            · obtain rfl := List.mem_singleton.1 hr
              show (_ ∧ _) ∧ (_ ∧ _)
              omega
          have HFR2 := hide hfr2
          clear hsucc hone hM hmore hmost hfr2
          go_wp2_with fail
          let F := runCells (rs ++ [((k : Int), 1)])
          let V1 : Value → World → Prop := fun u W => W.ownsRow wr.heap.size 40 2 u rs.length (runCells rs)
          let V2 : Value → World → Prop := fun u W => W.ownsRow wr.heap.size 40 2 u (rs.length + 1) F
          have hL : ∀ p ∈ ([(105, EmptyV wr.heap.size), (107, V1), (110, OneV wr.heap.size k), (111, V2)] : Fre.MadeL), Fre.MadeOk (GrowR wr.heap.size F (rs.length * 2)) p.2 := by
            intro p hp
            simp only [List.mem_cons, List.not_mem_nil, or_false] at hp
            rcases hp with rfl | rfl | rfl | rfl
            · exact ⟨fun u W W' h hx => EmptyV.stays h hx⟩
            · exact ⟨fun u W W' h hx => own_first h (by simp only [F]; rw [runCells_app, List.take_left' (runCells_len rs)]) rfl hx⟩
            · exact ⟨fun u W W' h hx => OneV.stays h hx⟩
            · exact ⟨fun u W W' h hx => own_last h hx⟩
          refine Fre.wp_made (X := GrowR wr.heap.size F (rs.length * 2)) 8 [(105, EmptyV wr.heap.size), (107, V1), (110, OneV wr.heap.size k), (111, V2)] (by kernel_rfl) (by kernel_rfl) hL (by simp) (by simp) ?_
          simp only [List.take_succ_cons, List.take_zero, List.drop_succ_cons, List.drop_zero]
          refine Fre.made_val (.agg #[.int .i64 l, .int .i64 a, .int .i64 (D : Int)]) (by kernel_rfl) (by kernel_rfl) (by kernel_rfl) (fun W hW => exec_load_blk (o := ⟨some 104, _, _, _, _, _⟩) 23 (.tmp 3) rfl w.heap.size rfl 23 _ _ W (grow_blk HA.out.shape HA.out.size hW) Try.underlying23 rfl (by kernel_rfl)) ?_
          simp only [Act.put, List.setIfInBounds_toArray, List.set_cons_zero, List.set_cons_succ]
          refine Fre.made_new 105 (EmptyV wr.heap.size) (by kernel_rfl) (by kernel_rfl) rfl rfl (fun W hW => ⟨.slice (some ⟨W.heap.size, 0, none⟩) 0 0, W.alloc (.cells #[] 40), by kernel_rfl, GrowR.of_below ((Below.refl _ W).alloc (Nat.le_refl _) _), W.heap.size, rfl, GrowR.size hW, Blk.new W _ _⟩) ?_
          simp only [Act.put, List.setIfInBounds_toArray, List.set_cons_zero, List.set_cons_succ]
          refine Fre.made_val (.slice A rs.length cp) (by kernel_rfl) (by kernel_rfl) (by kernel_rfl) (fun _ _ => by kernel_rfl) ?_
          simp only [Act.put, List.setIfInBounds_toArray, List.set_cons_zero, List.set_cons_succ]
          refine Fre.made_new1 105 (EmptyV wr.heap.size) 107 V1 (by kernel_rfl) rfl (by kernel_rfl) rfl rfl (fun u W hW hu => ?hf107) ?_
          case hf107 =>
            obtain ⟨v', w', h1, h2, h3⟩ := app_first (F := F) (N := rs.length * 2) hu (GrowR.size hW) (grow_runs HA.out.held (Nat.le_refl _) (Nat.le_refl _) hW) (by omega)
            exact ⟨v', w', exec_append (o := ⟨some 107, _, _, _, _, _⟩) (.tmp 105) (.tmp 106) 24 rfl u (.slice A rs.length cp) _ _ _ (by kernel_rfl) (by kernel_rfl) h1, h2, h3⟩
          simp only [Act.put, List.setIfInBounds_toArray, List.set_cons_zero, List.set_cons_succ]
          refine Fre.made_val (.int .i64 (k : Int)) (by kernel_rfl) (by kernel_rfl) (by kernel_rfl) (fun _ _ => by kernel_rfl) ?_
          simp only [Act.put, List.setIfInBounds_toArray, List.set_cons_zero, List.set_cons_succ]
          refine Fre.made_val (.agg #[.int .i64 (k : Int), .int .i64 1]) (by kernel_rfl) (by kernel_rfl) (by kernel_rfl) (fun W hW => ?hs1) ?_
          case hs1 => go_simp
          simp only [Act.put, List.setIfInBounds_toArray, List.set_cons_zero, List.set_cons_succ]
          refine Fre.made_new 110 (OneV wr.heap.size k) (by kernel_rfl) (by kernel_rfl) rfl rfl (fun W hW => ⟨.slice (some ⟨W.heap.size, 0, none⟩) 1 1, W.alloc (.cells #[.int .i64 (k : Int), .int .i64 1] 40), by kernel_rfl, GrowR.of_below ((Below.refl _ W).alloc (Nat.le_refl _) _), W.heap.size, rfl, GrowR.size hW, Blk.new W _ _⟩) ?_
          simp only [Act.put, List.setIfInBounds_toArray, List.set_cons_zero, List.set_cons_succ]
          refine Fre.made_new2 107 110 V1 (OneV wr.heap.size k) 111 V2 (by kernel_rfl) rfl rfl (by kernel_rfl) rfl rfl (fun u v W hW hu hv => ?hm111) ?_
          case hm111 =>
            obtain ⟨r, rfl, hrm⟩ := OneV.runs hv (by omega)
            obtain ⟨v', w', h1, h2, h3⟩ := app_more hu (GrowR.size hW) hrm (by simp) (by simp; omega)
            exact ⟨v', w', exec_append (o := ⟨some 111, _, _, _, _, _⟩) (.tmp 107) (.tmp 110) 24 rfl u (.slice (some ⟨r, 0, none⟩) 1 1) _ _ _ (by kernel_rfl) (by kernel_rfl) h1, h2, h3⟩
          simp only [Act.put, List.setIfInBounds_toArray, List.set_cons_zero, List.set_cons_succ]
          show ∀ w', _ → _
          intro w6 hx6
          simp only [Fre.ended]
          intro x1 _ x2 _ x3 _ x4 h4
          simp only [Act.put, List.setIfInBounds_toArray, List.set_cons_zero, List.set_cons_succ]
          have hb6 := GrowR.below hx6
          have H6 := hide (HB.out.next hb6)
          have hr7 := OwnRuns.runs (l := rs ++ [((k : Int), (1 : Int))]) ⟨by rw [List.length_append]; exact h4, HFR2.out⟩
          have HR7 := hide hr7
          clear hb6 hx6 h4 hr7
          go_wp2_with fail
          refine (lapart_any l a D HL.out.2.2.1 _ _ (by simp; omega) _ HR7.out).mono ?_
          rintro e w7 ⟨rfl, hb7⟩
          have H7 := hide (H6.out.next hb7)
          clear hb7
          dsimp only
          cases hcon : (pos rs).contains k with
          | true =>
            have hno : decide (apartP l a D (rs ++ [((k : Int), 1)])) = false := decide_eq_false fun h => by
              rw [HK.out.2.1 h] at hcon
              cases hcon
            have hs := HK.out.1
            rw [hcon, if_pos rfl, List.append_nil] at hs
            have HS := hide hs
            clear hs
            rw [hno]
            go_wp2_with fail
            refine ⟨⟨k + 1, by omega, by omega, by go_num, ?_, H7.out⟩, by simp [intOf]; omega⟩
            rw [HS.out, HM.out]
          | false =>
            have hyes : decide (apartP l a D (rs ++ [((k : Int), 1)])) = true := decide_eq_true (HK.out.2.2 hcon)
            have hs := HK.out.1
            rw [hcon, if_neg (by simp)] at hs
            have hs2 : (freeTo rs (k + 1)).length = (freeTo rs k).length + 1 := by rw [hs, List.length_append]; rfl
            have HS := hide hs2
            clear hs hs2
            rw [hyes]
            go_wp2_with fail
            refine ⟨⟨k + 1, by omega, by omega, by go_num, ?_, H7.out⟩, by simp [intOf]; omega⟩
            rw [HS.out, HM.out]
            congr 1
            omega
        · obtain rfl : k = D := by omega
          have n1 : ¬ (k : Int) < (k : Int) := by omega
          have hall : ((freeTo rs k).length : Int) - (N : Int) = freeN l a k (rs ++ f) := by
            have := HL.out.1.rest HL.out.2.1
            rw [freeN, if_pos HL.out.1.ok, Int.toNat_natCast]
            omega
          rw [hall]
          clear hall p0 p1 hmore hmost
          go_wp2_with fail
          let F := runCells (rs ++ f)
          let V1 : Value → World → Prop := fun u W => W.ownsRow wr.heap.size 40 2 u rs.length (runCells rs)
          let V2 : Value → World → Prop := fun u W => W.ownsRow wr.heap.size 40 2 u (rs.length + f.length) F
          have hL : ∀ p ∈ ([(120, EmptyV wr.heap.size), (122, V1), (124, V2)] : Fre.MadeL), Fre.MadeOk (GrowR wr.heap.size F (rs.length * 2)) p.2 := by
            intro p hp
            simp only [List.mem_cons, List.not_mem_nil, or_false] at hp
            rcases hp with rfl | rfl | rfl
            · exact ⟨fun u W W' h hx => EmptyV.stays h hx⟩
            · exact ⟨fun u W W' h hx => own_first h (by simp only [F]; rw [runCells_app, List.take_left' (runCells_len rs)]) rfl hx⟩
            · exact ⟨fun u W W' h hx => own_last h hx⟩
          refine Fre.wp_made (X := GrowR wr.heap.size F (rs.length * 2)) 17 [(120, EmptyV wr.heap.size), (122, V1), (124, V2)] (by kernel_rfl) (by kernel_rfl) hL (by simp) (by simp) ?_
          simp only [List.take_succ_cons, List.take_zero, List.drop_succ_cons, List.drop_zero]
          refine Fre.made_val (.int .i64 (N : Int)) (by kernel_rfl) (by kernel_rfl) (by kernel_rfl) (fun _ _ => by kernel_rfl) ?_
          simp only [Act.put, List.setIfInBounds_toArray, List.set_cons_zero, List.set_cons_succ]
          refine Fre.made_val (.int .i64 (N : Int)) (by kernel_rfl) (by kernel_rfl) (by kernel_rfl) (fun _ _ => by kernel_rfl) ?_
          simp only [Act.put, List.setIfInBounds_toArray, List.set_cons_zero, List.set_cons_succ]
          refine Fre.made_val (.bool true) (by kernel_rfl) (by kernel_rfl) (by kernel_rfl) (fun W hW => ?hs2) ?_
          case hs2 => go_simp
          simp only [Act.put, List.setIfInBounds_toArray, List.set_cons_zero, List.set_cons_succ]
          refine Fre.made_val (.bool true) (by kernel_rfl) (by kernel_rfl) (by kernel_rfl) (fun _ _ => by kernel_rfl) ?_
          simp only [Act.put, List.setIfInBounds_toArray, List.set_cons_zero, List.set_cons_succ]
          refine Fre.made_val (.agg #[.int .i64 l, .int .i64 a, .int .i64 (k : Int)]) (by kernel_rfl) (by kernel_rfl) (by kernel_rfl) (fun W hW => exec_load_blk (o := ⟨some 119, _, _, _, _, _⟩) 23 (.tmp 3) rfl w.heap.size rfl 23 _ _ W (grow_blk HA.out.shape HA.out.size hW) Try.underlying23 rfl (by kernel_rfl)) ?_
          simp only [Act.put, List.setIfInBounds_toArray, List.set_cons_zero, List.set_cons_succ]
          refine Fre.made_new 120 (EmptyV wr.heap.size) (by kernel_rfl) (by kernel_rfl) rfl rfl (fun W hW => ⟨.slice (some ⟨W.heap.size, 0, none⟩) 0 0, W.alloc (.cells #[] 40), by kernel_rfl, GrowR.of_below ((Below.refl _ W).alloc (Nat.le_refl _) _), W.heap.size, rfl, GrowR.size hW, Blk.new W _ _⟩) ?_
          simp only [Act.put, List.setIfInBounds_toArray, List.set_cons_zero, List.set_cons_succ]
          refine Fre.made_val (.slice A rs.length cp) (by kernel_rfl) (by kernel_rfl) (by kernel_rfl) (fun _ _ => by kernel_rfl) ?_
          simp only [Act.put, List.setIfInBounds_toArray, List.set_cons_zero, List.set_cons_succ]
          refine Fre.made_new1 120 (EmptyV wr.heap.size) 122 V1 (by kernel_rfl) rfl (by kernel_rfl) rfl rfl (fun u W hW hu => ?hf122) ?_
          case hf122 =>
            obtain ⟨v', w', h1, h2, h3⟩ := app_first (F := F) (N := rs.length * 2) hu (GrowR.size hW) (grow_runs HA.out.held (Nat.le_refl _) (Nat.le_refl _) hW) (by omega)
            exact ⟨v', w', exec_append (o := ⟨some 122, _, _, _, _, _⟩) (.tmp 120) (.tmp 121) 24 rfl u (.slice A rs.length cp) _ _ _ (by kernel_rfl) (by kernel_rfl) h1, h2, h3⟩
          simp only [Act.put, List.setIfInBounds_toArray, List.set_cons_zero, List.set_cons_succ]
          refine Fre.made_val (.slice Af f.length cf) (by kernel_rfl) (by kernel_rfl) (by kernel_rfl) (fun _ _ => by kernel_rfl) ?_
          simp only [Act.put, List.setIfInBounds_toArray, List.set_cons_zero, List.set_cons_succ]
          refine Fre.made_new1 122 V1 124 V2 (by kernel_rfl) rfl (by kernel_rfl) rfl rfl (fun u W hW hu => ?hm124) ?_
          case hm124 =>
            obtain ⟨v', w', h1, h2, h3⟩ := app_more hu (GrowR.size hW) (grow_runs HA.out.found (Nat.le_refl _) (Nat.le_refl _) hW) HL.out.1.some_ (by omega)
            exact ⟨v', w', exec_append (o := ⟨some 124, _, _, _, _, _⟩) (.tmp 122) (.tmp 123) 24 rfl u (.slice Af f.length cf) _ _ _ (by kernel_rfl) (by kernel_rfl) h1, h2, h3⟩
          simp only [Act.put, List.setIfInBounds_toArray, List.set_cons_zero, List.set_cons_succ]
          refine Fre.made_call1 124 V2 (.bool true) 20 (fun u => #[.agg #[.int .i64 l, .int .i64 a, .int .i64 (k : Int)], u]) (by kernel_rfl) rfl (by kernel_rfl) (by kernel_rfl) (fun u W => by kernel_rfl) (fun u W hW hu => (lapart_any l a k HL.out.2.2.1 u (rs ++ f) (by rw [List.length_append]; omega) W (show RunsM W W.heap.size u (rs ++ f) from OwnRuns.runs ⟨by rw [List.length_append]; exact hu, HFR.out⟩)).mono fun e w' ⟨h1, h2⟩ => ⟨by rw [h1, decide_eq_true HL.out.1.ok], GrowR.of_below h2⟩) ?_
          simp only [Act.put, List.setIfInBounds_toArray, List.set_cons_zero, List.set_cons_succ]
          refine Fre.made_val (.bool true) (by kernel_rfl) (by kernel_rfl) (by kernel_rfl) (fun _ _ => by kernel_rfl) ?_
          simp only [Act.put, List.setIfInBounds_toArray, List.set_cons_zero, List.set_cons_succ]
          refine Fre.made_val (.bool true) (by kernel_rfl) (by kernel_rfl) (by kernel_rfl) (fun _ _ => by kernel_rfl) ?_
          simp only [Act.put, List.setIfInBounds_toArray, List.set_cons_zero, List.set_cons_succ]
          refine Fre.made_val (.int .i64 (freeN l a k (rs ++ f))) (by kernel_rfl) (by kernel_rfl) (by kernel_rfl) (fun _ _ => by kernel_rfl) ?_
          simp only [Act.put, List.setIfInBounds_toArray, List.set_cons_zero, List.set_cons_succ]
          refine Fre.made_val (.int .i64 (freeN l a k (rs ++ f))) (by kernel_rfl) (by kernel_rfl) (by kernel_rfl) (fun _ _ => by kernel_rfl) ?_
          simp only [Act.put, List.setIfInBounds_toArray, List.set_cons_zero, List.set_cons_succ]
          refine Fre.made_val (.bool true) (by kernel_rfl) (by kernel_rfl) (by kernel_rfl) (fun W hW => ?hs3) ?_
          case hs3 => go_simp
          simp only [Act.put, List.setIfInBounds_toArray, List.set_cons_zero, List.set_cons_succ]
          refine Fre.made_val (.bool true) (by kernel_rfl) (by kernel_rfl) (by kernel_rfl) (fun _ _ => by kernel_rfl) ?_
          simp only [Act.put, List.setIfInBounds_toArray, List.set_cons_zero, List.set_cons_succ]
          show ∀ w', _ → _
          intro w8 hx8
          simp only [Fre.ended]
          intro x1 _ x2 _ x3 _
          simp only [Act.put, List.setIfInBounds_toArray, List.set_cons_zero, List.set_cons_succ]
          have hb8 := GrowR.below hx8
          have H8 := hide (HA.out.grow hb8).below
          clear hb8 hx8
          go_wp2_with fail
          go_ret
          exact ⟨rfl, H8.out⟩
end Go.Proofs.Ytajeohmmobgcjaa
