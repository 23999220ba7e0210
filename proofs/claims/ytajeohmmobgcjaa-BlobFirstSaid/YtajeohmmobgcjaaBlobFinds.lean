/- spencelaw07: BlobFinds. -/
import Derived.Test.YtajeohmmobgcjaaSRuns
namespace Go.Proofs.Ytajeohmmobgcjaa
open Go Go.RowKit
set_option maxRecDepth 100000
/-- runs behind a row of one's own -/
theorem OwnRuns.appM {base B c : Nat} {w wm : World} {v : Value} {l news : List Run} {A : Option Addr} (h : OwnRuns base w v l) (hbase : base ≤ w.heap.size) (hw : Below w.heap.size w wm) (hm : RunsM wm B (.slice A news.length c) news) (hl : l.length + news.length ≤ 100000) :
    ∃ v' w', (Builtin.append_ #[24, 24] 24 #[v, .slice A news.length c]).run Try.prog wm = .ok v' w' ∧ OwnRuns base w' v' (l ++ news) ∧ wm.grownBy w' v.ownBlock ∧ Below base w w' := by
  obtain ⟨i, hi, hz0, hz1, hz2⟩ := info_parts info_run
  have hr := h.below hw
  have hs := hw.size
  obtain ⟨A', cap, hv, hcap, hnil, hA, h64⟩ := hm
  injection hv with e1 _ e2
  subst e1 e2
  rcases Nat.eq_zero_or_pos news.length with h0 | h0
  · obtain rfl := List.length_eq_zero_iff.1 h0
    rw [List.append_nil]
    cases A with
    | none =>
      obtain rfl := hnil rfl
      exact ⟨v, wm, run_append_owned_none (P := Try.prog) (w := wm) base 24 24 40 i 2 Try.underlying24 hi v l.length (runCells l) hr.1, hr, World.grownBy.refl wm _, Below.mono hw hbase⟩
    | some ad =>
      obtain ⟨v', w', k1, k2, k3, _, _⟩ := run_append_own_at (P := Try.prog) wm base 24 24 40 i (.agg #[.int .i64 0, .int .i64 0]) 2 16 Try.underlying24 hi hz0 hz1 hz2 rfl (by omega) v l.length (runCells l) hr.1 ad 0 c [] rfl (fun j u hu => by simp at hu) (fun u hu => by cases hu) (by simp only [maxLen]; omega) (by omega) (by omega)
      exact ⟨v', w', k1, ⟨by simpa using k2, h.2⟩, k3, (Below.mono hw hbase).grown k3 (by omega) fun k hk => (owned_ltN hr.1 hk).1⟩
  · obtain ⟨b, off, rfl, hb, hc⟩ := hA h0
    exact h.app hbase hw h0 hl b off hc h64 c
/-- what stays while the law asks: the shape, the runs that came in, the runs that are lent -/
structure Asks (w0 w : World) (l a d : Int) (v I : Value) (rs : List Run) : Prop where
  shape : Blk w w0.heap.size 23 #[.int .i64 l, .int .i64 a, .int .i64 d]
  held : RunsM w w.heap.size v rs
  lent : RunsM w w.heap.size I rs
  below : Below w0.heap.size w0 w
theorem Asks.grow {w0 w w' : World} {l a d : Int} {v I : Value} {rs : List Run} (h : Asks w0 w l a d v I rs) (hb : Below w.heap.size w w') : Asks w0 w' l a d v I rs :=
  ⟨h.shape.below hb h.shape.lt, h.held.below hb, h.lent.below hb, h.below.next hb⟩
theorem OwnRuns.runs {base : Nat} {w : World} {v : Value} {l : List Run} (h : OwnRuns base w v l) : RunsM w w.heap.size v l := by
  obtain ⟨A, cap, rfl, hm⟩ := h.m
  exact hm
theorem run_eql_bool (b : Bool) (w : World) : (binOp .eql 4 (.bool b) (.bool b)).run Try.prog w = .ok (.bool true) w := by
  have h2 := Try.underlying4
  go_simp
theorem findP_len (rs : List Run) (d n : Nat) : (findP rs d n).length ≤ d := by
  by_cases h : n ≤ (freeTo rs d).length
  · obtain ⟨k, hk, he⟩ := findP_where d h
    rw [findP_at hk he]
    exact Nat.le_trans (gok rs k).len hk
  · unfold findP
    rw [List.take_of_length_le (by omega)]
    exact (gok rs d).len
theorem findR_len (l a d : Int) (rs : List Run) (n : Int) : (findR l a d rs n).length ≤ 1000000 := by
  rw [findR]
  split
  · rename_i h
    have h1 := findP_len rs d.toNat n.toNat
    by_cases hap : apartP l a d rs ∧ 0 ≤ n
    · have := apart_d hap.1
      omega
    · rw [findE, if_neg hap] at h
      cases h
  · simp
set_option maxHeartbeats 4000000 in
theorem finds_in (l a d n : Int) (hn : -9223372036854775808 ≤ n ∧ n ≤ 9223372036854775807) (v : Value) (rs : List Run) (hlen : rs.length ≤ 60) (hsec : secs l a d ≤ 60) (w : World) (hrs : RunsM w w.heap.size v rs) :
    Calls Try.prog 3 #[.agg #[.int .i64 l, .int .i64 a, .int .i64 d], .int .i64 n, v] w fun e w' => e = .returned (.bool true) ∧ Below w.heap.size w w' := by
  have h64 : rightP l a d → d ≤ 64 := fun h => by
    have h1 := h.1
    have h2 := h.2.1
    rw [secs, if_pos h] at hsec
    unfold inW at h1 h2
    omega
  have hlen' : rs.length ≤ 1000000 := by omega
  obtain ⟨A, cp, rfl, hrest⟩ := id hrs
  clear hrest
  have hb0 : Below w.heap.size w (w.alloc (.cells #[.int .i64 l, .int .i64 a, .int .i64 d] 23)) := (Below.refl _ w).alloc (Nat.le_refl _) _
  have HRS := hide (And.intro (hrs.below hb0) h64)
  clear hrs hb0 h64
  go_enter Try.func3, Try.ntmps3
  go_wp2_with fail
  refine (rsecs_any l a d _).mono ?_
  rintro e w1 ⟨rfl, hb⟩
  have hsh : Blk w1 w.heap.size 23 #[.int .i64 l, .int .i64 a, .int .i64 d] := (Blk.new w _ _).below hb (by rw [size_alloc]; omega)
  have H1 := hide (And.intro hsh (And.intro (HRS.out.1.below hb) (((Below.refl _ w).alloc (Nat.le_refl _) (.cells #[.int .i64 l, .int .i64 a, .int .i64 d] 23)).next hb)))
  clear hb hsh
  obtain ⟨vI, w2, hap, hown, hgr, hbe⟩ := OwnRuns.appM (base := w1.heap.size) (w := w1.alloc (.cells #[] 40)) (wm := w1.alloc (.cells #[] 40)) (v := .slice (some ⟨w1.heap.size, 0, none⟩) 0 0) (l := []) (B := (w1.alloc (.cells #[] 40)).heap.size) (c := cp) (A := A) (news := rs)
    ⟨⟨rfl, .inr ⟨w1.heap.size, 0, #[], rfl, Nat.le_refl _, Blk.new w1 40 #[], Nat.le_refl _, Nat.zero_le _, rfl, rfl⟩⟩, fun r hr => by cases hr⟩ (by rw [size_alloc]; omega) (Below.refl _ _) (H1.out.2.1.below ((Below.refl _ _).alloc (Nat.le_refl _) _)) (by simp; omega)
  have hb2 : Below w1.heap.size w1 w2 := ((Below.refl _ w1).alloc (Nat.le_refl _) _).trans hbe
  have H2 : Hid (Asks w w2 l a d (.slice A rs.length cp) vI rs) := hide ⟨H1.out.1.below hb2 H1.out.1.lt, H1.out.2.1.below hb2, hown.runs, H1.out.2.2.next hb2⟩
  have HAP := hide hap
  clear hap hown hgr hbe hb2
  have c0 := H2.out.shape.cell 0
  have c1 := H2.out.shape.cell 1
  have c2 := H2.out.shape.cell 2
  have hlt := H2.out.shape.lt
  dsimp only
  go_wp2_with (at_builtin; refine wpList_value (o := ⟨some 27, _, _, _, _, _⟩) rfl vI w2 (exec_append (o := ⟨some 27, _, _, _, _, _⟩) (.tmp 25) (.tmp 26) 24 rfl (.slice (some ⟨w1.heap.size, 0, none⟩) 0 0) (.slice A rs.length cp) _ _ _ rfl rfl HAP.out) ?_)
  refine (lfind_any l a d HRS.out.2 vI rs hlen' n w2 H2.out.lent).mono ?_
  rintro e w3 ⟨o1, rfl, ho1, hb3⟩
  have H3 := hide (And.intro (H2.out.grow hb3) ho1.runs)
  clear ho1 hb3 c0 c1 c2 hlt H2 HAP
  have c0 := H3.out.1.shape.cell 0
  have c1 := H3.out.1.shape.cell 1
  have c2 := H3.out.1.shape.cell 2
  have hlt := H3.out.1.shape.lt
  dsimp only
  go_wp2_with fail
  refine (rfind_any l a d _ rs hlen' n w3 H3.out.1.held).mono ?_
  rintro e w4 ⟨o2, rfl, ho2, hb4⟩
  have H4 := hide (And.intro (H3.out.1.grow hb4) (And.intro (H3.out.2.below hb4) ho2.runs))
  clear ho2 hb4 c0 c1 c2 hlt H3
  have c0 := H4.out.1.shape.cell 0
  have c1 := H4.out.1.shape.cell 1
  have c2 := H4.out.1.shape.cell 2
  have hlt := H4.out.1.shape.lt
  dsimp only
  go_wp2_with fail
  refine (lfree_any l a d HRS.out.2 vI rs hlen' w4 H4.out.1.lent).mono ?_
  rintro e w5 ⟨rfl, hb5⟩
  have H5 := hide (And.intro (H4.out.1.grow hb5) (And.intro (H4.out.2.1.below hb5) (H4.out.2.2.below hb5)))
  clear hb5 c0 c1 c2 hlt H4
  have c0 := H5.out.1.shape.cell 0
  have c1 := H5.out.1.shape.cell 1
  have c2 := H5.out.1.shape.cell 2
  have hlt := H5.out.1.shape.lt
  dsimp only
  go_wp2_with fail
  refine (rfree_any l a d _ rs hlen' w5 H5.out.1.held).mono ?_
  rintro e w6 ⟨rfl, hb6⟩
  have HA := hide (H5.out.1.grow hb6)
  have HO := hide (And.intro (H5.out.2.1.below hb6) (H5.out.2.2.below hb6))
  clear hb6 c0 c1 c2 hlt H5
  have hfl : (findR l a d rs n).length ≤ 1000000 := findR_len l a d rs n
  dsimp only
  go_wp2_with fail
  refine wp_made 42 [] (by kernel_rfl) (by kernel_rfl) (by intro p hp; cases hp) List.nodup_nil (by intro t ht; cases ht) ?_
  simp only [List.take_succ_cons, List.take_zero, List.drop_succ_cons, List.drop_zero]
  refine made_val (.int .i64 n) (by kernel_rfl) (by kernel_rfl) (by kernel_rfl) (fun _ _ => by kernel_rfl) ?_
  simp only [Act.put, List.setIfInBounds_toArray, List.set_cons_zero, List.set_cons_succ]
  refine made_call (.int .i64 (needP n)) 18 #[.int .i64 n] (by kernel_rfl) (by kernel_rfl) (by kernel_rfl) (fun W => by kernel_rfl) (fun W hW => (need_any n hn W).mono fun e w' ⟨h1, h2⟩ => ⟨h1, by rw [h2]; exact Below.refl _ _⟩) ?_
  simp only [Act.put, List.setIfInBounds_toArray, List.set_cons_zero, List.set_cons_succ]
  refine made_val (.int .i64 n) (by kernel_rfl) (by kernel_rfl) (by kernel_rfl) (fun _ _ => by kernel_rfl) ?_
  simp only [Act.put, List.setIfInBounds_toArray, List.set_cons_zero, List.set_cons_succ]
  refine made_call (.int .i64 (needP n)) 19 #[.int .i64 n] (by kernel_rfl) (by kernel_rfl) (by kernel_rfl) (fun W => by kernel_rfl) (fun W hW => (rneed_any n hn W).mono fun e w' ⟨h1, h2⟩ => ⟨h1, by rw [h2]; exact Below.refl _ _⟩) ?_
  simp only [Act.put, List.setIfInBounds_toArray, List.set_cons_zero, List.set_cons_succ]
  refine made_val (.bool true) (by kernel_rfl) (by kernel_rfl) (by kernel_rfl) (fun W hW => ?hc1) ?_
  case hc1 => go_simp
  simp only [Act.put, List.setIfInBounds_toArray, List.set_cons_zero, List.set_cons_succ]
  refine made_val (.bool true) (by kernel_rfl) (by kernel_rfl) (by kernel_rfl) (fun _ _ => by kernel_rfl) ?_
  simp only [Act.put, List.setIfInBounds_toArray, List.set_cons_zero, List.set_cons_succ]
  refine made_val (.agg #[.int .i64 l, .int .i64 a, .int .i64 d]) (by kernel_rfl) (by kernel_rfl) (by kernel_rfl) (fun W hW => exec_load_blk (o := ⟨some 60, _, _, _, _, _⟩) 23 (.tmp 3) rfl w.heap.size rfl 23 _ _ W (HA.out.grow hW).shape Try.underlying23 rfl (by kernel_rfl)) ?_
  simp only [Act.put, List.setIfInBounds_toArray, List.set_cons_zero, List.set_cons_succ]
  refine made_val (vI) (by kernel_rfl) (by kernel_rfl) (by kernel_rfl) (fun _ _ => by kernel_rfl) ?_
  simp only [Act.put, List.setIfInBounds_toArray, List.set_cons_zero, List.set_cons_succ]
  refine made_call (.bool (decide (apartP l a d rs))) 20 #[.agg #[.int .i64 l, .int .i64 a, .int .i64 d], vI] (by kernel_rfl) (by kernel_rfl) (by kernel_rfl) (fun W => by kernel_rfl) (fun W hW => lapart_any l a d HRS.out.2 vI rs hlen' W (HA.out.grow hW).lent) ?_
  simp only [Act.put, List.setIfInBounds_toArray, List.set_cons_zero, List.set_cons_succ]
  refine made_val (.agg #[.int .i64 l, .int .i64 a, .int .i64 d]) (by kernel_rfl) (by kernel_rfl) (by kernel_rfl) (fun W hW => exec_load_blk (o := ⟨some 63, _, _, _, _, _⟩) 23 (.tmp 3) rfl w.heap.size rfl 23 _ _ W (HA.out.grow hW).shape Try.underlying23 rfl (by kernel_rfl)) ?_
  simp only [Act.put, List.setIfInBounds_toArray, List.set_cons_zero, List.set_cons_succ]
  refine made_val (.slice A rs.length cp) (by kernel_rfl) (by kernel_rfl) (by kernel_rfl) (fun _ _ => by kernel_rfl) ?_
  simp only [Act.put, List.setIfInBounds_toArray, List.set_cons_zero, List.set_cons_succ]
  refine made_call (.bool (decide (apartP l a d rs))) 21 #[.agg #[.int .i64 l, .int .i64 a, .int .i64 d], .slice A rs.length cp] (by kernel_rfl) (by kernel_rfl) (by kernel_rfl) (fun W => by kernel_rfl) (fun W hW => rapart_any l a d (.slice A rs.length cp) rs hlen' W (HA.out.grow hW).held) ?_
  simp only [Act.put, List.setIfInBounds_toArray, List.set_cons_zero, List.set_cons_succ]
  refine made_val (.bool true) (by kernel_rfl) (by kernel_rfl) (by kernel_rfl) (fun W hW => ?hc2) ?_
  case hc2 => go_simp
  simp only [Act.put, List.setIfInBounds_toArray, List.set_cons_zero, List.set_cons_succ]
  refine made_val (.bool true) (by kernel_rfl) (by kernel_rfl) (by kernel_rfl) (fun _ _ => by kernel_rfl) ?_
  simp only [Act.put, List.setIfInBounds_toArray, List.set_cons_zero, List.set_cons_succ]
  refine made_val (.bool true) (by kernel_rfl) (by kernel_rfl) (by kernel_rfl) (fun _ _ => by kernel_rfl) ?_
  simp only [Act.put, List.setIfInBounds_toArray, List.set_cons_zero, List.set_cons_succ]
  refine made_val (.int .i64 (findE l a d rs n)) (by kernel_rfl) (by kernel_rfl) (by kernel_rfl) (fun _ _ => by kernel_rfl) ?_
  simp only [Act.put, List.setIfInBounds_toArray, List.set_cons_zero, List.set_cons_succ]
  refine made_val (.int .i64 (findE l a d rs n)) (by kernel_rfl) (by kernel_rfl) (by kernel_rfl) (fun _ _ => by kernel_rfl) ?_
  simp only [Act.put, List.setIfInBounds_toArray, List.set_cons_zero, List.set_cons_succ]
  refine made_val (.bool true) (by kernel_rfl) (by kernel_rfl) (by kernel_rfl) (fun W hW => ?hc3) ?_
  case hc3 => go_simp
  simp only [Act.put, List.setIfInBounds_toArray, List.set_cons_zero, List.set_cons_succ]
  refine made_val (.bool true) (by kernel_rfl) (by kernel_rfl) (by kernel_rfl) (fun _ _ => by kernel_rfl) ?_
  simp only [Act.put, List.setIfInBounds_toArray, List.set_cons_zero, List.set_cons_succ]
  refine made_val (.bool true) (by kernel_rfl) (by kernel_rfl) (by kernel_rfl) (fun _ _ => by kernel_rfl) ?_
  simp only [Act.put, List.setIfInBounds_toArray, List.set_cons_zero, List.set_cons_succ]
  refine made_val (o1) (by kernel_rfl) (by kernel_rfl) (by kernel_rfl) (fun _ _ => by kernel_rfl) ?_
  simp only [Act.put, List.setIfInBounds_toArray, List.set_cons_zero, List.set_cons_succ]
  refine made_val (o2) (by kernel_rfl) (by kernel_rfl) (by kernel_rfl) (fun _ _ => by kernel_rfl) ?_
  simp only [Act.put, List.setIfInBounds_toArray, List.set_cons_zero, List.set_cons_succ]
  refine made_call (.bool true) 22 #[o1, o2] (by kernel_rfl) (by kernel_rfl) (by kernel_rfl) (fun W => by kernel_rfl) (fun W hW => sameRuns_any o1 o2 (findR l a d rs n) hfl W (HO.out.1.below hW) (HO.out.2.below hW)) ?_
  simp only [Act.put, List.setIfInBounds_toArray, List.set_cons_zero, List.set_cons_succ]
  refine made_val (.bool true) (by kernel_rfl) (by kernel_rfl) (by kernel_rfl) (fun _ _ => by kernel_rfl) ?_
  simp only [Act.put, List.setIfInBounds_toArray, List.set_cons_zero, List.set_cons_succ]
  refine made_val (.bool true) (by kernel_rfl) (by kernel_rfl) (by kernel_rfl) (fun _ _ => by kernel_rfl) ?_
  simp only [Act.put, List.setIfInBounds_toArray, List.set_cons_zero, List.set_cons_succ]
  refine made_val (.int .i64 (freeE l a d rs)) (by kernel_rfl) (by kernel_rfl) (by kernel_rfl) (fun _ _ => by kernel_rfl) ?_
  simp only [Act.put, List.setIfInBounds_toArray, List.set_cons_zero, List.set_cons_succ]
  refine made_val (.int .i64 (freeE l a d rs)) (by kernel_rfl) (by kernel_rfl) (by kernel_rfl) (fun _ _ => by kernel_rfl) ?_
  simp only [Act.put, List.setIfInBounds_toArray, List.set_cons_zero, List.set_cons_succ]
  refine made_val (.bool true) (by kernel_rfl) (by kernel_rfl) (by kernel_rfl) (fun W hW => ?hc4) ?_
  case hc4 => go_simp
  simp only [Act.put, List.setIfInBounds_toArray, List.set_cons_zero, List.set_cons_succ]
  refine made_val (.bool true) (by kernel_rfl) (by kernel_rfl) (by kernel_rfl) (fun _ _ => by kernel_rfl) ?_
  simp only [Act.put, List.setIfInBounds_toArray, List.set_cons_zero, List.set_cons_succ]
  refine made_val (.bool true) (by kernel_rfl) (by kernel_rfl) (by kernel_rfl) (fun _ _ => by kernel_rfl) ?_
  simp only [Act.put, List.setIfInBounds_toArray, List.set_cons_zero, List.set_cons_succ]
  refine made_val (.int .i64 (freeN l a d rs)) (by kernel_rfl) (by kernel_rfl) (by kernel_rfl) (fun _ _ => by kernel_rfl) ?_
  simp only [Act.put, List.setIfInBounds_toArray, List.set_cons_zero, List.set_cons_succ]
  refine made_val (.int .i64 (freeN l a d rs)) (by kernel_rfl) (by kernel_rfl) (by kernel_rfl) (fun _ _ => by kernel_rfl) ?_
  simp only [Act.put, List.setIfInBounds_toArray, List.set_cons_zero, List.set_cons_succ]
  refine made_val (.bool true) (by kernel_rfl) (by kernel_rfl) (by kernel_rfl) (fun W hW => ?hc5) ?_
  case hc5 => go_simp
  simp only [Act.put, List.setIfInBounds_toArray, List.set_cons_zero, List.set_cons_succ]
  refine made_val (.bool true) (by kernel_rfl) (by kernel_rfl) (by kernel_rfl) (fun _ _ => by kernel_rfl) ?_
  simp only [Act.put, List.setIfInBounds_toArray, List.set_cons_zero, List.set_cons_succ]
  refine made_val (.bool true) (by kernel_rfl) (by kernel_rfl) (by kernel_rfl) (fun _ _ => by kernel_rfl) ?_
  simp only [Act.put, List.setIfInBounds_toArray, List.set_cons_zero, List.set_cons_succ]
  refine made_val (vI) (by kernel_rfl) (by kernel_rfl) (by kernel_rfl) (fun _ _ => by kernel_rfl) ?_
  simp only [Act.put, List.setIfInBounds_toArray, List.set_cons_zero, List.set_cons_succ]
  refine made_val (.slice A rs.length cp) (by kernel_rfl) (by kernel_rfl) (by kernel_rfl) (fun _ _ => by kernel_rfl) ?_
  simp only [Act.put, List.setIfInBounds_toArray, List.set_cons_zero, List.set_cons_succ]
  refine made_call (.bool true) 22 #[vI, .slice A rs.length cp] (by kernel_rfl) (by kernel_rfl) (by kernel_rfl) (fun W => by kernel_rfl) (fun W hW => sameRuns_any vI (.slice A rs.length cp) rs hlen' W (HA.out.grow hW).lent (HA.out.grow hW).held) ?_
  simp only [Act.put, List.setIfInBounds_toArray, List.set_cons_zero, List.set_cons_succ]
  refine made_val (.bool true) (by kernel_rfl) (by kernel_rfl) (by kernel_rfl) (fun _ _ => by kernel_rfl) ?_
  simp only [Act.put, List.setIfInBounds_toArray, List.set_cons_zero, List.set_cons_succ]
  refine made_val (.bool true) (by kernel_rfl) (by kernel_rfl) (by kernel_rfl) (fun _ _ => by kernel_rfl) ?_
  simp only [Act.put, List.setIfInBounds_toArray, List.set_cons_zero, List.set_cons_succ]
  refine made_call (.bool true) 13 #[] (by kernel_rfl) (by kernel_rfl) (by kernel_rfl) (fun W => by kernel_rfl) (fun W hW => awake7_any W) ?_
  simp only [Act.put, List.setIfInBounds_toArray, List.set_cons_zero, List.set_cons_succ]
  refine made_val (.bool true) (by kernel_rfl) (by kernel_rfl) (by kernel_rfl) (fun _ _ => by kernel_rfl) ?_
  simp only [Act.put, List.setIfInBounds_toArray, List.set_cons_zero, List.set_cons_succ]
  show ∀ w', _ → _
  intro w7 hb7
  simp only [ended]
  have H7 := hide (HA.out.below.next hb7)
  clear hb7
  go_wp2_with fail
  go_ret
  exact ⟨rfl, H7.out⟩
end Go.Proofs.Ytajeohmmobgcjaa
