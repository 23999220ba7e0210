/- spenceref07: places. -/
import Derived.Test.YtajeohmmobgcjaaMBlobA
import Derived.Test.YtajeohmmobgcjaaMRDevA
import Derived.Test.YtajeohmmobgcjaaMRBlobA
import Derived.Test.YtajeohmmobgcjaaMGrowR
namespace Go.Proofs.Ytajeohmmobgcjaa
open Go Go.RowKit
set_option maxRecDepth 100000
theorem RefAt.sectors {w : World} {F : Nat → Prop} {g : Nat} {D : Dv} (h : RefAt w F g D) : Calls Try.prog 71 #[.pointer (some ⟨g, 0, none⟩)] w fun e w' => e = .returned (.int .i64 (D.kept.length : Int)) ∧ Below w.heap.size w w' := by
  obtain ⟨ra, c, vw, us, hr⟩ := h
  refine (rsectors_any w hr.ok.n2 hr.blk).mono ?_
  rintro e w' ⟨rfl, rfl⟩
  exact ⟨rfl, Below.refl _ _⟩
theorem RefAt.below {w w' : World} {F : Nat → Prop} {g : Nat} {D : Dv} (h : RefAt w F g D) (hb : Below w.heap.size w w') : RefAt w' F g D := h.keep hb.size fun k hk _ => hb.block k hk
theorem i64_in (x : Int) (h1 : -9223372036854775808 ≤ x) (h2 : x < 9223372036854775808) : IntKind.i64.wrap x = x := by
  simp [IntKind.wrap, IntKind.signed, IntKind.bits]
  omega
/-- numbers in memory -/
def placeC (fst : Int) (l : List Nat) : List Value := l.map fun (p : Nat) => Value.int .i64 (fst + (p : Int))
theorem placeC_len (fst : Int) (l : List Nat) : (placeC fst l).length = l.length := by simp [placeC]
theorem placeC_app (fst : Int) (a b : List Nat) : placeC fst (a ++ b) = placeC fst a ++ placeC fst b := by simp [placeC]
theorem info_int : (Try.prog.info? 3).map (fun i => (i.zero, i.size, i.bytes)) = some (some (.int .i64 0), 1, 8) := by kernel_rfl
/-- a row of one number -/
def OneI (B : Nat) (z : Int) (u : Value) (w : World) : Prop := ∃ r, u = .slice (some ⟨r, 0, none⟩) 1 1 ∧ B ≤ r ∧ Blk w r 3 #[.int .i64 z]
theorem OneI.stays {B N : Nat} {z : Int} {xs : List Value} {u : Value} {w w' : World} (hN : xs.length = N) (h : OneI B z u w) (hx : GrowR B (xs ++ [.int .i64 z]) N w w') : OneI B z u w' := by
  obtain ⟨r, rfl, hr, hb⟩ := h
  refine ⟨r, rfl, hr, ?_⟩
  rcases hx.block r hb.lt with e | ⟨_, _, cs, cs', e, q1, q2, q3, q4, q5⟩
  · exact e.trans hb
  · have hb' : w.heap[r]? = some (.cells #[.int .i64 z] 3 (0, 0)) := hb
    rw [q1] at hb'
    injection hb' with hb'
    injection hb' with hb' e2
    subst hb' e2
    have h1 : cs'.toList.length = 1 := q3
    have h3 := congrArg List.length q5
    rw [List.length_take, h1, List.length_append, List.length_singleton] at h3
    have h0 : xs = [] := List.eq_nil_of_length_eq_zero (by omega)
    subst h0
    have h4 : cs'.toList = [.int .i64 z] := by
      have h5 : cs'.toList.take 1 = [.int .i64 z] := q5
      rwa [List.take_of_length_le (by omega)] at h5
    rw [show cs' = #[.int .i64 z] from Array.ext' h4] at q2
    exact q2
theorem app_int {B k : Nat} {z : Int} {u v : Value} {xs : List Value} {W : World} (h : W.ownsRow B 3 1 v k xs) (hB : B ≤ W.heap.size) (hu : OneI B z u W) (hk : k ≤ 100000) :
    ∃ v' w', (Builtin.append_ #[67, 67] 67 #[v, u]).run Try.prog W = .ok v' w' ∧ GrowR B (xs ++ [.int .i64 z]) k W w' ∧ w'.ownsRow B 3 1 v' (k + 1) (xs ++ [.int .i64 z]) := by
  obtain ⟨i, hi, hz0, hz1, hz2⟩ := info_parts info_int
  obtain ⟨r, rfl, hr, hb⟩ := hu
  obtain ⟨v', w', k1, k2, k3, k4⟩ := run_appG (P := Try.prog) (w := W) B 67 67 3 i _ 1 8 Try.underlying67 hi hz0 hz1 hz2 rfl (by omega) v k xs h ⟨r, 0, none⟩ 1 1 [.int .i64 z] rfl (fun j u hj => by
    match j, hj with
    | 0, hj => injection hj with hj; subst hj; exact hb.cell 0) (fun u hu => by obtain rfl := List.mem_singleton.1 hu; rfl) (by omega) (by simp only [maxLen]; omega) (by omega) hB
  have hxl : xs.length = k := by have := h.1; omega
  refine ⟨v', w', k1, ?_, k2⟩
  rcases k4 with ⟨g, cap, rfl, rfl⟩ | ⟨_, h⟩
  · refine ⟨k3.os, k3.tape, k3.output, k3.size, fun j hj => ?_⟩
    by_cases hkg : j = g
    · subst hkg
      rcases h.2 with ⟨h, _⟩ | ⟨g1, c1, cs, q1, q2, q3, q4, q5, q6, q7⟩
      · cases h
      · rcases k2.2 with ⟨h, _⟩ | ⟨g2, c2, cs', r1, r2, r3, r4, r5, r6, r7⟩
        · cases h
        · injection q1 with q1 _ q1'
          injection r1 with r1 _ r1'
          injection q1 with q1
          injection r1 with r1
          injection q1 with q1
          injection r1 with r1
          subst q1 r1 q1' r1'
          have hF : (xs ++ [Value.int .i64 z]).length = k + 1 := by simp [hxl]
          refine .inr ⟨q2, by omega, cs, cs', _, q3, r3, by rw [r6, q6], ?_, ?_⟩
          · rw [Nat.mul_one] at q7
            rw [q7, List.take_left' hxl]
          · rw [hF]
            rwa [Nat.mul_one] at r7
    · exact .inl (k3.block j hj fun e => hkg (by have e : some g = some j := e.symm; injection e with e; exact e.symm))
  · exact .of_below h
/-- what places goes on with -/
structure PlAt (w0 w : World) (B : Nat) (l a d : Int) (fst : Int) (v : Value) (rs : List Run) (q : Nat) (o : Value) : Prop where
  own : w.ownsRow B 3 1 o q (placeC fst ((pos rs).take q))
  shape : Blk w w0.heap.size 23 #[.int .i64 l, .int .i64 a, .int .i64 d]
  runs : RunsM w w0.heap.size v rs
  below : Below w0.heap.size w0 w
  sz : w0.heap.size < B ∧ B ≤ w.heap.size
theorem PlAt.grow {w0 w w' : World} {B q : Nat} {l a d fst : Int} {v o : Value} {rs : List Run} (h : PlAt w0 w B l a d fst v rs q o) (hb : Below w.heap.size w w') : PlAt w0 w' B l a d fst v rs q o :=
  ⟨owned_keepN h.own fun k _ hl => hb.block k hl, h.shape.below hb h.shape.lt, h.runs.alike fun k hk => hb.block k (by have := h.sz; omega), h.below.next hb, h.sz.1, by have := h.sz.2; have := hb.size; omega⟩
def PlQ (K : Nat) (l a d n : Int) (rs : List Run) (w : World) (e : Ending) (w' : World) : Prop := Below w.heap.size w w' ∧
  ((suitsE K l a d n rs = 0 ∧ ∃ o, e = .returned (.tuple #[o, .bool true]) ∧ w'.ownsRow w.heap.size 3 1 o (pos rs).length (placeC (firstS l a d) (pos rs))) ∨ (suitsE K l a d n rs = 2 ∧ ∃ o, e = .returned (.tuple #[o, .bool false])))
set_option maxHeartbeats 4000000 in
theorem places_any {D : Dv} {F : Nat → Prop} {g : Nat} (l a d n : Int) (h64 : rightP l a d → d ≤ 64) (hn : -9223372036854775808 ≤ n ∧ n ≤ 9223372036854775807) (v : Value) (rs : List Run) (hlen : rs.length ≤ 1000000) (w : World) (hrs : RunsM w w.heap.size v rs) (hd : RefAt w F g D) :
    Calls Try.prog 76 #[.pointer (some ⟨g, 0, none⟩), .agg #[.int .i64 l, .int .i64 a, .int .i64 d], .int .i64 n, v] w (PlQ D.kept.length l a d n rs w) := by
  obtain ⟨Ar, cr, rfl, hrest⟩ := id hrs
  clear hrest
  have hb0 : Below w.heap.size w (w.alloc (.cells #[.int .i64 l, .int .i64 a, .int .i64 d] 23)) := (Below.refl _ w).alloc (Nat.le_refl _) _
  have hp0 : PlAt w (w.alloc (.cells #[.int .i64 l, .int .i64 a, .int .i64 d] 23)) (w.heap.size + 1) l a d (firstS l a d) (.slice Ar rs.length cr) rs 0 (.slice none 0 0) :=
    ⟨World.ownsRow_nil _ _ _ _, Blk.new _ _ _, hrs.alike fun k hk => hb0.block k hk, hb0, by omega, by rw [size_alloc]; omega⟩
  have HP := hide (And.intro hp0 (And.intro (hd.below hb0) (And.intro h64 hn)))
  have hK : D.kept.length ≤ 8192 := by obtain ⟨_, _, _, _, hr⟩ := hd; exact hr.ok.n2
  clear hrs hd h64 hn hp0 hb0
  generalize hKK : D.kept.length = K at hK ⊢
  have HKK := hide hKK
  clear hKK
  by_cases hap : apartP l a d rs
  · by_cases hn0 : 0 ≤ n
    · by_cases hsec : secs l a d ≤ (K : Int)
      · have hf : 0 ≤ firstS l a d ∧ firstS l a d ≤ 8192 := by
          have hR := hap.1
          have h1 := hR.1
          have h2 := hR.2.1
          have h3 := hR.2.2.1
          have h4 := hR.2.2.2
          rw [firstS, if_pos hR]
          unfold inW at h1 h2 h3
          omega
        have f1 := hf.1
        have f2 := hf.2
        clear hf
        have hd1 := apart_d hap
        have n1 : ¬ n < 0 := by omega
        have n2 : ¬ (K : Int) < secs l a d := by omega
        have hcnt := apart_count hap
        go_enter Try.func76, Try.ntmps76
        go_wp2_with fail
        refine wp_made 14 [] (by kernel_rfl) (by kernel_rfl) (by intro p hp; cases hp) List.nodup_nil (by intro t ht; cases ht) ?_
        simp only [List.take_succ_cons, List.take_zero, List.drop_succ_cons, List.drop_zero]
        refine made_val (.agg #[.int .i64 l, .int .i64 a, .int .i64 d]) (by kernel_rfl) (by kernel_rfl) (by kernel_rfl) (fun W hW => exec_load_blk (o := ⟨some 13, _, _, _, _, _⟩) 23 (.tmp 5) rfl w.heap.size rfl 23 _ _ W (HP.out.1.grow hW).shape Try.underlying23 rfl (by kernel_rfl)) ?_
        simp only [Act.put, List.setIfInBounds_toArray, List.set_cons_zero, List.set_cons_succ]
        refine made_val (.slice Ar rs.length cr) (by kernel_rfl) (by kernel_rfl) (by kernel_rfl) (fun _ _ => by kernel_rfl) ?_
        simp only [Act.put, List.setIfInBounds_toArray, List.set_cons_zero, List.set_cons_succ]
        refine made_call (.bool true) 21 #[.agg #[.int .i64 l, .int .i64 a, .int .i64 d], .slice Ar rs.length cr] (by kernel_rfl) (by kernel_rfl) (by kernel_rfl) (fun W => by kernel_rfl) (fun W hW => (rapart_any l a d (.slice Ar rs.length cr) rs hlen W ((HP.out.1.grow hW).runs.widen (HP.out.1.grow hW).below.size)).mono fun e w' ⟨h1, h2⟩ => ⟨by rw [h1, decide_eq_true hap], h2⟩) ?_
        simp only [Act.put, List.setIfInBounds_toArray, List.set_cons_zero, List.set_cons_succ]
        refine made_val (.bool false) (by kernel_rfl) (by kernel_rfl) (by kernel_rfl) (fun W hW => ?hs3) ?_
        case hs3 => go_simp
        simp only [Act.put, List.setIfInBounds_toArray, List.set_cons_zero, List.set_cons_succ]
        refine made_val (.bool false) (by kernel_rfl) (by kernel_rfl) (by kernel_rfl) (fun _ _ => by kernel_rfl) ?_
        simp only [Act.put, List.setIfInBounds_toArray, List.set_cons_zero, List.set_cons_succ]
        refine made_val (.int .i64 n) (by kernel_rfl) (by kernel_rfl) (by kernel_rfl) (fun _ _ => by kernel_rfl) ?_
        simp only [Act.put, List.setIfInBounds_toArray, List.set_cons_zero, List.set_cons_succ]
        refine made_val (.bool false) (by kernel_rfl) (by kernel_rfl) (by kernel_rfl) (fun W hW => ?hs4) ?_
        case hs4 => go_simp
        simp only [Act.put, List.setIfInBounds_toArray, List.set_cons_zero, List.set_cons_succ]
        refine made_val (.bool false) (by kernel_rfl) (by kernel_rfl) (by kernel_rfl) (fun _ _ => by kernel_rfl) ?_
        simp only [Act.put, List.setIfInBounds_toArray, List.set_cons_zero, List.set_cons_succ]
        refine made_val (.bool false) (by kernel_rfl) (by kernel_rfl) (by kernel_rfl) (fun _ _ => by kernel_rfl) ?_
        simp only [Act.put, List.setIfInBounds_toArray, List.set_cons_zero, List.set_cons_succ]
        refine made_val (.pointer (some ⟨g, 0, none⟩)) (by kernel_rfl) (by kernel_rfl) (by kernel_rfl) (fun _ _ => by kernel_rfl) ?_
        simp only [Act.put, List.setIfInBounds_toArray, List.set_cons_zero, List.set_cons_succ]
        refine made_call (.int .i64 (K : Int)) 71 #[.pointer (some ⟨g, 0, none⟩)] (by kernel_rfl) (by kernel_rfl) (by kernel_rfl) (fun W => by kernel_rfl) (fun W hW => (RefAt.sectors (HP.out.2.1.below hW)).mono fun e w' ⟨h1, h2⟩ => ⟨by rw [h1, HKK.out], h2⟩) ?_
        simp only [Act.put, List.setIfInBounds_toArray, List.set_cons_zero, List.set_cons_succ]
        refine made_val (.agg #[.int .i64 l, .int .i64 a, .int .i64 d]) (by kernel_rfl) (by kernel_rfl) (by kernel_rfl) (fun W hW => exec_load_blk (o := ⟨some 24, _, _, _, _, _⟩) 23 (.tmp 5) rfl w.heap.size rfl 23 _ _ W (HP.out.1.grow hW).shape Try.underlying23 rfl (by kernel_rfl)) ?_
        simp only [Act.put, List.setIfInBounds_toArray, List.set_cons_zero, List.set_cons_succ]
        refine made_call (.int .i64 (secs l a d)) 12 #[.agg #[.int .i64 l, .int .i64 a, .int .i64 d]] (by kernel_rfl) (by kernel_rfl) (by kernel_rfl) (fun W => by kernel_rfl) (fun W hW => rsecs_any l a d W) ?_
        simp only [Act.put, List.setIfInBounds_toArray, List.set_cons_zero, List.set_cons_succ]
        refine made_val (.bool false) (by kernel_rfl) (by kernel_rfl) (by kernel_rfl) (fun W hW => ?hs5) ?_
        case hs5 => go_simp
        simp only [Act.put, List.setIfInBounds_toArray, List.set_cons_zero, List.set_cons_succ]
        show ∀ w', _ → _
        intro w5 hb5
        simp only [ended]
        have hp5 := HP.out.1.grow hb5
        have hpl : PlAt w w5 w5.heap.size l a d (firstS l a d) (.slice Ar rs.length cr) rs 0 (.slice none 0 0) := ⟨World.ownsRow_nil _ _ _ _, hp5.shape, hp5.runs, hp5.below, by have := hp5.sz; omega, Nat.le_refl _⟩
        have HA := hide (And.intro hpl (And.intro hap hsec))
        clear hp5 hpl hb5 hap hsec
        go_wp2_with fail
        generalize w5.heap.size = B at HA
        go_loopw [10, 11] (fun o i wr => ∃ k : Nat, k ≤ rs.length ∧ i = .int .i64 (k : Int) ∧ PlAt w wr B l a d (firstS l a d) (.slice Ar rs.length cr) rs (pos (rs.take k)).length o) (fun _ i _ => rs.length - (intOf i).toNat)
        case atStart => exact ⟨0, by omega, rfl, HA.out.1⟩
        case round =>
          obtain ⟨k, hk, rfl, hp⟩ := hrel
          have HQ := hide hp
          have n3 : (0 : Int) ≤ (k : Int) := by omega
          clear hp
          by_cases hk2 : k < rs.length
          · obtain ⟨r, hrk⟩ : ∃ r, rs[k]? = some r := ⟨_, List.getElem?_eq_getElem hk2⟩
            obtain ⟨r1, r2, r3, r4⟩ := HA.out.2.1.2.1 r (List.mem_of_getElem? hrk)
            obtain ⟨⟨R1, hR1⟩, R2, hR2⟩ : (∃ R1 : Nat, r.1 = (R1 : Int)) ∧ ∃ R2 : Nat, r.2 = (R2 : Int) := ⟨⟨r.1.toNat, by omega⟩, r.2.toNat, by omega⟩
            have hc : ∃ bb off, Ar = some ⟨bb, off, none⟩ ∧ bb < w.heap.size ∧ ∀ W, RunsM W w.heap.size (.slice Ar rs.length cr) rs → W.cell? ⟨bb, off + k * 2, none⟩ = some (.int .i64 (R1 : Int)) ∧ W.cell? ⟨bb, off + k * 2 + 1, none⟩ = some (.int .i64 (R2 : Int)) := by
              obtain ⟨A', c', hv, _, _, hA, _⟩ := HQ.out.runs
              injection hv with e1 e2 e3
              subst e1 e3
              obtain ⟨bb, off, e1, e2, _⟩ := hA (by omega)
              refine ⟨bb, off, e1, e2, fun W hW => ?_⟩
              obtain ⟨A', c', hv, _, _, hA, _⟩ := hW
              injection hv with e3 _ _
              subst e3
              obtain ⟨b2, o2, e4, _, h⟩ := hA (by omega)
              rw [e1] at e4
              injection e4 with e4
              injection e4 with e4 e5
              subst e4 e5
              rw [← hR1, ← hR2]
              exact h k r hrk
            obtain ⟨bb, off, rfl, hbb, hcs⟩ := hc
            have hpt := pos_take rs k r hrk
            rw [hR2, Int.toNat_natCast] at hpt
            have n4 : (k : Int) < (rs.length : Int) := by omega
            have m1 : (R1 : Int) ≤ 8192 := by omega
            have m2 : (R2 : Int) ≤ 8192 := by omega
            have m3 : (0 : Int) ≤ (R1 : Int) := by omega
            obtain ⟨q, hq⟩ : ∃ q, q = (pos (rs.take k)).length := ⟨_, rfl⟩
            have hQ := HQ.out
            rw [← hq] at hQ hpt
            have HQ2 := hide hQ
            have HH := hide (And.intro hcs (And.intro hpt (And.intro hrk (And.intro hR1 (And.intro hR2 hq)))))
            clear hQ hcs hpt hq hR1 hR2 hrk r1 r2 r3 r4 HQ
            go_wp2_with fail
            go_loopw [10, 12] (fun o i wr => ∃ j : Nat, j ≤ R2 ∧ i = .int .i64 (j : Int) ∧ PlAt w wr B l a d (firstS l a d) (.slice (some ⟨bb, off, none⟩) rs.length cr) rs (q + j) o) (fun _ i _ => R2 - (intOf i).toNat)
            case atStart => exact ⟨0, by omega, rfl, HQ2.out⟩
            case round =>
              obtain ⟨j, hj, rfl, hp⟩ := hrel
              obtain ⟨c1, c2⟩ := HH.out.1 wr hp.runs
              have hltb : bb < wr.heap.size := by have := hp.sz; omega
              have HPJ := hide hp
              have n5 : (0 : Int) ≤ (j : Int) := by omega
              clear hp
              by_cases hj2 : j < R2
              · have n6 : (j : Int) < (R2 : Int) := by omega
                have n7 : (j : Int) ≤ 8192 := by omega
                have hqj : (pos rs)[q + j]? = some (R1 + j) := by
                  have h := pos_at rs k r j HH.out.2.2.1 (by rw [HH.out.2.2.2.2.1]; omega)
                  rwa [← HH.out.2.2.2.2.2, HH.out.2.2.2.1, Int.toNat_natCast] at h
                have htk : (pos rs).take (q + j + 1) = (pos rs).take (q + j) ++ [R1 + j] := by
                  rw [List.take_add_one, hqj]
                  rfl
                have hql : ((pos rs).take (q + j)).length = q + j := by
                  rw [List.length_take]
                  have := (List.getElem?_eq_some_iff.1 hqj).1
                  omega
                have hqs : q + j ≤ 100000 := by have := (List.getElem?_eq_some_iff.1 hqj).1; omega
                have HT := hide (And.intro htk hql)
                clear htk hql hqj
                go_wp2_with fail
                let G := placeC (firstS l a d) ((pos rs).take (q + j)) ++ [Value.int .i64 (firstS l a d + (R1 : Int) + (j : Int))]
                let V2 : Value → World → Prop := fun u W => W.ownsRow B 3 1 u (q + j + 1) G
                have hxl : (placeC (firstS l a d) ((pos rs).take (q + j))).length = q + j := by rw [placeC_len, HT.out.2]
                have hL : ∀ p ∈ ([(54, OneI B (firstS l a d + (R1 : Int) + (j : Int))), (55, V2)] : Fre.MadeL), Fre.MadeOk (GrowR B G (q + j)) p.2 := by
                  intro p hp
                  simp only [List.mem_cons, List.not_mem_nil, or_false] at hp
                  rcases hp with rfl | rfl
                  · exact ⟨fun u W W' h hx => OneI.stays hxl h hx⟩
                  · exact ⟨fun u W W' h hx => own_last h hx⟩
                refine Fre.wp_made (X := GrowR B G (q + j)) 13 [(54, OneI B (firstS l a d + (R1 : Int) + (j : Int))), (55, V2)] (by kernel_rfl) (by kernel_rfl) hL (by simp) (by simp) ?_
                simp only [List.take_succ_cons, List.take_zero, List.drop_succ_cons, List.drop_zero]
                refine Fre.made_val (u10) (by kernel_rfl) (by kernel_rfl) (by kernel_rfl) (fun _ _ => by kernel_rfl) ?_
                simp only [Act.put, List.setIfInBounds_toArray, List.set_cons_zero, List.set_cons_succ]
                refine Fre.made_val (.agg #[.int .i64 l, .int .i64 a, .int .i64 d]) (by kernel_rfl) (by kernel_rfl) (by kernel_rfl) (fun W hW => exec_load_blk (o := ⟨some 44, _, _, _, _, _⟩) 23 (.tmp 5) rfl w.heap.size rfl 23 _ _ W (grow_blk HPJ.out.shape HPJ.out.sz.1 hW) Try.underlying23 rfl (by kernel_rfl)) ?_
                simp only [Act.put, List.setIfInBounds_toArray, List.set_cons_zero, List.set_cons_succ]
                refine Fre.made_call (.int .i64 (firstS l a d)) 86 #[.agg #[.int .i64 l, .int .i64 a, .int .i64 d]] (by kernel_rfl) (by kernel_rfl) (by kernel_rfl) (fun W => by kernel_rfl) (fun W hW => (rfirst_any l a d W).mono fun e w' ⟨h1, h2⟩ => ⟨h1, GrowR.of_below h2⟩) ?_
                simp only [Act.put, List.setIfInBounds_toArray, List.set_cons_zero, List.set_cons_succ]
                refine Fre.made_val (.slice (some ⟨bb, off, none⟩) rs.length cr) (by kernel_rfl) (by kernel_rfl) (by kernel_rfl) (fun _ _ => by kernel_rfl) ?_
                simp only [Act.put, List.setIfInBounds_toArray, List.set_cons_zero, List.set_cons_succ]
                refine Fre.made_val (.int .i64 (k : Int)) (by kernel_rfl) (by kernel_rfl) (by kernel_rfl) (fun _ _ => by kernel_rfl) ?_
                simp only [Act.put, List.setIfInBounds_toArray, List.set_cons_zero, List.set_cons_succ]
                refine Fre.made_val (.pointer (some ⟨bb, off + (k : Int).toNat * 2, none⟩)) (by kernel_rfl) (by kernel_rfl) (by kernel_rfl) (fun W _ => exec_index_off (o := ⟨some 48, _, _, _, _, _⟩) 24 40 (.tmp 46) (.tmp 47) rfl bb off rs.length cr (k : Int) .i64 rfl rfl ⟨n3, n4⟩ 2 Try.underlying24 sz_run W) ?_
                simp only [Act.put, List.setIfInBounds_toArray, List.set_cons_zero, List.set_cons_succ]
                rw [show (k : Int).toNat = k from Int.toNat_natCast k]
                refine Fre.made_val (.pointer (some ⟨bb, off + k * 2, none⟩)) (by kernel_rfl) (by kernel_rfl) (by kernel_rfl) (fun _ _ => by kernel_rfl) ?_
                simp only [Act.put, List.setIfInBounds_toArray, List.set_cons_zero, List.set_cons_succ]
                refine Fre.made_val (.int .i64 (R1 : Int)) (by kernel_rfl) (by kernel_rfl) (by kernel_rfl) (fun W hW => exec_load_cell (o := ⟨some 50, _, _, _, _, _⟩) 3 (.tmp 49) rfl ⟨bb, off + k * 2, none⟩ rfl _ _ W Try.underlying3 rfl (HH.out.1 W (grow_runs HPJ.out.runs (by have := HPJ.out.sz; omega) (by have := HPJ.out.sz; omega) hW)).1) ?_
                simp only [Act.put, List.setIfInBounds_toArray, List.set_cons_zero, List.set_cons_succ]
                refine Fre.made_val (.int .i64 (firstS l a d + (R1 : Int))) (by kernel_rfl) (by kernel_rfl) (by kernel_rfl) (fun W hW => ?hs1) ?_
                case hs1 => (go_simp; exact i64_in _ (by omega) (by omega))
                simp only [Act.put, List.setIfInBounds_toArray, List.set_cons_zero, List.set_cons_succ]
                refine Fre.made_val (.int .i64 (j : Int)) (by kernel_rfl) (by kernel_rfl) (by kernel_rfl) (fun _ _ => by kernel_rfl) ?_
                simp only [Act.put, List.setIfInBounds_toArray, List.set_cons_zero, List.set_cons_succ]
                refine Fre.made_val (.int .i64 (firstS l a d + (R1 : Int) + (j : Int))) (by kernel_rfl) (by kernel_rfl) (by kernel_rfl) (fun W hW => ?hs2) ?_
                case hs2 => (go_simp; exact i64_in _ (by omega) (by omega))
                simp only [Act.put, List.setIfInBounds_toArray, List.set_cons_zero, List.set_cons_succ]
                refine Fre.made_new 54 (OneI B (firstS l a d + (R1 : Int) + (j : Int))) (by kernel_rfl) (by kernel_rfl) rfl rfl (fun W hW => ⟨.slice (some ⟨W.heap.size, 0, none⟩) 1 1, W.alloc (.cells #[.int .i64 (firstS l a d + (R1 : Int) + (j : Int))] 3), by kernel_rfl, GrowR.of_below ((Below.refl _ W).alloc (Nat.le_refl _) _), W.heap.size, rfl, Nat.le_trans HPJ.out.sz.2 (GrowR.size hW), Blk.new W _ _⟩) ?_
                simp only [Act.put, List.setIfInBounds_toArray, List.set_cons_zero, List.set_cons_succ]
                refine Fre.made_new1 54 (OneI B (firstS l a d + (R1 : Int) + (j : Int))) 55 V2 (by kernel_rfl) rfl (by kernel_rfl) rfl rfl (fun u W hW hu => ?hm55) ?_
                case hm55 =>
                  have hown := own_first (F := G) (N := q + j) HPJ.out.own (by simp only [G]; rw [List.take_left' hxl]) (by omega) hW
                  obtain ⟨v', w', h1, h2, h3⟩ := app_int hown (Nat.le_trans HPJ.out.sz.2 (GrowR.size hW)) hu hqs
                  exact ⟨v', w', exec_append (o := ⟨some 55, _, _, _, _, _⟩) (.tmp 43) (.tmp 54) 67 rfl u10 u _ _ _ (by kernel_rfl) (by kernel_rfl) h1, h2, h3⟩
                simp only [Act.put, List.setIfInBounds_toArray, List.set_cons_zero, List.set_cons_succ]
                show ∀ w', _ → _
                intro w6 hx6
                simp only [Fre.ended]
                intro x1 _ x2 h2
                simp only [Act.put, List.setIfInBounds_toArray, List.set_cons_zero, List.set_cons_succ]
                have HX := hide (And.intro hx6 h2)
                clear hx6 h2
                go_wp2_with fail
                refine ⟨⟨j + 1, by omega, by go_num, ?_⟩, by simp [intOf]; omega⟩
                obtain ⟨hx6, h2⟩ := HX.out
                have hp := HPJ.out
                rw [← Nat.add_assoc]
                refine ⟨?_, grow_blk hp.shape hp.sz.1 hx6, grow_runs hp.runs (by have := hp.sz; omega) (by have := hp.sz; omega) hx6, ?_, hp.sz.1, Nat.le_trans hp.sz.2 hx6.size⟩
                · rw [HT.out.1, placeC_app, show placeC (firstS l a d) [R1 + j] = [Value.int .i64 (firstS l a d + (R1 : Int) + (j : Int))] by simp [placeC, Int.add_assoc]]
                  exact h2
                · have hb := hp.below
                  have hs := hp.sz
                  refine ⟨hx6.os.trans hb.os, hx6.tape.trans hb.tape, hx6.output.trans hb.output, Nat.le_trans hb.size hx6.size, fun x hx => ?_⟩
                  have := hb.size
                  exact ((hx6.block x (by omega)).elim id fun h => absurd h.1 (by omega)).trans (hb.block x hx)
              · have n6 : ¬ (j : Int) < (R2 : Int) := by omega
                obtain rfl : j = R2 := by omega
                go_wp2_with fail
                have hpp := HPJ.out
                rw [← HH.out.2.1] at hpp
                exact ⟨⟨k + 1, by omega, by go_num, hpp⟩, by simp [intOf]; omega⟩
          · have n4 : ¬ (k : Int) < (rs.length : Int) := by omega
            obtain rfl : k = rs.length := by omega
            have hQ := HQ.out
            rw [List.take_length] at hQ
            have hol := hQ.own
            obtain ⟨Ao, co, rfl⟩ := owned_slice hol
            have HQ2 := hide hQ
            clear HQ hQ hol
            go_wp2_with fail
            refine (rneed_any n HP.out.2.2.2 _).mono ?_
            rintro e w7 ⟨rfl, rfl⟩
            dsimp only
            by_cases hne : ((pos rs).length : Int) = needP n
            · have hE : suitsE K l a d n rs = 0 := if_pos ⟨HA.out.2.1, hn0, hne, HA.out.2.2⟩
              go_wp2_with fail
              refine bodyPost_ret (v := .tuple #[.slice Ao (pos rs).length co, .bool true]) (by simp [results, Try.f76, go_sem]) rfl ⟨HQ2.out.below, .inl ⟨hE, _, rfl, ?_⟩⟩
              have := HQ2.out.own
              rw [List.take_length] at this
              exact owned_baseN this fun h hh => by have := (owned_ltN HQ2.out.own hh).1; have := HQ2.out.sz; omega
            · have hE : suitsE K l a d n rs = 2 := if_neg fun h => hne h.2.2.1
              go_wp2_with fail
              refine bodyPost_ret (v := .tuple #[.slice Ao (pos rs).length co, .bool false]) (by simp [results, Try.f76, go_sem, hne]) rfl ⟨HQ2.out.below, .inr ⟨hE, _, rfl⟩⟩
      · have hE : suitsE K l a d n rs = 2 := if_neg fun h => hsec h.2.2.2
        have n1 : ¬ n < 0 := by omega
        have n2 : (K : Int) < secs l a d := by omega
        go_enter Try.func76, Try.ntmps76
        go_wp2_with fail
        refine wp_made 14 [] (by kernel_rfl) (by kernel_rfl) (by intro p hp; cases hp) List.nodup_nil (by intro t ht; cases ht) ?_
        simp only [List.take_succ_cons, List.take_zero, List.drop_succ_cons, List.drop_zero]
        refine made_val (.agg #[.int .i64 l, .int .i64 a, .int .i64 d]) (by kernel_rfl) (by kernel_rfl) (by kernel_rfl) (fun W hW => exec_load_blk (o := ⟨some 13, _, _, _, _, _⟩) 23 (.tmp 5) rfl w.heap.size rfl 23 _ _ W (HP.out.1.grow hW).shape Try.underlying23 rfl (by kernel_rfl)) ?_
        simp only [Act.put, List.setIfInBounds_toArray, List.set_cons_zero, List.set_cons_succ]
        refine made_val (.slice Ar rs.length cr) (by kernel_rfl) (by kernel_rfl) (by kernel_rfl) (fun _ _ => by kernel_rfl) ?_
        simp only [Act.put, List.setIfInBounds_toArray, List.set_cons_zero, List.set_cons_succ]
        refine made_call (.bool true) 21 #[.agg #[.int .i64 l, .int .i64 a, .int .i64 d], .slice Ar rs.length cr] (by kernel_rfl) (by kernel_rfl) (by kernel_rfl) (fun W => by kernel_rfl) (fun W hW => (rapart_any l a d (.slice Ar rs.length cr) rs hlen W ((HP.out.1.grow hW).runs.widen (HP.out.1.grow hW).below.size)).mono fun e w' ⟨h1, h2⟩ => ⟨by rw [h1, decide_eq_true hap], h2⟩) ?_
        simp only [Act.put, List.setIfInBounds_toArray, List.set_cons_zero, List.set_cons_succ]
        refine made_val (.bool false) (by kernel_rfl) (by kernel_rfl) (by kernel_rfl) (fun W hW => ?hs6) ?_
        case hs6 => go_simp
        simp only [Act.put, List.setIfInBounds_toArray, List.set_cons_zero, List.set_cons_succ]
        refine made_val (.bool false) (by kernel_rfl) (by kernel_rfl) (by kernel_rfl) (fun _ _ => by kernel_rfl) ?_
        simp only [Act.put, List.setIfInBounds_toArray, List.set_cons_zero, List.set_cons_succ]
        refine made_val (.int .i64 n) (by kernel_rfl) (by kernel_rfl) (by kernel_rfl) (fun _ _ => by kernel_rfl) ?_
        simp only [Act.put, List.setIfInBounds_toArray, List.set_cons_zero, List.set_cons_succ]
        refine made_val (.bool false) (by kernel_rfl) (by kernel_rfl) (by kernel_rfl) (fun W hW => ?hs7) ?_
        case hs7 => go_simp
        simp only [Act.put, List.setIfInBounds_toArray, List.set_cons_zero, List.set_cons_succ]
        refine made_val (.bool false) (by kernel_rfl) (by kernel_rfl) (by kernel_rfl) (fun _ _ => by kernel_rfl) ?_
        simp only [Act.put, List.setIfInBounds_toArray, List.set_cons_zero, List.set_cons_succ]
        refine made_val (.bool false) (by kernel_rfl) (by kernel_rfl) (by kernel_rfl) (fun _ _ => by kernel_rfl) ?_
        simp only [Act.put, List.setIfInBounds_toArray, List.set_cons_zero, List.set_cons_succ]
        refine made_val (.pointer (some ⟨g, 0, none⟩)) (by kernel_rfl) (by kernel_rfl) (by kernel_rfl) (fun _ _ => by kernel_rfl) ?_
        simp only [Act.put, List.setIfInBounds_toArray, List.set_cons_zero, List.set_cons_succ]
        refine made_call (.int .i64 (K : Int)) 71 #[.pointer (some ⟨g, 0, none⟩)] (by kernel_rfl) (by kernel_rfl) (by kernel_rfl) (fun W => by kernel_rfl) (fun W hW => (RefAt.sectors (HP.out.2.1.below hW)).mono fun e w' ⟨h1, h2⟩ => ⟨by rw [h1, HKK.out], h2⟩) ?_
        simp only [Act.put, List.setIfInBounds_toArray, List.set_cons_zero, List.set_cons_succ]
        refine made_val (.agg #[.int .i64 l, .int .i64 a, .int .i64 d]) (by kernel_rfl) (by kernel_rfl) (by kernel_rfl) (fun W hW => exec_load_blk (o := ⟨some 24, _, _, _, _, _⟩) 23 (.tmp 5) rfl w.heap.size rfl 23 _ _ W (HP.out.1.grow hW).shape Try.underlying23 rfl (by kernel_rfl)) ?_
        simp only [Act.put, List.setIfInBounds_toArray, List.set_cons_zero, List.set_cons_succ]
        refine made_call (.int .i64 (secs l a d)) 12 #[.agg #[.int .i64 l, .int .i64 a, .int .i64 d]] (by kernel_rfl) (by kernel_rfl) (by kernel_rfl) (fun W => by kernel_rfl) (fun W hW => rsecs_any l a d W) ?_
        simp only [Act.put, List.setIfInBounds_toArray, List.set_cons_zero, List.set_cons_succ]
        refine made_val (.bool true) (by kernel_rfl) (by kernel_rfl) (by kernel_rfl) (fun W hW => ?hs8) ?_
        case hs8 => go_simp
        simp only [Act.put, List.setIfInBounds_toArray, List.set_cons_zero, List.set_cons_succ]
        show ∀ w', _ → _
        intro w5 hb5
        simp only [ended]
        have H5 := hide hb5
        clear hb5
        go_wp2_with fail
        refine bodyPost_ret (v := .tuple #[.slice none 0 0, .bool false]) (by simp [results, Try.f76, go_sem]) rfl ⟨HP.out.1.below.next H5.out, .inr ⟨hE, _, rfl⟩⟩
    · have hE : suitsE K l a d n rs = 2 := if_neg fun h => hn0 h.2.1
      have n1 : n < 0 := by omega
      go_enter Try.func76, Try.ntmps76
      go_wp2_with fail
      refine wp_made 14 [] (by kernel_rfl) (by kernel_rfl) (by intro p hp; cases hp) List.nodup_nil (by intro t ht; cases ht) ?_
      simp only [List.take_succ_cons, List.take_zero, List.drop_succ_cons, List.drop_zero]
      refine made_val (.agg #[.int .i64 l, .int .i64 a, .int .i64 d]) (by kernel_rfl) (by kernel_rfl) (by kernel_rfl) (fun W hW => exec_load_blk (o := ⟨some 13, _, _, _, _, _⟩) 23 (.tmp 5) rfl w.heap.size rfl 23 _ _ W (HP.out.1.grow hW).shape Try.underlying23 rfl (by kernel_rfl)) ?_
      simp only [Act.put, List.setIfInBounds_toArray, List.set_cons_zero, List.set_cons_succ]
      refine made_val (.slice Ar rs.length cr) (by kernel_rfl) (by kernel_rfl) (by kernel_rfl) (fun _ _ => by kernel_rfl) ?_
      simp only [Act.put, List.setIfInBounds_toArray, List.set_cons_zero, List.set_cons_succ]
      refine made_call (.bool true) 21 #[.agg #[.int .i64 l, .int .i64 a, .int .i64 d], .slice Ar rs.length cr] (by kernel_rfl) (by kernel_rfl) (by kernel_rfl) (fun W => by kernel_rfl) (fun W hW => (rapart_any l a d (.slice Ar rs.length cr) rs hlen W ((HP.out.1.grow hW).runs.widen (HP.out.1.grow hW).below.size)).mono fun e w' ⟨h1, h2⟩ => ⟨by rw [h1, decide_eq_true hap], h2⟩) ?_
      simp only [Act.put, List.setIfInBounds_toArray, List.set_cons_zero, List.set_cons_succ]
      refine made_val (.bool false) (by kernel_rfl) (by kernel_rfl) (by kernel_rfl) (fun W hW => ?hs9) ?_
      case hs9 => go_simp
      simp only [Act.put, List.setIfInBounds_toArray, List.set_cons_zero, List.set_cons_succ]
      refine made_val (.bool false) (by kernel_rfl) (by kernel_rfl) (by kernel_rfl) (fun _ _ => by kernel_rfl) ?_
      simp only [Act.put, List.setIfInBounds_toArray, List.set_cons_zero, List.set_cons_succ]
      refine made_val (.int .i64 n) (by kernel_rfl) (by kernel_rfl) (by kernel_rfl) (fun _ _ => by kernel_rfl) ?_
      simp only [Act.put, List.setIfInBounds_toArray, List.set_cons_zero, List.set_cons_succ]
      refine made_val (.bool true) (by kernel_rfl) (by kernel_rfl) (by kernel_rfl) (fun W hW => ?hs10) ?_
      case hs10 => go_simp
      simp only [Act.put, List.setIfInBounds_toArray, List.set_cons_zero, List.set_cons_succ]
      refine made_val (.bool true) (by kernel_rfl) (by kernel_rfl) (by kernel_rfl) (fun _ _ => by kernel_rfl) ?_
      simp only [Act.put, List.setIfInBounds_toArray, List.set_cons_zero, List.set_cons_succ]
      refine made_val (.bool true) (by kernel_rfl) (by kernel_rfl) (by kernel_rfl) (fun _ _ => by kernel_rfl) ?_
      simp only [Act.put, List.setIfInBounds_toArray, List.set_cons_zero, List.set_cons_succ]
      refine made_skip (by kernel_rfl) (by kernel_rfl) (by kernel_rfl) ?_
      simp only [Act.put, List.setIfInBounds_toArray, List.set_cons_zero, List.set_cons_succ]
      refine made_skip (by kernel_rfl) (by kernel_rfl) (by kernel_rfl) ?_
      simp only [Act.put, List.setIfInBounds_toArray, List.set_cons_zero, List.set_cons_succ]
      refine made_skip (by kernel_rfl) (by kernel_rfl) (by kernel_rfl) ?_
      simp only [Act.put, List.setIfInBounds_toArray, List.set_cons_zero, List.set_cons_succ]
      refine made_skip (by kernel_rfl) (by kernel_rfl) (by kernel_rfl) ?_
      simp only [Act.put, List.setIfInBounds_toArray, List.set_cons_zero, List.set_cons_succ]
      refine made_skip (by kernel_rfl) (by kernel_rfl) (by kernel_rfl) ?_
      simp only [Act.put, List.setIfInBounds_toArray, List.set_cons_zero, List.set_cons_succ]
      show ∀ w', _ → _
      intro w5 hb5
      simp only [ended]
      have H5 := hide hb5
      clear hb5
      go_wp2_with fail
      refine bodyPost_ret (v := .tuple #[.slice none 0 0, .bool false]) (by simp [results, Try.f76, go_sem]) rfl ⟨HP.out.1.below.next H5.out, .inr ⟨hE, _, rfl⟩⟩
  · have hE : suitsE K l a d n rs = 2 := if_neg fun h => hap h.1
    go_enter Try.func76, Try.ntmps76
    go_wp2_with fail
    refine wp_made 14 [] (by kernel_rfl) (by kernel_rfl) (by intro p hp; cases hp) List.nodup_nil (by intro t ht; cases ht) ?_
    simp only [List.take_succ_cons, List.take_zero, List.drop_succ_cons, List.drop_zero]
    refine made_val (.agg #[.int .i64 l, .int .i64 a, .int .i64 d]) (by kernel_rfl) (by kernel_rfl) (by kernel_rfl) (fun W hW => exec_load_blk (o := ⟨some 13, _, _, _, _, _⟩) 23 (.tmp 5) rfl w.heap.size rfl 23 _ _ W (HP.out.1.grow hW).shape Try.underlying23 rfl (by kernel_rfl)) ?_
    simp only [Act.put, List.setIfInBounds_toArray, List.set_cons_zero, List.set_cons_succ]
    refine made_val (.slice Ar rs.length cr) (by kernel_rfl) (by kernel_rfl) (by kernel_rfl) (fun _ _ => by kernel_rfl) ?_
    simp only [Act.put, List.setIfInBounds_toArray, List.set_cons_zero, List.set_cons_succ]
    refine made_call (.bool false) 21 #[.agg #[.int .i64 l, .int .i64 a, .int .i64 d], .slice Ar rs.length cr] (by kernel_rfl) (by kernel_rfl) (by kernel_rfl) (fun W => by kernel_rfl) (fun W hW => (rapart_any l a d (.slice Ar rs.length cr) rs hlen W ((HP.out.1.grow hW).runs.widen (HP.out.1.grow hW).below.size)).mono fun e w' ⟨h1, h2⟩ => ⟨by rw [h1, decide_eq_false hap], h2⟩) ?_
    simp only [Act.put, List.setIfInBounds_toArray, List.set_cons_zero, List.set_cons_succ]
    refine made_val (.bool true) (by kernel_rfl) (by kernel_rfl) (by kernel_rfl) (fun W hW => ?hs11) ?_
    case hs11 => go_simp
    simp only [Act.put, List.setIfInBounds_toArray, List.set_cons_zero, List.set_cons_succ]
    refine made_val (.bool true) (by kernel_rfl) (by kernel_rfl) (by kernel_rfl) (fun _ _ => by kernel_rfl) ?_
    simp only [Act.put, List.setIfInBounds_toArray, List.set_cons_zero, List.set_cons_succ]
    refine made_skip (by kernel_rfl) (by kernel_rfl) (by kernel_rfl) ?_
    simp only [Act.put, List.setIfInBounds_toArray, List.set_cons_zero, List.set_cons_succ]
    refine made_skip (by kernel_rfl) (by kernel_rfl) (by kernel_rfl) ?_
    simp only [Act.put, List.setIfInBounds_toArray, List.set_cons_zero, List.set_cons_succ]
    refine made_val (.bool true) (by kernel_rfl) (by kernel_rfl) (by kernel_rfl) (fun _ _ => by kernel_rfl) ?_
    simp only [Act.put, List.setIfInBounds_toArray, List.set_cons_zero, List.set_cons_succ]
    refine made_val (.bool true) (by kernel_rfl) (by kernel_rfl) (by kernel_rfl) (fun _ _ => by kernel_rfl) ?_
    simp only [Act.put, List.setIfInBounds_toArray, List.set_cons_zero, List.set_cons_succ]
    refine made_skip (by kernel_rfl) (by kernel_rfl) (by kernel_rfl) ?_
    simp only [Act.put, List.setIfInBounds_toArray, List.set_cons_zero, List.set_cons_succ]
    refine made_skip (by kernel_rfl) (by kernel_rfl) (by kernel_rfl) ?_
    simp only [Act.put, List.setIfInBounds_toArray, List.set_cons_zero, List.set_cons_succ]
    refine made_skip (by kernel_rfl) (by kernel_rfl) (by kernel_rfl) ?_
    simp only [Act.put, List.setIfInBounds_toArray, List.set_cons_zero, List.set_cons_succ]
    refine made_skip (by kernel_rfl) (by kernel_rfl) (by kernel_rfl) ?_
    simp only [Act.put, List.setIfInBounds_toArray, List.set_cons_zero, List.set_cons_succ]
    refine made_skip (by kernel_rfl) (by kernel_rfl) (by kernel_rfl) ?_
    simp only [Act.put, List.setIfInBounds_toArray, List.set_cons_zero, List.set_cons_succ]
    show ∀ w', _ → _
    intro w5 hb5
    simp only [ended]
    have H5 := hide hb5
    clear hb5
    go_wp2_with fail
    refine bodyPost_ret (v := .tuple #[.slice none 0 0, .bool false]) (by simp [results, Try.f76, go_sem]) rfl ⟨HP.out.1.below.next H5.out, .inr ⟨hE, _, rfl⟩⟩
end Go.Proofs.Ytajeohmmobgcjaa
