/- spenceref07: marks. -/
import Derived.Test.YtajeohmmobgcjaaRBlobA
namespace Go.Proofs.Ytajeohmmobgcjaa
open Go Go.RowKit
set_option maxRecDepth 100000
theorem info_bool : (Try.prog.info? 4).map (fun i => (i.zero, i.size, i.bytes)) = some (some (.bool false), 1, 1) := by kernel_rfl
theorem made_marks (n : Nat) : (madeCells #[.bool false] n).toList = marksC n [] := by
  rw [marksC_nil]
  apply List.ext_getElem?
  intro j
  by_cases hj : j < n
  · simp [madeCells, hj, Nat.mod_one]
  · simp [madeCells, hj]
theorem exec_index_off {P : Program} {ρ : Operand → Value} {o : Oper} (ty e : TypeId) (x i : Operand) (ho : o.op = .indexAddr ty x i) (b off n cap : Nat) (k : Int) (kk : IntKind) (hx : ρ x = .slice (some ⟨b, off, none⟩) n cap) (hi : ρ i = .int kk k) (hk : 0 ≤ k ∧ k < (n : Int)) (s : Nat) (hu : P.underlying ty = some (.slice e)) (hs : (P.info? e).map (·.size) = some s) (w : World) :
    (execOp ρ o).run P w = .ok (.value (.pointer (some ⟨b, off + k.toNat * s, none⟩))) w := by
  have e2 : P.elem ty = e := by simp [Program.elem, hu]
  unfold execOp
  simp only [ho, hx, hi, Sem.run_bind, Sem.run_pure, run_indexAt_slice w ty _ _ _ kk k (by rw [e2]; exact hu), e2, if_pos hk]
  cases hq : P.info? e with
  | none => simp [hq] at hs
  | some i =>
    have h1 : i.size = s := by simpa [hq] using hs
    have e0 : (⟨b, off, none⟩ : Addr).add (k.toNat * s) = ⟨b, off + k.toNat * s, none⟩ := by rw [Addr.add_mid]
    simp [sizeOf, typeInfo, hq, h1, e0]
theorem sz_run : (Try.prog.info? 40).map (·.size) = some 2 := by kernel_rfl
/-- what marks is in its loops: the first q sectors are marked -/
structure MarkAt (w0 w : World) (h : Nat) (l a : Int) (D : Nat) (rs : List Run) (q : Nat) : Prop where
  own : w.ownsRow w0.heap.size 4 1 (.slice (some ⟨h, 0, none⟩) D D) D (marksC D ((pos rs).take q))
  nodup : ((pos rs).take q).Nodup
  shape : Blk w w0.heap.size 23 #[.int .i64 l, .int .i64 a, .int .i64 (D : Int)]
  below : Below w0.heap.size w0 w
  lt : w0.heap.size < h
theorem MarkAt.grow {w0 w w' : World} {h : Nat} {l a : Int} {D : Nat} {rs : List Run} {q : Nat} (m : MarkAt w0 w h l a D rs q) (hb : Below w.heap.size w w') : MarkAt w0 w' h l a D rs q :=
  ⟨owned_keepN m.own fun k _ hl => hb.block k hl, m.nodup, m.shape.below hb m.shape.lt, m.below.next hb, m.lt⟩
set_option maxHeartbeats 2000000 in
theorem marks_any (l a d : Int) (v : Value) (rs : List Run) (hlen : rs.length ≤ 1000000) (w : World) (hrs : RunsM w w.heap.size v rs) :
    Calls Try.prog 54 #[.agg #[.int .i64 l, .int .i64 a, .int .i64 d], v] w fun e w' => Below w.heap.size w w' ∧
      ((apartP l a d rs ∧ ∃ h, e = .returned (.tuple #[.slice (some ⟨h, 0, none⟩) d.toNat d.toNat, .bool true]) ∧ w'.ownsRow w.heap.size 4 1 (.slice (some ⟨h, 0, none⟩) d.toNat d.toNat) d.toNat (marksC d.toNat (pos rs))) ∨ (¬ apartP l a d rs ∧ e = .returned (.tuple #[.slice none 0 0, .bool false]))) := by
  obtain ⟨A, cp, rfl, hcp, hnil, hrow, hr64⟩ := hrs
  have HROW := hide (And.intro hrow hr64)
  clear hrow hr64 hnil hcp
  by_cases hR : rightP l a d
  · obtain ⟨D, rfl⟩ : ∃ D : Nat, d = (D : Int) := ⟨d.toNat, by have := hR.2.2.1.1; omega⟩
    rw [Int.toNat_natCast]
    have hr := decide_eq_true hR
    have hD := hR.2.2.1
    unfold inW at hD
    by_cases hl : (D : Int) < (rs.length : Int)
    · have hno : ¬ apartP l a D rs := fun h => by
        have h1 := pos_len_le rs (fun r hr => (h.2.1 r hr).2.2.1)
        have h2 := apart_count h
        rw [Int.toNat_natCast] at h2
        omega
      go_enter Try.func54, Try.ntmps54
      go_wp2_with fail
      refine (rright_any l a D _).mono ?_
      rintro e w1 ⟨rfl, rfl⟩
      rw [hr]
      dsimp only
      go_wp2_with fail
      refine bodyPost_ret (v := .tuple #[.slice none 0 0, .bool false]) (by simp [results, Try.f54, go_sem]) rfl ⟨?_, .inr ⟨hno, rfl⟩⟩
      exact ((Below.refl _ w).alloc (Nat.le_refl _) _).al _
    · have HR := hide hR
      clear hR
      obtain ⟨i, hi, hz0, hz1, hz2⟩ := info_parts info_bool
      go_enter Try.func54, Try.ntmps54
      go_wp2_with (at_make; refine wpList_make_full _ rfl _ _ 90 rfl w.heap.size 4 i (.bool false) 1 Try.underlying90 hi hz0 hz1 _ _ _ _ D rfl rfl ?e0 ?e1 ?e2 ?e3 ?e4 ?_)
      refine (rright_any l a D _).mono ?_
      rintro e w1 ⟨rfl, hw1⟩
      rw [hr]
      dsimp only
      have hs1 : Blk w1 w.heap.size 23 #[.int .i64 l, .int .i64 a, .int .i64 (D : Int)] := by rw [hw1]; exact (Blk.new w _ _).alloc _
      have hb1 : Below w.heap.size w w1 := by rw [hw1]; exact ((Below.refl _ w).alloc (Nat.le_refl _) _).al _
      have hz : w1.heap.size = w.heap.size + 1 + 1 := by rw [hw1]; simp
      have c2 := hs1.cell 2
      have hlt1 := hs1.lt
      have H1 := hide (And.intro hs1 (And.intro hb1 hz))
      clear hw1 hs1 hb1 hz
      go_wp2_with (at_make; refine wpList_make_full _ rfl _ _ 90 rfl w.heap.size 4 i (.bool false) 1 Try.underlying90 hi hz0 hz1 _ _ _ _ D rfl rfl ?e0 ?e1 ?e2 ?e3 ?e4 ?_)
      case e0 => rfl
      case e1 => rfl
      case e2 => rw [hz2]; omega
      case e3 => simp only [maxLen]; omega
      case e4 => omega
      intro w2 own2 gr2
      have hM : MarkAt w w2 w1.heap.size l a D rs 0 := by
        have hb2 : Below w1.heap.size w1 w2 := (Below.refl _ _).grown gr2 (Nat.le_refl _) (by intro k hk; cases hk)
        refine ⟨?_, by simp, H1.out.1.below hb2 H1.out.1.lt, H1.out.2.1.next hb2, by have := H1.out.2.2; omega⟩
        rw [List.take_zero, ← made_marks]
        exact own2
      generalize w1.heap.size = h at hM ⊢
      have HM := hide hM
      clear hM own2 gr2 H1 c2 hlt1 hi hz0 hz1 hz2
      go_wp2_with fail
      go_loopw [7] (fun v wr => ∃ k : Nat, k ≤ rs.length ∧ v = .int .i64 (k : Int) ∧ (∀ j r, j < k → rs[j]? = some r → okRun D r) ∧ MarkAt w wr h l a D rs (pos (rs.take k)).length) (fun v _ => rs.length - (intOf v).toNat)
      case atStart => exact ⟨0, by omega, rfl, (fun j r h => by omega), HM.out⟩
      case round =>
        obtain ⟨k, hk, rfl, hok, hm⟩ := hrel
        have c2 := hm.shape.cell 2
        have hltS := hm.shape.lt
        have HK := hide (And.intro hok hm)
        by_cases hk2 : k < rs.length
        · obtain ⟨r, hrk⟩ : ∃ r, rs[k]? = some r := ⟨_, List.getElem?_eq_getElem hk2⟩
          obtain ⟨bb, off, hA, hbn, hcs⟩ := HROW.out.1 (by omega)
          subst hA
          have hr64 := HROW.out.2 r (List.mem_of_getElem? hrk)
          have HCS : Hid (∀ W, Below w.heap.size w W → W.cell? ⟨bb, off + k * 2, none⟩ = some (.int .i64 r.1) ∧ W.cell? ⟨bb, off + k * 2 + 1, none⟩ = some (.int .i64 r.2)) := hide fun W hW =>
            ⟨(hW.cell (p := ⟨bb, off + k * 2, none⟩) hbn).trans (hcs k r hrk).1, (hW.cell (p := ⟨bb, off + k * 2 + 1, none⟩) hbn).trans (hcs k r hrk).2⟩
          have HRK := hide hrk
          have n1 : (k : Int) < (rs.length : Int) := by omega
          have n2 : (0 : Int) ≤ (k : Int) := by omega
          clear hok hm hrk hcs
          go_wp2_with fail
          refine wp_made 7 [] (by kernel_rfl) (by kernel_rfl) (by intro p hp; cases hp) List.nodup_nil (by intro t ht; cases ht) ?_
          simp only [List.take_succ_cons, List.take_zero, List.drop_succ_cons, List.drop_zero]
          refine made_val (.pointer (some ⟨w.heap.size, 2, none⟩)) (by kernel_rfl) (by kernel_rfl) (by kernel_rfl) (fun _ _ => by kernel_rfl) ?_
          simp only [Act.put, List.setIfInBounds_toArray, List.set_cons_zero, List.set_cons_succ]
          refine made_val (.int .i64 (D : Int)) (by kernel_rfl) (by kernel_rfl) (by kernel_rfl) (fun W hW => exec_load_cell (o := ⟨some 29, _, _, _, _, _⟩) 3 (.tmp 28) rfl ⟨w.heap.size, 2, none⟩ rfl _ _ W Try.underlying3 rfl (((HK.out.2.grow hW).shape).cell 2)) ?_
          simp only [Act.put, List.setIfInBounds_toArray, List.set_cons_zero, List.set_cons_succ]
          refine made_val (.slice (some ⟨bb, off, none⟩) rs.length cp) (by kernel_rfl) (by kernel_rfl) (by kernel_rfl) (fun _ _ => by kernel_rfl) ?_
          simp only [Act.put, List.setIfInBounds_toArray, List.set_cons_zero, List.set_cons_succ]
          refine made_val (.int .i64 (k : Int)) (by kernel_rfl) (by kernel_rfl) (by kernel_rfl) (fun _ _ => by kernel_rfl) ?_
          simp only [Act.put, List.setIfInBounds_toArray, List.set_cons_zero, List.set_cons_succ]
          refine made_val (.pointer (some ⟨bb, off + (k : Int).toNat * 2, none⟩)) (by kernel_rfl) (by kernel_rfl) (by kernel_rfl) (fun W _ => exec_index_off (o := ⟨some 32, _, _, _, _, _⟩) 24 40 (.tmp 30) (.tmp 31) rfl bb off rs.length cp (k : Int) .i64 rfl rfl ⟨n2, n1⟩ 2 Try.underlying24 sz_run W) ?_
          simp only [Act.put, List.setIfInBounds_toArray, List.set_cons_zero, List.set_cons_succ]
          rw [show (k : Int).toNat = k from Int.toNat_natCast k]
          refine made_val (.agg #[.int .i64 r.1, .int .i64 r.2]) (by kernel_rfl) (by kernel_rfl) (by kernel_rfl) (fun W hW => exec_load_mid (o := ⟨some 33, _, _, _, _, _⟩) 40 (.tmp 32) rfl bb (off + k * 2) rfl [.int .i64 r.1, .int .i64 r.2] _ W ?hrg Try.underlying40 rfl sz_run) ?_
          case hrg =>
            have h := HCS.out W (HK.out.2.grow hW).below
            intro j u hu
            match j, hu with
            | 0, hu => injection hu with hu; subst hu; exact h.1
            | 1, hu => injection hu with hu; subst hu; exact h.2
          simp only [Act.put, List.setIfInBounds_toArray, List.set_cons_zero, List.set_cons_succ]
          refine made_call (.bool (decide (okRun D r))) 80 #[.int .i64 (D : Int), .agg #[.int .i64 r.1, .int .i64 r.2]] (by kernel_rfl) (by kernel_rfl) (by kernel_rfl) (fun W => by kernel_rfl) (fun W _ => (rokr_any D r ⟨by omega, by omega⟩ hr64 W).mono fun e w' ⟨h1, h2⟩ => ⟨h1, by rw [h2]; exact (Below.refl _ _).alloc (Nat.le_refl _) _⟩) ?_
          simp only [Act.put, List.setIfInBounds_toArray, List.set_cons_zero, List.set_cons_succ]
          show ∀ w', _ → _
          intro w4 hb4
          simp only [ended]
          have H4 := hide (HK.out.2.grow hb4)
          clear hb4
          by_cases hokr : okRun D r
          · rw [decide_eq_true hokr]
            obtain ⟨r1, r2, r3, r4⟩ := hokr
            obtain ⟨⟨R1, hR1⟩, R2, hR2⟩ : (∃ R1 : Nat, r.1 = (R1 : Int)) ∧ ∃ R2 : Nat, r.2 = (R2 : Int) := ⟨⟨r.1.toNat, by omega⟩, r.2.toNat, by omega⟩
            go_wp2_with fail
            obtain ⟨q, hq⟩ : ∃ q, q = (pos (rs.take k)).length := ⟨_, rfl⟩
            have h4 := H4.out
            rw [← hq] at h4
            have hpt := pos_take rs k r HRK.out
            rw [← hq, hR2, Int.toNat_natCast] at hpt
            have HQ := hide (And.intro hpt (And.intro h4 (And.intro hR1 hR2)))
            have HOK := hide (And.intro r1 (And.intro r2 (And.intro r3 r4)))
            have m1 : R1 + R2 ≤ D := by omega
            have HEQ := hide hq
            clear hq h4 hpt H4 r1 r2 r3 r4 hR1 hR2
            go_loopw [8] (fun v w5 => ∃ j : Nat, j ≤ R2 ∧ v = .int .i64 (j : Int) ∧ MarkAt w w5 h l a D rs (q + j)) (fun v _ => R2 - (intOf v).toNat)
            case atStart => exact ⟨0, by omega, rfl, HQ.out.2.1⟩
            case round =>
              obtain ⟨j, hj, rfl, hm⟩ := hrel
              have hc := HCS.out _ hm.below
              rw [HQ.out.2.2.1, HQ.out.2.2.2] at hc
              obtain ⟨e1, e2⟩ := hc
              have HM := hide hm
              clear hm
              by_cases hj2 : j < R2
              · have n3 : (j : Int) < (R2 : Int) := by omega
                have n4 : (0 : Int) ≤ (R1 : Int) + (j : Int) := by omega
                have n5 : (R1 : Int) + (j : Int) < (D : Int) := by omega
                have n6 : (D : Int) ≤ 8192 := hD.2
                have hqj : (pos rs)[q + j]? = some (R1 + j) := by
                  have := pos_at rs k r j HRK.out (by rw [HQ.out.2.2.2]; exact hj2)
                  rwa [← HEQ.out, HQ.out.2.2.1, Int.toNat_natCast] at this
                have htk : (pos rs).take (q + j + 1) = (pos rs).take (q + j) ++ [R1 + j] := by
                  rw [List.take_add_one, hqj]
                  rfl
                have hmc := marksC_at ((pos rs).take (q + j)) (show R1 + j < D by omega)
                have hcell : wr.cell? ⟨h, R1 + j, none⟩ = some (.bool (((pos rs).take (q + j)).contains (R1 + j))) := by
                  have := own_range HM.out.own (R1 + j) 1 [.bool (((pos rs).take (q + j)).contains (R1 + j))] (by
                    obtain ⟨hi, he⟩ := List.getElem?_eq_some_iff.1 hmc
                    rw [List.drop_eq_getElem_cons hi, he]
                    rfl)
                  exact this 0 _ rfl
                have hfz := (own_there HM.out.own (R1 + j) 1 (by omega) 0 (by omega)).2
                rw [Nat.add_zero] at hfz
                cases hcon : ((pos rs).take (q + j)).contains (R1 + j) with
                | true =>
                  rw [hcon] at hcell
                  go_wp2_with fail
                  refine bodyPost_ret (v := .tuple #[.slice none 0 0, .bool false]) (by simp [results, Try.f54, go_sem]) rfl ⟨HM.out.below, .inr ⟨fun h => ?_, rfl⟩⟩
                  have hn := List.Pairwise.sublist (List.take_sublist (q + j + 1) _) h.2.2
                  rw [htk] at hn
                  exact (List.nodup_append.1 hn).2.2 _ (List.contains_iff_mem.1 hcon) _ (by simp) rfl
                | false =>
                  rw [hcon] at hcell
                  go_wp2_with fail
                  refine ⟨⟨j + 1, by omega, by go_num, ?_⟩, by simp [intOf]; omega⟩
                  have hm := HM.out
                  have hlt := hm.lt
                  rw [← Nat.add_assoc]
                  refine ⟨?_, ?_, hm.shape.far (by show w.heap.size ≠ h; omega) _, hm.below.setCell (by show w.heap.size ≤ h; omega) _, hlt⟩
                  · rw [htk, ← marksC_set _ (show R1 + j < D by omega)]
                    exact own_setCells hm.own (R1 + j) [.bool true] (by simp; omega)
                  · rw [htk, List.nodup_append]
                    refine ⟨hm.nodup, by simp, fun x hx y hy e => ?_⟩
                    subst e
                    have hy := List.mem_singleton.1 hy
                    subst hy
                    rw [List.contains_iff_mem.2 hx] at hcon
                    cases hcon
              · have n3 : ¬ (j : Int) < (R2 : Int) := by omega
                obtain rfl : j = R2 := by omega
                go_wp2_with fail
                have hmm := HM.out
                rw [← HQ.out.1] at hmm
                refine ⟨⟨k + 1, by omega, by go_num, fun i q hi hq => ?_, hmm⟩, by simp [intOf]; omega⟩
                by_cases hik : i = k
                · subst hik
                  rw [HRK.out] at hq
                  injection hq with hq
                  subst hq
                  exact HOK.out
                · exact HK.out.1 i q (by omega) hq
          · rw [decide_eq_false hokr]
            go_wp2_with fail
            refine bodyPost_ret (v := .tuple #[.slice none 0 0, .bool false]) (by simp [results, Try.f54, go_sem]) rfl ⟨H4.out.below, .inr ⟨fun h => hokr (h.2.1 r (List.mem_of_getElem? HRK.out)), rfl⟩⟩
        · obtain rfl : k = rs.length := by omega
          go_wp2_with fail
          refine bodyPost_ret (v := .tuple #[.slice (some ⟨h, 0, none⟩) D D, .bool true]) (by simp [results, Try.f54, go_sem]) rfl ⟨HK.out.2.below, .inl ⟨?_, h, rfl, ?_⟩⟩
          · refine ⟨HR.out, fun r hr => ?_, ?_⟩
            · obtain ⟨j, hj, e⟩ := List.getElem_of_mem hr
              exact HK.out.1 j r hj (by rw [List.getElem?_eq_getElem hj, e])
            · have := HK.out.2.nodup
              rwa [List.take_length, List.take_length] at this
          · have := HK.out.2.own
            rwa [List.take_length, List.take_length] at this
  · have hr := decide_eq_false hR
    have hno : ¬ apartP l a d rs := fun h => hR h.1
    go_enter Try.func54, Try.ntmps54
    go_wp2_with fail
    refine (rright_any l a d _).mono ?_
    rintro e w1 ⟨rfl, rfl⟩
    rw [hr]
    dsimp only
    go_wp2_with fail
    refine bodyPost_ret (v := .tuple #[.slice none 0 0, .bool false]) (by simp [results, Try.f54, go_sem]) rfl ⟨?_, .inr ⟨hno, rfl⟩⟩
    exact ((Below.refl _ w).alloc (Nat.le_refl _) _).al _
end Go.Proofs.Ytajeohmmobgcjaa
