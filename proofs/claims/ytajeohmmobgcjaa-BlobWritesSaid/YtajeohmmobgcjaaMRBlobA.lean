/- spenceref07: Need, right, marks. spenceref07: marks. spenceref07: Apart, Free, Find. -/
import Derived.Test.YtajeohmmobgcjaaMFindLaw
import Derived.Test.YtajeohmmobgcjaaMMade
section
namespace Go.Proofs.Ytajeohmmobgcjaa
open Go Go.RowKit
set_option maxRecDepth 100000
theorem rneed_any (n : Int) (hn : -9223372036854775808 ≤ n ∧ n ≤ 9223372036854775807) (w : World) : Calls Try.prog 19 #[.int .i64 n] w fun e w' => e = .returned (.int .i64 (needP n)) ∧ w' = w := by
  by_cases h : n ≤ 0
  · rw [needP, if_pos h]
    have h1 : n < 1 := by omega
    go_enter Try.func19, Try.ntmps19
    go_wp2
    go_ret
    exact ⟨rfl, rfl⟩
  · rw [needP, if_neg h]
    have h1 : ¬ n < 1 := by omega
    have q1 : 0 ≤ (n - 1) / 64 := by omega
    have q2 : (n - 1) / 64 < 9223372036854775807 := by omega
    have q3 : Int.tdiv (n - 1) 64 = (n - 1) / 64 := Int.tdiv_eq_ediv_of_nonneg (by omega)
    go_enter Try.func19, Try.ntmps19
    go_wp2
    go_ret
    exact ⟨rfl, rfl⟩
theorem rokr_any (d : Int) (r : Run) (hd : 0 ≤ d ∧ d ≤ 100000) (hr : r64 r) (w : World) : Calls Try.prog 80 #[.int .i64 d, .agg #[.int .i64 r.1, .int .i64 r.2]] w fun e w' => e = .returned (.bool (decide (okRun d r))) ∧ w' = w.alloc (.cells #[.int .i64 r.1, .int .i64 r.2] 40) := by
  obtain ⟨d1, d2⟩ := hd
  obtain ⟨⟨r1, r2⟩, r3, r4⟩ := hr
  by_cases q1 : 0 ≤ r.1
  · by_cases q2 : r.1 < d
    · by_cases q3 : 1 ≤ r.2
      · by_cases q4 : r.2 ≤ d - r.1
        · have h := decide_eq_true (show okRun d r from ⟨q1, q2, q3, q4⟩)
          go_enter Try.func80, Try.ntmps80
          go_wp2
          go_ret
          first | exact ⟨rfl, rfl⟩ | (rw [h]; exact ⟨rfl, rfl⟩)
        · have h := decide_eq_false (show ¬ okRun d r from fun h => q4 h.2.2.2)
          go_enter Try.func80, Try.ntmps80
          go_wp2
          go_ret
          first | exact ⟨rfl, rfl⟩ | (rw [h]; exact ⟨rfl, rfl⟩)
      · have h := decide_eq_false (show ¬ okRun d r from fun h => q3 h.2.2.1)
        go_enter Try.func80, Try.ntmps80
        go_wp2
        go_ret
        first | exact ⟨rfl, rfl⟩ | (rw [h]; exact ⟨rfl, rfl⟩)
    · have h := decide_eq_false (show ¬ okRun d r from fun h => q2 h.2.1)
      go_enter Try.func80, Try.ntmps80
      go_wp2
      go_ret
      first | exact ⟨rfl, rfl⟩ | (rw [h]; exact ⟨rfl, rfl⟩)
  · have h := decide_eq_false (show ¬ okRun d r from fun h => q1 h.1)
    go_enter Try.func80, Try.ntmps80
    go_wp2
    go_ret
    first | exact ⟨rfl, rfl⟩ | (rw [h]; exact ⟨rfl, rfl⟩)
/-- which of d sectors are marked -/
def marksC (d : Nat) (l : List Nat) : List Value := (List.range d).map fun x => .bool (l.contains x)
theorem marksC_len (d : Nat) (l : List Nat) : (marksC d l).length = d := by simp [marksC]
theorem marksC_nil (d : Nat) : marksC d [] = List.replicate d (.bool false) := by
  unfold marksC
  apply List.ext_getElem
  · simp
  · intro i h1 h2
    simp
theorem marksC_at {d x : Nat} (l : List Nat) (h : x < d) : (marksC d l)[x]? = some (.bool (l.contains x)) := by
  simp [marksC, h]
theorem marksC_set {d p : Nat} (l : List Nat) (h : p < d) : (marksC d l).take p ++ ([.bool true] ++ (marksC d l).drop (p + 1)) = marksC d (l ++ [p]) := by
  apply List.ext_getElem?
  intro i
  rcases Nat.lt_or_ge i d with hi | hi
  · rw [marksC_at _ hi]
    have h3 : (List.take p (marksC d l)).length = p := by rw [List.length_take, marksC_len]; omega
    rcases Nat.lt_trichotomy i p with h2 | h2 | h2
    · rw [List.getElem?_append_left (by omega), List.getElem?_take_of_lt h2, marksC_at _ hi]
      congr 2
      rw [Bool.eq_iff_iff, List.contains_iff_mem, List.contains_iff_mem, List.mem_append]
      constructor
      · exact .inl
      · rintro (h | h)
        · exact h
        · have := List.mem_singleton.1 h
          omega
    · subst h2
      rw [List.getElem?_append_right (by omega), h3, Nat.sub_self]
      simp
    · rw [List.getElem?_append_right (by omega), h3, List.getElem?_append_right (by simp; omega), List.getElem?_drop, show p + 1 + (i - p - [Value.bool true].length) = i by simp; omega, marksC_at _ hi]
      congr 2
      rw [Bool.eq_iff_iff, List.contains_iff_mem, List.contains_iff_mem, List.mem_append]
      constructor
      · exact .inl
      · rintro (h | h)
        · exact h
        · have := List.mem_singleton.1 h
          omega
  · rw [List.getElem?_eq_none (by rw [List.length_append, List.length_append, List.length_take, List.length_drop, marksC_len]; simp; omega), List.getElem?_eq_none (by rw [marksC_len]; omega)]
end Go.Proofs.Ytajeohmmobgcjaa
end
section
namespace Go.Proofs.Ytajeohmmobgcjaa
open Go Go.RowKit
set_option maxRecDepth 100000
theorem info_bool : (Try.prog.info? 4).map (fun i => (i.zero, i.size, i.bytes)) = some (some (.bool false), 1, 1) := by kernel_rfl
theorem made_marks (n : Nat) : (madeCells #[.bool false] n).toList = marksC n [] := by
  rw [marksC_nil]
  apply List.ext_getElem?
  intro j
  by_cases hj : j < n
  · simp [madeCells, hj, Nat.mod_one]
  · simp [madeCells, hj]
theorem exec_index_off {P : Program} {ρ : Operand → Value} {o : Oper} (ty e : TypeId) (x i : Operand) (ho : o.op = .indexAddr ty x i) (b off n cap : Nat) (k : Int) (kk : IntKind) (hx : ρ x = .slice (some ⟨b, off, none⟩) n cap) (hi : ρ i = .int kk k) (hk : 0 ≤ k ∧ k < (n : Int)) (s : Nat) (hu : P.underlying ty = some (.slice e)) (hs : (P.info? e).map (·.size) = some s) (w : World) :
    (execOp ρ o).run P w = .ok (.value (.pointer (some ⟨b, off + k.toNat * s, none⟩))) w := by
  have e2 : P.elem ty = e := by simp [Program.elem, hu]
  unfold execOp
  simp only [ho, hx, hi, Sem.run_bind, Sem.run_pure, run_indexAt_slice w ty _ _ _ kk k (by rw [e2]; exact hu), e2, if_pos hk]
  cases hq : P.info? e with
  | none => simp [hq] at hs
  | some i =>
    have h1 : i.size = s := by simpa [hq] using hs
    have e0 : (⟨b, off, none⟩ : Addr).add (k.toNat * s) = ⟨b, off + k.toNat * s, none⟩ := by rw [Addr.add_mid]
    simp [sizeOf, typeInfo, hq, h1, e0]
theorem sz_run : (Try.prog.info? 40).map (·.size) = some 2 := by kernel_rfl
/-- what marks is in its loops: the first q sectors are marked -/
structure MarkAt (w0 w : World) (h : Nat) (l a : Int) (D : Nat) (rs : List Run) (q : Nat) : Prop where
  own : w.ownsRow w0.heap.size 4 1 (.slice (some ⟨h, 0, none⟩) D D) D (marksC D ((pos rs).take q))
  nodup : ((pos rs).take q).Nodup
  shape : Blk w w0.heap.size 23 #[.int .i64 l, .int .i64 a, .int .i64 (D : Int)]
  below : Below w0.heap.size w0 w
  lt : w0.heap.size < h
theorem MarkAt.grow {w0 w w' : World} {h : Nat} {l a : Int} {D : Nat} {rs : List Run} {q : Nat} (m : MarkAt w0 w h l a D rs q) (hb : Below w.heap.size w w') : MarkAt w0 w' h l a D rs q :=
  ⟨owned_keepN m.own fun k _ hl => hb.block k hl, m.nodup, m.shape.below hb m.shape.lt, m.below.next hb, m.lt⟩
set_option maxHeartbeats 2000000 in
theorem marks_any (l a d : Int) (v : Value) (rs : List Run) (hlen : rs.length ≤ 1000000) (w : World) (hrs : RunsM w w.heap.size v rs) :
    Calls Try.prog 54 #[.agg #[.int .i64 l, .int .i64 a, .int .i64 d], v] w fun e w' => Below w.heap.size w w' ∧
      ((apartP l a d rs ∧ ∃ h, e = .returned (.tuple #[.slice (some ⟨h, 0, none⟩) d.toNat d.toNat, .bool true]) ∧ w'.ownsRow w.heap.size 4 1 (.slice (some ⟨h, 0, none⟩) d.toNat d.toNat) d.toNat (marksC d.toNat (pos rs))) ∨ (¬ apartP l a d rs ∧ e = .returned (.tuple #[.slice none 0 0, .bool false]))) := by
  obtain ⟨A, cp, rfl, hcp, hnil, hrow, hr64⟩ := hrs
  have HROW := hide (And.intro hrow hr64)
  clear hrow hr64 hnil hcp
  by_cases hR : rightP l a d
  · obtain ⟨D, rfl⟩ : ∃ D : Nat, d = (D : Int) := ⟨d.toNat, by have := hR.2.2.1.1; omega⟩
    rw [Int.toNat_natCast]
    have hr := decide_eq_true hR
    have hD := hR.2.2.1
    unfold inW at hD
    by_cases hl : (D : Int) < (rs.length : Int)
    · have hno : ¬ apartP l a D rs := fun h => by
        have h1 := pos_len_le rs (fun r hr => (h.2.1 r hr).2.2.1)
        have h2 := apart_count h
        rw [Int.toNat_natCast] at h2
        omega
      go_enter Try.func54, Try.ntmps54
      go_wp2_with fail
      refine (rright_any l a D _).mono ?_
      rintro e w1 ⟨rfl, rfl⟩
      rw [hr]
      dsimp only
      go_wp2_with fail
      refine bodyPost_ret (v := .tuple #[.slice none 0 0, .bool false]) (by simp [results, Try.f54, go_sem]) rfl ⟨?_, .inr ⟨hno, rfl⟩⟩
      exact ((Below.refl _ w).alloc (Nat.le_refl _) _).al _
    · have HR := hide hR
      clear hR
      obtain ⟨i, hi, hz0, hz1, hz2⟩ := info_parts info_bool
      go_enter Try.func54, Try.ntmps54
      go_wp2_with (at_make; refine wpList_make_full _ rfl _ _ 90 rfl w.heap.size 4 i (.bool false) 1 Try.underlying90 hi hz0 hz1 _ _ _ _ D rfl rfl ?e0 ?e1 ?e2 ?e3 ?e4 ?_)
      refine (rright_any l a D _).mono ?_
      rintro e w1 ⟨rfl, hw1⟩
      rw [hr]
      dsimp only
      have hs1 : Blk w1 w.heap.size 23 #[.int .i64 l, .int .i64 a, .int .i64 (D : Int)] := by rw [hw1]; exact (Blk.new w _ _).alloc _
      have hb1 : Below w.heap.size w w1 := by rw [hw1]; exact ((Below.refl _ w).alloc (Nat.le_refl _) _).al _
      have hz : w1.heap.size = w.heap.size + 1 + 1 := by rw [hw1]; simp
      have c2 := hs1.cell 2
      have hlt1 := hs1.lt
      have H1 := hide (And.intro hs1 (And.intro hb1 hz))
      clear hw1 hs1 hb1 hz
      go_wp2_with (at_make; refine wpList_make_full _ rfl _ _ 90 rfl w.heap.size 4 i (.bool false) 1 Try.underlying90 hi hz0 hz1 _ _ _ _ D rfl rfl ?e0 ?e1 ?e2 ?e3 ?e4 ?_)
      case e0 => rfl
      case e1 => rfl
      case e2 => rw [hz2]; omega
      case e3 => simp only [maxLen]; omega
      case e4 => omega
      intro w2 own2 gr2
      have hM : MarkAt w w2 w1.heap.size l a D rs 0 := by
        have hb2 : Below w1.heap.size w1 w2 := (Below.refl _ _).grown gr2 (Nat.le_refl _) (by intro k hk; cases hk)
        refine ⟨?_, by simp, H1.out.1.below hb2 H1.out.1.lt, H1.out.2.1.next hb2, by have := H1.out.2.2; omega⟩
        rw [List.take_zero, ← made_marks]
        exact own2
      generalize w1.heap.size = h at hM ⊢
      have HM := hide hM
      clear hM own2 gr2 H1 c2 hlt1 hi hz0 hz1 hz2
      go_wp2_with fail
      go_loopw [7] (fun v wr => ∃ k : Nat, k ≤ rs.length ∧ v = .int .i64 (k : Int) ∧ (∀ j r, j < k → rs[j]? = some r → okRun D r) ∧ MarkAt w wr h l a D rs (pos (rs.take k)).length) (fun v _ => rs.length - (intOf v).toNat)
      case atStart => exact ⟨0, by omega, rfl, (fun j r h => by omega), HM.out⟩
      case round =>
        obtain ⟨k, hk, rfl, hok, hm⟩ := hrel
        have c2 := hm.shape.cell 2
        have hltS := hm.shape.lt
        have HK := hide (And.intro hok hm)
        by_cases hk2 : k < rs.length
        · obtain ⟨r, hrk⟩ : ∃ r, rs[k]? = some r := ⟨_, List.getElem?_eq_getElem hk2⟩
          obtain ⟨bb, off, hA, hbn, hcs⟩ := HROW.out.1 (by omega)
          subst hA
          have hr64 := HROW.out.2 r (List.mem_of_getElem? hrk)
          have HCS : Hid (∀ W, Below w.heap.size w W → W.cell? ⟨bb, off + k * 2, none⟩ = some (.int .i64 r.1) ∧ W.cell? ⟨bb, off + k * 2 + 1, none⟩ = some (.int .i64 r.2)) := hide fun W hW =>
            ⟨(hW.cell (p := ⟨bb, off + k * 2, none⟩) hbn).trans (hcs k r hrk).1, (hW.cell (p := ⟨bb, off + k * 2 + 1, none⟩) hbn).trans (hcs k r hrk).2⟩
          have HRK := hide hrk
          have n1 : (k : Int) < (rs.length : Int) := by omega
          have n2 : (0 : Int) ≤ (k : Int) := by omega
          clear hok hm hrk hcs
          go_wp2_with fail
          refine wp_made 7 [] (by kernel_rfl) (by kernel_rfl) (by intro p hp; cases hp) List.nodup_nil (by intro t ht; cases ht) ?_
          simp only [List.take_succ_cons, List.take_zero, List.drop_succ_cons, List.drop_zero]
          refine made_val (.pointer (some ⟨w.heap.size, 2, none⟩)) (by kernel_rfl) (by kernel_rfl) (by kernel_rfl) (fun _ _ => by kernel_rfl) ?_
          simp only [Act.put, List.setIfInBounds_toArray, List.set_cons_zero, List.set_cons_succ]
          refine made_val (.int .i64 (D : Int)) (by kernel_rfl) (by kernel_rfl) (by kernel_rfl) (fun W hW => exec_load_cell (o := ⟨some 29, _, _, _, _, _⟩) 3 (.tmp 28) rfl ⟨w.heap.size, 2, none⟩ rfl _ _ W Try.underlying3 rfl (((HK.out.2.grow hW).shape).cell 2)) ?_
          simp only [Act.put, List.setIfInBounds_toArray, List.set_cons_zero, List.set_cons_succ]
          refine made_val (.slice (some ⟨bb, off, none⟩) rs.length cp) (by kernel_rfl) (by kernel_rfl) (by kernel_rfl) (fun _ _ => by kernel_rfl) ?_
          simp only [Act.put, List.setIfInBounds_toArray, List.set_cons_zero, List.set_cons_succ]
          refine made_val (.int .i64 (k : Int)) (by kernel_rfl) (by kernel_rfl) (by kernel_rfl) (fun _ _ => by kernel_rfl) ?_
          simp only [Act.put, List.setIfInBounds_toArray, List.set_cons_zero, List.set_cons_succ]
          refine made_val (.pointer (some ⟨bb, off + (k : Int).toNat * 2, none⟩)) (by kernel_rfl) (by kernel_rfl) (by kernel_rfl) (fun W _ => exec_index_off (o := ⟨some 32, _, _, _, _, _⟩) 24 40 (.tmp 30) (.tmp 31) rfl bb off rs.length cp (k : Int) .i64 rfl rfl ⟨n2, n1⟩ 2 Try.underlying24 sz_run W) ?_
          simp only [Act.put, List.setIfInBounds_toArray, List.set_cons_zero, List.set_cons_succ]
          rw [show (k : Int).toNat = k from Int.toNat_natCast k]
          refine made_val (.agg #[.int .i64 r.1, .int .i64 r.2]) (by kernel_rfl) (by kernel_rfl) (by kernel_rfl) (fun W hW => exec_load_mid (o := ⟨some 33, _, _, _, _, _⟩) 40 (.tmp 32) rfl bb (off + k * 2) rfl [.int .i64 r.1, .int .i64 r.2] _ W ?hrg Try.underlying40 rfl sz_run) ?_
          case hrg =>
            have h := HCS.out W (HK.out.2.grow hW).below
            intro j u hu
            match j, hu with
            | 0, hu => injection hu with hu; subst hu; exact h.1
            | 1, hu => injection hu with hu; subst hu; exact h.2
          simp only [Act.put, List.setIfInBounds_toArray, List.set_cons_zero, List.set_cons_succ]
          refine made_call (.bool (decide (okRun D r))) 80 #[.int .i64 (D : Int), .agg #[.int .i64 r.1, .int .i64 r.2]] (by kernel_rfl) (by kernel_rfl) (by kernel_rfl) (fun W => by kernel_rfl) (fun W _ => (rokr_any D r ⟨by omega, by omega⟩ hr64 W).mono fun e w' ⟨h1, h2⟩ => ⟨h1, by rw [h2]; exact (Below.refl _ _).alloc (Nat.le_refl _) _⟩) ?_
          simp only [Act.put, List.setIfInBounds_toArray, List.set_cons_zero, List.set_cons_succ]
          show ∀ w', _ → _
          intro w4 hb4
          simp only [ended]
          have H4 := hide (HK.out.2.grow hb4)
          clear hb4
          by_cases hokr : okRun D r
          · rw [decide_eq_true hokr]
            obtain ⟨r1, r2, r3, r4⟩ := hokr
            obtain ⟨⟨R1, hR1⟩, R2, hR2⟩ : (∃ R1 : Nat, r.1 = (R1 : Int)) ∧ ∃ R2 : Nat, r.2 = (R2 : Int) := ⟨⟨r.1.toNat, by omega⟩, r.2.toNat, by omega⟩
            go_wp2_with fail
            obtain ⟨q, hq⟩ : ∃ q, q = (pos (rs.take k)).length := ⟨_, rfl⟩
            have h4 := H4.out
            rw [← hq] at h4
            have hpt := pos_take rs k r HRK.out
            rw [← hq, hR2, Int.toNat_natCast] at hpt
            have HQ := hide (And.intro hpt (And.intro h4 (And.intro hR1 hR2)))
            have HOK := hide (And.intro r1 (And.intro r2 (And.intro r3 r4)))
            have m1 : R1 + R2 ≤ D := by omega
            have HEQ := hide hq
            clear hq h4 hpt H4 r1 r2 r3 r4 hR1 hR2
            go_loopw [8] (fun v w5 => ∃ j : Nat, j ≤ R2 ∧ v = .int .i64 (j : Int) ∧ MarkAt w w5 h l a D rs (q + j)) (fun v _ => R2 - (intOf v).toNat)
            case atStart => exact ⟨0, by omega, rfl, HQ.out.2.1⟩
            case round =>
              obtain ⟨j, hj, rfl, hm⟩ := hrel
              have hc := HCS.out _ hm.below
              rw [HQ.out.2.2.1, HQ.out.2.2.2] at hc
              obtain ⟨e1, e2⟩ := hc
              have HM := hide hm
              clear hm
              by_cases hj2 : j < R2
              · have n3 : (j : Int) < (R2 : Int) := by omega
                have n4 : (0 : Int) ≤ (R1 : Int) + (j : Int) := by omega
                have n5 : (R1 : Int) + (j : Int) < (D : Int) := by omega
                have n6 : (D : Int) ≤ 8192 := hD.2
                have hqj : (pos rs)[q + j]? = some (R1 + j) := by
                  have := pos_at rs k r j HRK.out (by rw [HQ.out.2.2.2]; exact hj2)
                  rwa [← HEQ.out, HQ.out.2.2.1, Int.toNat_natCast] at this
                have htk : (pos rs).take (q + j + 1) = (pos rs).take (q + j) ++ [R1 + j] := by
                  rw [List.take_add_one, hqj]
                  rfl
                have hmc := marksC_at ((pos rs).take (q + j)) (show R1 + j < D by omega)
                have hcell : wr.cell? ⟨h, R1 + j, none⟩ = some (.bool (((pos rs).take (q + j)).contains (R1 + j))) := by
                  have := own_range HM.out.own (R1 + j) 1 [.bool (((pos rs).take (q + j)).contains (R1 + j))] (by
                    obtain ⟨hi, he⟩ := List.getElem?_eq_some_iff.1 hmc
                    rw [List.drop_eq_getElem_cons hi, he]
                    rfl)
                  exact this 0 _ rfl
                have hfz := (own_there HM.out.own (R1 + j) 1 (by omega) 0 (by omega)).2
                rw [Nat.add_zero] at hfz
                cases hcon : ((pos rs).take (q + j)).contains (R1 + j) with
                | true =>
                  rw [hcon] at hcell
                  go_wp2_with fail
                  refine bodyPost_ret (v := .tuple #[.slice none 0 0, .bool false]) (by simp [results, Try.f54, go_sem]) rfl ⟨HM.out.below, .inr ⟨fun h => ?_, rfl⟩⟩
                  have hn := List.Pairwise.sublist (List.take_sublist (q + j + 1) _) h.2.2
                  rw [htk] at hn
                  exact (List.nodup_append.1 hn).2.2 _ (List.contains_iff_mem.1 hcon) _ (by simp) rfl
                | false =>
                  rw [hcon] at hcell
                  go_wp2_with fail
                  refine ⟨⟨j + 1, by omega, by go_num, ?_⟩, by simp [intOf]; omega⟩
                  have hm := HM.out
                  have hlt := hm.lt
                  rw [← Nat.add_assoc]
                  refine ⟨?_, ?_, hm.shape.far (by show w.heap.size ≠ h; omega) _, hm.below.setCell (by show w.heap.size ≤ h; omega) _, hlt⟩
                  · rw [htk, ← marksC_set _ (show R1 + j < D by omega)]
                    exact own_setCells hm.own (R1 + j) [.bool true] (by simp; omega)
                  · rw [htk, List.nodup_append]
                    refine ⟨hm.nodup, by simp, fun x hx y hy e => ?_⟩
                    subst e
                    have hy := List.mem_singleton.1 hy
                    subst hy
                    rw [List.contains_iff_mem.2 hx] at hcon
                    cases hcon
              · have n3 : ¬ (j : Int) < (R2 : Int) := by omega
                obtain rfl : j = R2 := by omega
                go_wp2_with fail
                have hmm := HM.out
                rw [← HQ.out.1] at hmm
                refine ⟨⟨k + 1, by omega, by go_num, fun i q hi hq => ?_, hmm⟩, by simp [intOf]; omega⟩
                by_cases hik : i = k
                · subst hik
                  rw [HRK.out] at hq
                  injection hq with hq
                  subst hq
                  exact HOK.out
                · exact HK.out.1 i q (by omega) hq
          · rw [decide_eq_false hokr]
            go_wp2_with fail
            refine bodyPost_ret (v := .tuple #[.slice none 0 0, .bool false]) (by simp [results, Try.f54, go_sem]) rfl ⟨H4.out.below, .inr ⟨fun h => hokr (h.2.1 r (List.mem_of_getElem? HRK.out)), rfl⟩⟩
        · obtain rfl : k = rs.length := by omega
          go_wp2_with fail
          refine bodyPost_ret (v := .tuple #[.slice (some ⟨h, 0, none⟩) D D, .bool true]) (by simp [results, Try.f54, go_sem]) rfl ⟨HK.out.2.below, .inl ⟨?_, h, rfl, ?_⟩⟩
          · refine ⟨HR.out, fun r hr => ?_, ?_⟩
            · obtain ⟨j, hj, e⟩ := List.getElem_of_mem hr
              exact HK.out.1 j r hj (by rw [List.getElem?_eq_getElem hj, e])
            · have := HK.out.2.nodup
              rwa [List.take_length, List.take_length] at this
          · have := HK.out.2.own
            rwa [List.take_length, List.take_length] at this
  · have hr := decide_eq_false hR
    have hno : ¬ apartP l a d rs := fun h => hR h.1
    go_enter Try.func54, Try.ntmps54
    go_wp2_with fail
    refine (rright_any l a d _).mono ?_
    rintro e w1 ⟨rfl, rfl⟩
    rw [hr]
    dsimp only
    go_wp2_with fail
    refine bodyPost_ret (v := .tuple #[.slice none 0 0, .bool false]) (by simp [results, Try.f54, go_sem]) rfl ⟨?_, .inr ⟨hno, rfl⟩⟩
    exact ((Below.refl _ w).alloc (Nat.le_refl _) _).al _
end Go.Proofs.Ytajeohmmobgcjaa
end
section
namespace Go.Proofs.Ytajeohmmobgcjaa
open Go Go.RowKit
set_option maxRecDepth 100000
theorem mark_cell {w : World} {B h D k : Nat} {l : List Nat} (ho : w.ownsRow B 4 1 (.slice (some ⟨h, 0, none⟩) D D) D (marksC D l)) (hk : k < D) : w.cell? ⟨h, k, none⟩ = some (.bool (l.contains k)) := by
  have hmc := marksC_at l hk
  have := own_range ho k 1 [.bool (l.contains k)] (by
    obtain ⟨hi, he⟩ := List.getElem?_eq_some_iff.1 hmc
    rw [List.drop_eq_getElem_cons hi, he]
    rfl)
  exact this 0 _ rfl
theorem rapart_any (l a d : Int) (v : Value) (rs : List Run) (hlen : rs.length ≤ 1000000) (w : World) (hrs : RunsM w w.heap.size v rs) :
    Calls Try.prog 21 #[.agg #[.int .i64 l, .int .i64 a, .int .i64 d], v] w fun e w' => e = .returned (.bool (decide (apartP l a d rs))) ∧ Below w.heap.size w w' := by
  have hal := hrs.below ((Below.refl _ w).alloc (Nat.le_refl _) (.cells #[.int .i64 l, .int .i64 a, .int .i64 d] 23))
  clear hrs
  go_enter Try.func21, Try.ntmps21
  go_wp2_with fail
  refine (marks_any l a d v rs hlen _ hal).mono ?_
  rintro e w1 ⟨hb, h⟩
  have HB : Hid (Below w.heap.size w w1) := hide (((Below.refl _ w).alloc (Nat.le_refl _) _).next hb)
  clear hb hal
  rcases h with ⟨hap, h, rfl, _⟩ | ⟨hap, rfl⟩
  · dsimp only
    go_wp2_with fail
    go_ret
    rw [decide_eq_true hap]
    exact ⟨rfl, HB.out⟩
  · dsimp only
    go_wp2_with fail
    go_ret
    rw [decide_eq_false hap]
    exact ⟨rfl, HB.out⟩
set_option maxHeartbeats 1000000 in
theorem rfree_any (l a d : Int) (v : Value) (rs : List Run) (hlen : rs.length ≤ 1000000) (w : World) (hrs : RunsM w w.heap.size v rs) :
    Calls Try.prog 17 #[.agg #[.int .i64 l, .int .i64 a, .int .i64 d], v] w fun e w' => e = .returned (.tuple #[.int .i64 (freeN l a d rs), .int .i64 (freeE l a d rs)]) ∧ Below w.heap.size w w' := by
  have hal := hrs.below ((Below.refl _ w).alloc (Nat.le_refl _) (.cells #[.int .i64 l, .int .i64 a, .int .i64 d] 23))
  clear hrs
  go_enter Try.func17, Try.ntmps17
  go_wp2_with fail
  refine (marks_any l a d v rs hlen _ hal).mono ?_
  rintro e w1 ⟨hb, h⟩
  have HB : Hid (Below w.heap.size w w1) := hide (((Below.refl _ w).alloc (Nat.le_refl _) _).next hb)
  clear hb hal
  rcases h with ⟨hap, h, rfl, ho⟩ | ⟨hap, rfl⟩
  · have hN : freeN l a d rs = ((freeTo rs d.toNat).length : Int) := if_pos hap
    have hE : freeE l a d rs = 0 := if_pos hap
    have hD : d.toNat ≤ 8192 := by have := apart_d hap; omega
    generalize d.toNat = D at ho hN hD ⊢
    have HN := hide (And.intro hN hE)
    have HO := hide ho
    clear hN hE ho
    dsimp only
    go_wp2_with fail
    go_loopw [8, 9] (fun N i wr => ∃ k : Nat, k ≤ D ∧ i = .int .i64 (k : Int) ∧ N = .int .i64 ((freeTo rs k).length : Int) ∧ wr = w1) (fun _ i _ => D - (intOf i).toNat)
    case atStart => exact ⟨0, by omega, rfl, rfl, rfl⟩
    case round =>
      obtain ⟨k, hk, rfl, rfl, rfl⟩ := hrel
      have hfl := freeTo_len rs k
      have f1 : (0 : Int) ≤ ((freeTo rs k).length : Int) := by omega
      have f2 : ((freeTo rs k).length : Int) ≤ 8192 := by omega
      by_cases hk2 : k < D
      · have n1 : (k : Int) < (D : Int) := by omega
        have n2 : (0 : Int) ≤ (k : Int) := by omega
        have n3 : (D : Int) ≤ 8192 := by omega
        have hc := mark_cell HO.out hk2
        have hs := freeTo_succ rs k
        cases hcon : (pos rs).contains k with
        | true =>
          rw [hcon] at hc hs
          rw [if_pos rfl, List.append_nil] at hs
          go_wp2_with fail
          exact ⟨⟨k + 1, by omega, by go_num, by rw [hs], trivial⟩, by simp [intOf]; omega⟩
        | false =>
          rw [hcon] at hc hs
          rw [if_neg (by simp)] at hs
          have hs2 : (freeTo rs (k + 1)).length = (freeTo rs k).length + 1 := by rw [hs, List.length_append]; rfl
          go_wp2_with fail
          exact ⟨⟨k + 1, by omega, by go_num, by rw [hs2]; go_num, trivial⟩, by simp [intOf]; omega⟩
      · obtain rfl : k = D := by omega
        go_wp2_with fail
        refine bodyPost_ret (v := .tuple #[.int .i64 ((freeTo rs k).length : Int), .int .i64 0]) (by simp [results, Try.f17, go_sem]) rfl ?_
        rw [HN.out.1, HN.out.2]
        exact ⟨rfl, HB.out⟩
  · have hN : freeN l a d rs = 0 := if_neg hap
    have hE : freeE l a d rs = 2 := if_neg hap
    dsimp only
    go_wp2_with fail
    refine bodyPost_ret (v := .tuple #[.int .i64 0, .int .i64 2]) (by simp [results, Try.f17, go_sem]) rfl ?_
    rw [hN, hE]
    exact ⟨rfl, HB.out⟩
/-- what Find is in the loop -/
structure RFindAt (w0 w : World) (B h D : Nat) (rs : List Run) (n : Nat) (k : Nat) (M O : Value) : Prop where
  kd : k ≤ D
  len : (freeTo rs k).length ≤ n
  many : M = .int .i64 ((n : Int) - ((freeTo rs k).length : Int))
  own : OwnRuns B w O (grps (freeTo rs k))
  marks : w.ownsRow w0.heap.size 4 1 (.slice (some ⟨h, 0, none⟩) D D) D (marksC D (pos rs))
  sz : B ≤ w.heap.size
  lt : h < B
  below : Below w0.heap.size w0 w
  w0 : w0.heap.size ≤ B
theorem RFindAt.drewN {w0 w : World} {B h D n k : Nat} {rs : List Run} {M O : Value} (q : RFindAt w0 w B h D rs n k M O) (i : Nat) : RFindAt w0 (w.drewN i) B h D rs n k M O :=
  ⟨q.kd, q.len, q.many, q.own.below (below_drewN (Below.refl _ _) i), q.marks, q.sz, q.lt, below_drewN q.below i, q.w0⟩
theorem RFindAt.next {w0 w W : World} {B h D n k : Nat} {rs : List Run} {M O O' : Value} (q : RFindAt w0 w B h D rs n k M O) (hk : k < D) (hn : (freeTo rs k).length ≠ n) (hs : freeTo rs (k + 1) = freeTo rs k ++ [k])
    (own : OwnRuns B W O' (grp (grps (freeTo rs k)) k)) (hh : W.heap[h]? = w.heap[h]?) (sz : B ≤ W.heap.size) (below : Below w0.heap.size w0 W) : RFindAt w0 W B h D rs n (k + 1) (.int .i64 ((n : Int) - ((freeTo rs k).length : Int) - 1)) O' := by
  have hl : (freeTo rs (k + 1)).length = (freeTo rs k).length + 1 := by rw [hs, List.length_append]; rfl
  have hgr : grps (freeTo rs (k + 1)) = grp (grps (freeTo rs k)) k := by rw [hs, grps_app]
  have := q.len
  refine ⟨by omega, by omega, by rw [hl]; congr 1; omega, by rw [hgr]; exact own, owned_keepN q.marks fun g hg _ => ?_, sz, q.lt, below, q.w0⟩
  have hg : some h = some g := hg
  injection hg with hg
  subst hg
  exact hh
theorem RFindAt.push {w0 W : World} {B h D n k : Nat} {rs : List Run} {M O : Value} (q : RFindAt w0 W B h D rs n k M O) (hk : k < D) (hD : D ≤ 8192) (hn : (freeTo rs k).length ≠ n) (hs : freeTo rs (k + 1) = freeTo rs k ++ [k])
    (hgrp : grp (grps (freeTo rs k)) k = grps (freeTo rs k) ++ [((k : Int), 1)]) :
    ∃ v' w', (Builtin.append_ #[24, 24] 24 #[O, .slice (some ⟨W.heap.size, 0, none⟩) 1 1]).run Try.prog (W.alloc (.cells #[.int .i64 (k : Int), .int .i64 1] 40)) = .ok v' w' ∧ RFindAt w0 w' B h D rs n (k + 1) (.int .i64 ((n : Int) - ((freeTo rs k).length : Int) - 1)) v' := by
  have hgl := (gok rs k).len
  have hcells : ∀ j r, [((k : Int), (1 : Int))][j]? = some r → (W.alloc (.cells #[.int .i64 (k : Int), .int .i64 1] 40)).cell? ⟨W.heap.size, 0 + j * 2, none⟩ = some (.int .i64 r.1) ∧ (W.alloc (.cells #[.int .i64 (k : Int), .int .i64 1] 40)).cell? ⟨W.heap.size, 0 + j * 2 + 1, none⟩ = some (.int .i64 r.2) := by
    intro j r hj
    have hb := Blk.new W 40 #[.int .i64 (k : Int), .int .i64 1]
    cases j with
    | zero =>
      injection hj with hj
      subst hj
      exact ⟨hb.cell 0, hb.cell 1⟩
    | succ j => simp at hj
  obtain ⟨v', w', happ, hown', hgr', hbe'⟩ := q.own.app (news := [((k : Int), 1)]) q.sz ((Below.refl _ _).alloc (Nat.le_refl _) (.cells #[.int .i64 (k : Int), .int .i64 1] 40)) (by simp) (by simp; omega) W.heap.size 0 hcells (by
    intro r hr'
    obtain rfl := List.mem_singleton.1 hr'
    show (_ ∧ _) ∧ (_ ∧ _)
    omega) 1
  refine ⟨v', w', happ, q.next hk hn hs ?_ (hbe'.block h q.lt) (Nat.le_trans q.sz hbe'.size) (q.below.trans (hbe'.mono q.w0))⟩
  rw [hgrp]
  exact hown'
set_option maxHeartbeats 4000000 in
theorem rfind_ok (l a d : Int) (v : Value) (rs : List Run) (hlen : rs.length ≤ 1000000) (hap : apartP l a d rs) (n : Nat) (hn : n ≤ (freeTo rs d.toNat).length) (w : World) (hrs : RunsM w w.heap.size v rs) :
    Calls Try.prog 15 #[.agg #[.int .i64 l, .int .i64 a, .int .i64 d], .int .i64 (n : Int), v] w fun e w' => ∃ o, e = .returned (.tuple #[o, .int .i64 0]) ∧ OwnRuns w.heap.size w' o (findP rs d.toNat n) ∧ Below w.heap.size w w' := by
  have hb0 : Below w.heap.size w (w.alloc (.cells #[.int .i64 l, .int .i64 a, .int .i64 d] 23)) := (Below.refl _ w).alloc (Nat.le_refl _) _
  have hal := hrs.below hb0
  have hN : freeN l a d rs = ((freeTo rs d.toNat).length : Int) := if_pos hap
  have hE : freeE l a d rs = 0 := if_pos hap
  have hD : d.toNat ≤ 8192 := by have := apart_d hap; omega
  have hfl := freeTo_len rs d.toNat
  have HRS := hide (And.intro hrs hal)
  clear hrs hal hb0
  go_enter Try.func15, Try.ntmps15
  go_wp2_with fail
  refine (marks_any l a d v rs hlen _ HRS.out.2).mono ?_
  rintro e w1 ⟨hb, h⟩
  have HB : Hid (Below w.heap.size w w1) := hide (((Below.refl _ w).alloc (Nat.le_refl _) _).next hb)
  have hsh : Blk w1 w.heap.size 23 #[.int .i64 l, .int .i64 a, .int .i64 d] := (Blk.new w _ _).below hb (by rw [size_alloc]; omega)
  have c0 := hsh.cell 0
  have c1 := hsh.cell 1
  have c2 := hsh.cell 2
  have hlt := hsh.lt
  clear hb hsh
  rcases h with ⟨_, h, rfl, ho⟩ | ⟨hno, rfl⟩
  · have HO : Hid (w1.ownsRow w.heap.size 4 1 (.slice (some ⟨h, 0, none⟩) d.toNat d.toNat) d.toNat (marksC d.toNat (pos rs))) := hide (owned_baseN ho fun g hg => by have := (owned_ltN ho hg).1; rw [size_alloc] at this; omega)
    have n1 : (0 : Int) ≤ (n : Int) := by omega
    clear ho
    dsimp only
    go_wp2_with fail
    refine (rfree_any l a d v rs hlen _ (HRS.out.1.below HB.out)).mono ?_
    rintro e w2 ⟨rfl, hb2⟩
    rw [hN, hE]
    have n2 : ¬ ((freeTo rs d.toNat).length : Int) < (n : Int) := by omega
    have hA : RFindAt w w2 w2.heap.size h d.toNat rs n 0 (.int .i64 (n : Int)) (.slice none 0 0) := by
      have ho2 := owned_keepN HO.out (w' := w2) fun g _ hl => hb2.block g hl
      refine ⟨by omega, by simp [freeTo_zero], by simp [freeTo_zero], ownRuns_nil _ _, ho2, Nat.le_refl _, (owned_ltN ho2 (g := h) rfl).2, HB.out.next hb2, (HB.out.next hb2).size⟩
    clear hb2
    generalize hDD : d.toNat = D at hA hD hfl hn n2 hN HO ⊢
    have HDD := hide hDD
    clear hDD
    have HA := hide (And.intro hA hn)
    clear hA hn HO hN
    dsimp only
    go_wp2_with fail
    generalize w2.heap.size = B at HA
    go_loopw [1, 12, 13] (fun M O i wr => ∃ k : Nat, i = .int .i64 (k : Int) ∧ RFindAt w wr B h D rs n k M O) (fun _ _ i _ => D - (intOf i).toNat)
    case atStart => exact ⟨0, rfl, HA.out.1⟩
    case round =>
      obtain ⟨k, rfl, hat⟩ := hrel
      have hG := gok rs k
      have HG := hide hG
      have hM := hat.many
      subst hM
      have hkd := hat.kd
      have hlen2 := hat.len
      have hfk := freeTo_len rs k
      have HR := hide hat
      have q4 : (0 : Int) ≤ (k : Int) := by omega
      have q5 : (D : Int) ≤ 8192 := by omega
      clear hat hG
      by_cases hfull : (freeTo rs k).length = n
      · have e0 : (n : Int) - ((freeTo rs k).length : Int) = 0 := by omega
        rw [e0]
        by_cases hkD : k < D
        · have q3 : (k : Int) < (D : Int) := by omega
          go_wp2_with fail
          refine bodyPost_ret (v := .tuple #[u12, .int .i64 0]) (by simp [results, Try.f15, go_sem]) rfl ⟨u12, rfl, ?_, HR.out.below⟩
          rw [HDD.out, findP_at HR.out.kd hfull]
          exact ⟨owned_baseN HR.out.own.1 fun h hh => by have := (owned_ltN HR.out.own.1 hh).1; have := HR.out.w0; omega, HR.out.own.2⟩
        · have q3 : ¬ (k : Int) < (D : Int) := by omega
          go_wp2_with fail
          refine bodyPost_ret (v := .tuple #[u12, .int .i64 0]) (by simp [results, Try.f15, go_sem]) rfl ⟨u12, rfl, ?_, HR.out.below⟩
          rw [HDD.out, findP_at HR.out.kd hfull]
          exact ⟨owned_baseN HR.out.own.1 fun h hh => by have := (owned_ltN HR.out.own.1 hh).1; have := HR.out.w0; omega, HR.out.own.2⟩
      · have hkD : k < D := by
          rcases Nat.lt_or_ge k D with h | h
          · exact h
          · obtain rfl : k = D := by omega
            have := HA.out.2
            omega
        have q1 : (0 : Int) < (n : Int) - ((freeTo rs k).length : Int) := by omega
        have q2 : (n : Int) - ((freeTo rs k).length : Int) ≤ 8192 := by have := HA.out.2; omega
        have q3 : (k : Int) < (D : Int) := by omega
        generalize hrem : (n : Int) - ((freeTo rs k).length : Int) = rem at q1 q2 ⊢
        have HREM := hide hrem
        clear hrem
        have hc := mark_cell HR.out.marks hkD
        have hsucc := freeTo_succ rs k
        cases hcon : (pos rs).contains k with
        | true =>
          rw [hcon] at hc
          rw [hcon, if_pos rfl, List.append_nil] at hsucc
          go_wp2_with fail
          have hr := HR.out
          refine ⟨⟨k + 1, by go_num, by omega, by rw [hsucc]; exact hr.len, by rw [hsucc, HREM.out], by rw [hsucc]; exact hr.own, hr.marks, hr.sz, hr.lt, hr.below, hr.w0⟩, by simp [intOf]; omega⟩
        | false =>
          rw [hcon] at hc
          rw [hcon, if_neg (by simp)] at hsucc
          have hstep := grps_app (freeTo rs k) k
          rw [← hsucc] at hstep
          rcases List.eq_nil_or_concat (grps (freeTo rs k)) with hnil | ⟨ini, r, hini⟩
          · have hgrp : grp (grps (freeTo rs k)) k = grps (freeTo rs k) ++ [((k : Int), 1)] := by rw [hnil]; rfl
            have hown := HR.out.own
            rw [hnil] at hown
            obtain ⟨A', cp', rfl, _⟩ := hown.m
            have HG2 := hide (And.intro hgrp (And.intro hsucc hstep))
            clear hgrp hsucc hstep hown
            simp only [List.length_nil] at HR ⊢
            go_wp2_with fail
            go_quiet (fail)
            obtain ⟨v', w', happ, hat'⟩ := (HR.out.drewN nq).push hkD hD hfull HG2.out.2.1 HG2.out.1
            rw [HREM.out] at hat'
            have HAP := hide (And.intro happ hat')
            clear happ hat'
            go_wp2_with (at_builtin; refine wpList_value (o := ⟨some 87, _, _, _, _, _⟩) rfl v' w' (exec_append (o := ⟨some 87, _, _, _, _, _⟩) (.tmp 83) (.tmp 86) 24 rfl (.slice A' 0 cp') (.slice (some ⟨wr.heap.size, 0, none⟩) 1 1) _ _ _ rfl rfl HAP.out.1) ?_)
            exact ⟨⟨k + 1, by go_num, HAP.out.2⟩, by simp [intOf]; omega⟩
          · rw [List.concat_eq_append] at hini
            have hown := HR.out.own
            rw [hini] at hown
            obtain ⟨l1, l2, l3⟩ := HG.out.each r (by rw [hini]; simp)
            obtain ⟨hh, cap, rfl⟩ := owned_placeN hown.1 (by simp)
            have hth := own_there hown.1 (ini.length * 2 + 1) 1 (by simp; omega)
            have hhl := owned_ltN hown.1 (g := hh) rfl
            have hrng := own_range hown.1 (ini.length * 2) 2 [.int .i64 r.1, .int .i64 r.2] (by rw [runCells_app, List.drop_left' (runCells_len _)]; rfl)
            have d0 := hrng 0 _ rfl
            have d1 := hrng 1 _ rfl
            have z4 := (hth 0 (by omega)).2
            have hll : (ini ++ [r]).length = ini.length + 1 := by simp
            have hgl := HG.out.len
            rw [hini, hll] at hgl
            rw [Nat.add_zero] at d0 z4
            have i1 : (0 : Int) ≤ (ini.length : Int) := by omega
            have i2 : (ini.length : Int) ≤ 8192 := by omega
            have i3 : r.2 ≤ 8192 := by omega
            have i4 : r.1 ≤ 8192 := by omega
            have HOWN := hide hown
            clear hown hth hrng
            by_cases pp : r.1 + r.2 = (k : Int)
            · have hgrp : grp (grps (freeTo rs k)) k = ini ++ [(r.1, r.2 + 1)] := by
                rw [hini, grp, lastR_app, if_pos ⟨by omega, pp⟩, List.dropLast_concat]
              have HG2 := hide (And.intro hgrp (And.intro hsucc (And.intro hstep hini)))
              clear hgrp hsucc hstep hini
              simp only [hll] at HR ⊢
              go_wp2_with fail
              go_quiet (fail)
              go_wp2_with fail
              have hr := HR.out.drewN nq
              obtain ⟨hgrp, hsucc, hstep, hini⟩ := HG2.out
              have hown := HOWN.out
              have hown1 : (wr.drewN nq).ownsRow B 40 2 (.slice (some ⟨hh, 0, none⟩) (ini.length + 1) cap) (ini.length + 1) (runCells (ini ++ [r])) := by
                have := hown.1
                rw [hll] at this
                exact this
              have ho2 := own_setCells hown1 (ini.length * 2 + 1) [.int .i64 (r.2 + 1)] (by simp; omega)
              have e1 : (runCells (ini ++ [r])).take (ini.length * 2 + 1) = runCells ini ++ [.int .i64 r.1] := by
                rw [runCells_app, List.take_append, runCells_len, List.take_of_length_le (by rw [runCells_len]; omega), show ini.length * 2 + 1 - ini.length * 2 = 1 by omega]
                rfl
              have e2 : (runCells (ini ++ [r])).drop (ini.length * 2 + 1 + [Value.int .i64 (r.2 + 1)].length) = [] :=
                List.drop_eq_nil_of_le (by rw [runCells_len, hll]; simp; omega)
              rw [e1, e2] at ho2
              refine ⟨⟨k + 1, by go_num, ?_⟩, by simp [intOf]; omega⟩
              rw [← HREM.out]
              have hlt := hr.lt
              refine hr.next hkD hfull hsucc ?_ (Below.heap_setCell _ _ _ _ (by show h ≠ hh; omega)) (by simpa using hr.sz) (hr.below.setCell (by show w.heap.size ≤ hh; have := hr.w0; omega) _)
              rw [hgrp]
              refine ⟨?_, ?_⟩
              · rw [runCells_app, List.length_append]
                have e3 : runCells ini ++ [Value.int .i64 r.1] ++ ([.int .i64 (r.2 + 1)] ++ []) = runCells ini ++ runCells [(r.1, r.2 + 1)] := by
                  rw [List.append_assoc]
                  rfl
                rw [← e3]
                exact ho2
              · intro q hq
                rcases List.mem_append.1 hq with hq | hq
                · exact hown.2 q (by simp [hq])
                · obtain rfl := List.mem_singleton.1 hq
                  show (_ ∧ _) ∧ (_ ∧ _)
                  omega
            · have hgrp : grp (grps (freeTo rs k)) k = grps (freeTo rs k) ++ [((k : Int), 1)] := by
                rw [hini, grp, lastR_app, if_neg (fun h => pp h.2)]
              have HG2 := hide (And.intro hgrp (And.intro hsucc (And.intro hstep hini)))
              clear hgrp hsucc hstep hini
              simp only [hll] at HR ⊢
              go_wp2_with fail
              go_quiet (fail)
              obtain ⟨v', w', happ, hat'⟩ := (HR.out.drewN nq).push hkD hD hfull HG2.out.2.1 HG2.out.1
              rw [HREM.out] at hat'
              have HAP := hide (And.intro happ hat')
              clear happ hat'
              go_wp2_with (at_builtin; refine wpList_value (o := ⟨some 87, _, _, _, _, _⟩) rfl v' w' (exec_append (o := ⟨some 87, _, _, _, _, _⟩) (.tmp 83) (.tmp 86) 24 rfl (.slice (some ⟨hh, 0, none⟩) (ini.length + 1) cap) (.slice (some ⟨wr.heap.size, 0, none⟩) 1 1) _ _ _ rfl rfl HAP.out.1) ?_)
              exact ⟨⟨k + 1, by go_num, HAP.out.2⟩, by simp [intOf]; omega⟩
  · exact absurd hap hno
theorem rfind_any (l a d : Int) (v : Value) (rs : List Run) (hlen : rs.length ≤ 1000000) (n : Int) (w : World) (hrs : RunsM w w.heap.size v rs) :
    Calls Try.prog 15 #[.agg #[.int .i64 l, .int .i64 a, .int .i64 d], .int .i64 n, v] w fun e w' => ∃ o, e = .returned (.tuple #[o, .int .i64 (findE l a d rs n)]) ∧ OwnRuns w.heap.size w' o (findR l a d rs n) ∧ Below w.heap.size w w' := by
  have hb0 : Below w.heap.size w (w.alloc (.cells #[.int .i64 l, .int .i64 a, .int .i64 d] 23)) := (Below.refl _ w).alloc (Nat.le_refl _) _
  have hal := hrs.below hb0
  by_cases hap : apartP l a d rs
  · by_cases hn : 0 ≤ n
    · by_cases hf : ((freeTo rs d.toNat).length : Int) < n
      · have hE : findE l a d rs n = 7 := by rw [findE, if_pos ⟨hap, hn⟩, if_pos hf]
        have hR : findR l a d rs n = [] := by rw [findR, hE]; rfl
        rw [hE, hR]
        have hN : freeN l a d rs = ((freeTo rs d.toNat).length : Int) := if_pos hap
        have hE2 : freeE l a d rs = 0 := if_pos hap
        have HRS := hide (And.intro hrs hal)
        clear hrs hal hb0 hE hR
        go_enter Try.func15, Try.ntmps15
        go_wp2_with fail
        refine (marks_any l a d v rs hlen _ HRS.out.2).mono ?_
        rintro e w1 ⟨hb, h⟩
        have HB : Hid (Below w.heap.size w w1) := hide (((Below.refl _ w).alloc (Nat.le_refl _) _).next hb)
        have hsh : Blk w1 w.heap.size 23 #[.int .i64 l, .int .i64 a, .int .i64 d] := (Blk.new w _ _).below hb (by rw [size_alloc]; omega)
        have c0 := hsh.cell 0
        have c1 := hsh.cell 1
        have c2 := hsh.cell 2
        have hlt := hsh.lt
        clear hb hsh
        rcases h with ⟨_, h, rfl, ho⟩ | ⟨hno, rfl⟩
        · clear ho
          generalize d.toNat = D at hN hf ⊢
          dsimp only
          go_wp2_with fail
          refine (rfree_any l a d v rs hlen _ (HRS.out.1.below HB.out)).mono ?_
          rintro e w2 ⟨rfl, hb2⟩
          rw [hN, hE2]
          have HB2 := hide (HB.out.next hb2)
          clear hb2
          dsimp only
          go_wp2_with fail
          refine bodyPost_ret (v := .tuple #[.slice none 0 0, .int .i64 7]) (by simp [results, Try.f15, go_sem]) rfl ⟨_, rfl, ownRuns_nil _ _, HB2.out⟩
        · exact absurd hap hno
      · have hE : findE l a d rs n = 0 := by rw [findE, if_pos ⟨hap, hn⟩, if_neg hf]
        have hR : findR l a d rs n = findP rs d.toNat n.toNat := by rw [findR, hE]; rfl
        rw [hE, hR]
        have h := rfind_ok l a d v rs hlen hap n.toNat (by omega) w hrs
        rwa [Int.toNat_of_nonneg hn] at h
    · have hE : findE l a d rs n = 2 := by rw [findE, if_neg (fun h => hn h.2)]
      have hR : findR l a d rs n = [] := by rw [findR, hE]; rfl
      rw [hE, hR]
      have HRS := hide hal
      clear hrs hal hb0 hE hR
      go_enter Try.func15, Try.ntmps15
      go_wp2_with fail
      refine (marks_any l a d v rs hlen _ HRS.out).mono ?_
      rintro e w1 ⟨hb, h⟩
      have HB : Hid (Below w.heap.size w w1) := hide (((Below.refl _ w).alloc (Nat.le_refl _) _).next hb)
      clear hb
      rcases h with ⟨_, h, rfl, ho⟩ | ⟨hno, rfl⟩
      · clear ho hap
        generalize d.toNat = D
        dsimp only
        go_wp2_with fail
        refine bodyPost_ret (v := .tuple #[.slice none 0 0, .int .i64 2]) (by simp [results, Try.f15, go_sem]) rfl ⟨_, rfl, ownRuns_nil _ _, HB.out⟩
      · exact absurd hap hno
  · have hE : findE l a d rs n = 2 := by rw [findE, if_neg (fun h => hap h.1)]
    have hR : findR l a d rs n = [] := by rw [findR, hE]; rfl
    rw [hE, hR]
    have HRS := hide hal
    clear hrs hal hb0 hE hR
    go_enter Try.func15, Try.ntmps15
    go_wp2_with fail
    refine (marks_any l a d v rs hlen _ HRS.out).mono ?_
    rintro e w1 ⟨hb, h⟩
    have HB : Hid (Below w.heap.size w w1) := hide (((Below.refl _ w).alloc (Nat.le_refl _) _).next hb)
    clear hb
    rcases h with ⟨h1, _⟩ | ⟨hno, rfl⟩
    · exact absurd h1 hap
    · dsimp only
      go_wp2_with fail
      refine bodyPost_ret (v := .tuple #[.slice none 0 0, .int .i64 2]) (by simp [results, Try.f15, go_sem]) rfl ⟨_, rfl, ownRuns_nil _ _, HB.out⟩
end Go.Proofs.Ytajeohmmobgcjaa
end
