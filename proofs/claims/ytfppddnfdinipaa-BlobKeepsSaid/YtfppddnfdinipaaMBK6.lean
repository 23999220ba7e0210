/- spenceref07: marks. spenceref07: Apart, Free, Find. spencelaw07: sameRuns, awake. spencelaw07: BlobFinds. GenTail's law, where what is made need not be apart: a made slot may hold an aggregate. Printed by gen/free.py. GenMade's law, where what is made need not be apart. Printed by gen/free.py. the region law of XFreMade: an operation that looks at two made slots. rows that grow in a region that draws its order: the relation of worlds. runs: rows that grow in a region that draws its order. Arguments opened: an array of bytes by value. Rows: arguments opened as readable bytes; a law's last step. -/
import Derived.Test.YtfppddnfdinipaaMBK5
import Derived.Test.YtfppddnfdinipaaMBK1
import Derived.Below
import Derived.Test.YtfppddnfdinipaaMBK4
import Derived.ProofKit
import Derived.OpenShut
import Derived.ChangeSame
import Derived.Carry
import Derived.SizedLaws
import Derived.ChangeSlices
import Derived.Deep.Matrix
import Derived.ChangeMaps5
section
namespace Go.Proofs.Ytfppddnfdinipaa
open Go Go.RowKit
set_option maxRecDepth 100000
theorem info_bool : (Try.prog.info? 4).map (fun i => (i.zero, i.size, i.bytes)) = some (some (.bool false), 1, 1) := by kernel_rfl
theorem made_marks (n : Nat) : (madeCells #[.bool false] n).toList = marksC n [] := by
  rw [marksC_nil]
  apply List.ext_getElem?
  intro j
  by_cases hj : j < n
  · simp [madeCells, hj, Nat.mod_one]
  · simp [madeCells, hj]
theorem exec_index_off {P : Program} {ρ : Operand → Value} {o : Oper} (ty e : TypeId) (x i : Operand) (ho : o.op = .indexAddr ty x i) (b off n cap : Nat) (k : Int) (kk : IntKind) (hx : ρ x = .slice (some ⟨b, off, none⟩) n cap) (hi : ρ i = .int kk k) (hk : 0 ≤ k ∧ k < (n : Int)) (s : Nat) (hu : P.underlying ty = some (.slice e)) (hs : (P.info? e).map (·.size) = some s) (w : World) :
    (execOp ρ o).run P w = .ok (.value (.pointer (some ⟨b, off + k.toNat * s, none⟩))) w := by
  have e2 : P.elem ty = e := by simp [Program.elem, hu]
  unfold execOp
  simp only [ho, hx, hi, Sem.run_bind, Sem.run_pure, run_indexAt_slice w ty _ _ _ kk k (by rw [e2]; exact hu), e2, if_pos hk]
  cases hq : P.info? e with
  | none => simp [hq] at hs
  | some i =>
    have h1 : i.size = s := by simpa [hq] using hs
    have e0 : (⟨b, off, none⟩ : Addr).add (k.toNat * s) = ⟨b, off + k.toNat * s, none⟩ := by rw [Addr.add_mid]
    simp [sizeOf, typeInfo, hq, h1, e0]
theorem sz_run : (Try.prog.info? 88).map (·.size) = some 2 := by kernel_rfl
/-- what marks is in its loops: the first q sectors are marked -/
structure MarkAt (w0 w : World) (h : Nat) (l a : Int) (D : Nat) (rs : List Run) (q : Nat) : Prop where
  own : w.ownsRow w0.heap.size 4 1 (.slice (some ⟨h, 0, none⟩) D D) D (marksC D ((pos rs).take q))
  nodup : ((pos rs).take q).Nodup
  shape : Blk w w0.heap.size 64 #[.int .i64 l, .int .i64 a, .int .i64 (D : Int)]
  below : Below w0.heap.size w0 w
  lt : w0.heap.size < h
theorem MarkAt.grow {w0 w w' : World} {h : Nat} {l a : Int} {D : Nat} {rs : List Run} {q : Nat} (m : MarkAt w0 w h l a D rs q) (hb : Below w.heap.size w w') : MarkAt w0 w' h l a D rs q :=
  ⟨owned_keepN m.own fun k _ hl => hb.block k hl, m.nodup, m.shape.below hb m.shape.lt, m.below.next hb, m.lt⟩
set_option maxHeartbeats 2000000 in
theorem marks_any (l a d : Int) (v : Value) (rs : List Run) (hlen : rs.length ≤ 1000000) (w : World) (hrs : RunsM w w.heap.size v rs) :
    Calls Try.prog 130 #[.agg #[.int .i64 l, .int .i64 a, .int .i64 d], v] w fun e w' => Below w.heap.size w w' ∧
      ((apartP l a d rs ∧ ∃ h, e = .returned (.tuple #[.slice (some ⟨h, 0, none⟩) d.toNat d.toNat, .bool true]) ∧ w'.ownsRow w.heap.size 4 1 (.slice (some ⟨h, 0, none⟩) d.toNat d.toNat) d.toNat (marksC d.toNat (pos rs))) ∨ (¬ apartP l a d rs ∧ e = .returned (.tuple #[.slice none 0 0, .bool false]))) := by
  obtain ⟨A, cp, rfl, hcp, hnil, hrow, hr64⟩ := hrs
  have HROW := hide (And.intro hrow hr64)
  clear hrow hr64 hnil hcp
  by_cases hR : rightP l a d
  · obtain ⟨D, rfl⟩ : ∃ D : Nat, d = (D : Int) := ⟨d.toNat, by have := hR.2.2.1.1; omega⟩
    rw [Int.toNat_natCast]
    have hr := decide_eq_true hR
    have hD := hR.2.2.1
    unfold inW at hD
    by_cases hl : (D : Int) < (rs.length : Int)
    · have hno : ¬ apartP l a D rs := fun h => by
        have h1 := pos_len_le rs (fun r hr => (h.2.1 r hr).2.2.1)
        have h2 := apart_count h
        rw [Int.toNat_natCast] at h2
        omega
      go_enter Try.func130, Try.ntmps130
      go_wp2_with fail
      refine (rright_any l a D _).mono ?_
      rintro e w1 ⟨rfl, rfl⟩
      rw [hr]
      dsimp only
      go_wp2_with fail
      refine bodyPost_ret (v := .tuple #[.slice none 0 0, .bool false]) (by simp [results, Try.f130, go_sem]) rfl ⟨?_, .inr ⟨hno, rfl⟩⟩
      exact ((Below.refl _ w).alloc (Nat.le_refl _) _).al _
    · have HR := hide hR
      clear hR
      obtain ⟨i, hi, hz0, hz1, hz2⟩ := info_parts info_bool
      go_enter Try.func130, Try.ntmps130
      go_wp2_with (at_make; refine wpList_make_full _ rfl _ _ 220 rfl w.heap.size 4 i (.bool false) 1 Try.underlying220 hi hz0 hz1 _ _ _ _ D rfl rfl ?e0 ?e1 ?e2 ?e3 ?e4 ?_)
      refine (rright_any l a D _).mono ?_
      rintro e w1 ⟨rfl, hw1⟩
      rw [hr]
      dsimp only
      have hs1 : Blk w1 w.heap.size 64 #[.int .i64 l, .int .i64 a, .int .i64 (D : Int)] := by rw [hw1]; exact (Blk.new w _ _).alloc _
      have hb1 : Below w.heap.size w w1 := by rw [hw1]; exact ((Below.refl _ w).alloc (Nat.le_refl _) _).al _
      have hz : w1.heap.size = w.heap.size + 1 + 1 := by rw [hw1]; simp
      have c2 := hs1.cell 2
      have hlt1 := hs1.lt
      have H1 := hide (And.intro hs1 (And.intro hb1 hz))
      clear hw1 hs1 hb1 hz
      go_wp2_with (at_make; refine wpList_make_full _ rfl _ _ 220 rfl w.heap.size 4 i (.bool false) 1 Try.underlying220 hi hz0 hz1 _ _ _ _ D rfl rfl ?e0 ?e1 ?e2 ?e3 ?e4 ?_)
      case e0 => rfl
      case e1 => rfl
      case e2 => rw [hz2]; omega
      case e3 => simp only [maxLen]; omega
      case e4 => omega
      intro w2 own2 gr2
      have hM : MarkAt w w2 w1.heap.size l a D rs 0 := by
        have hb2 : Below w1.heap.size w1 w2 := (Below.refl _ _).grown gr2 (Nat.le_refl _) (by intro k hk; cases hk)
        refine ⟨?_, by simp, H1.out.1.below hb2 H1.out.1.lt, H1.out.2.1.next hb2, by have := H1.out.2.2; omega⟩
        rw [List.take_zero, ← made_marks]
        exact own2
      generalize w1.heap.size = h at hM ⊢
      have HM := hide hM
      clear hM own2 gr2 H1 c2 hlt1 hi hz0 hz1 hz2
      go_wp2_with fail
      go_loopw [7] (fun v wr => ∃ k : Nat, k ≤ rs.length ∧ v = .int .i64 (k : Int) ∧ (∀ j r, j < k → rs[j]? = some r → okRun D r) ∧ MarkAt w wr h l a D rs (pos (rs.take k)).length) (fun v _ => rs.length - (intOf v).toNat)
      case atStart => exact ⟨0, by omega, rfl, (fun j r h => by omega), HM.out⟩
      case round =>
        obtain ⟨k, hk, rfl, hok, hm⟩ := hrel
        have c2 := hm.shape.cell 2
        have hltS := hm.shape.lt
        have HK := hide (And.intro hok hm)
        by_cases hk2 : k < rs.length
        · obtain ⟨r, hrk⟩ : ∃ r, rs[k]? = some r := ⟨_, List.getElem?_eq_getElem hk2⟩
          obtain ⟨bb, off, hA, hbn, hcs⟩ := HROW.out.1 (by omega)
          subst hA
          have hr64 := HROW.out.2 r (List.mem_of_getElem? hrk)
          have HCS : Hid (∀ W, Below w.heap.size w W → W.cell? ⟨bb, off + k * 2, none⟩ = some (.int .i64 r.1) ∧ W.cell? ⟨bb, off + k * 2 + 1, none⟩ = some (.int .i64 r.2)) := hide fun W hW =>
            ⟨(hW.cell (p := ⟨bb, off + k * 2, none⟩) hbn).trans (hcs k r hrk).1, (hW.cell (p := ⟨bb, off + k * 2 + 1, none⟩) hbn).trans (hcs k r hrk).2⟩
          have HRK := hide hrk
          have n1 : (k : Int) < (rs.length : Int) := by omega
          have n2 : (0 : Int) ≤ (k : Int) := by omega
          clear hok hm hrk hcs
          go_wp2_with fail
          refine wp_made 7 [] (by kernel_rfl) (by kernel_rfl) (by intro p hp; cases hp) List.nodup_nil (by intro t ht; cases ht) ?_
          simp only [List.take_succ_cons, List.take_zero, List.drop_succ_cons, List.drop_zero]
          refine made_val (.pointer (some ⟨w.heap.size, 2, none⟩)) (by kernel_rfl) (by kernel_rfl) (by kernel_rfl) (fun _ _ => by kernel_rfl) ?_
          simp only [Act.put, List.setIfInBounds_toArray, List.set_cons_zero, List.set_cons_succ]
          refine made_val (.int .i64 (D : Int)) (by kernel_rfl) (by kernel_rfl) (by kernel_rfl) (fun W hW => exec_load_cell (o := ⟨some 29, _, _, _, _, _⟩) 3 (.tmp 28) rfl ⟨w.heap.size, 2, none⟩ rfl _ _ W Try.underlying3 rfl (((HK.out.2.grow hW).shape).cell 2)) ?_
          simp only [Act.put, List.setIfInBounds_toArray, List.set_cons_zero, List.set_cons_succ]
          refine made_val (.slice (some ⟨bb, off, none⟩) rs.length cp) (by kernel_rfl) (by kernel_rfl) (by kernel_rfl) (fun _ _ => by kernel_rfl) ?_
          simp only [Act.put, List.setIfInBounds_toArray, List.set_cons_zero, List.set_cons_succ]
          refine made_val (.int .i64 (k : Int)) (by kernel_rfl) (by kernel_rfl) (by kernel_rfl) (fun _ _ => by kernel_rfl) ?_
          simp only [Act.put, List.setIfInBounds_toArray, List.set_cons_zero, List.set_cons_succ]
          refine made_val (.pointer (some ⟨bb, off + (k : Int).toNat * 2, none⟩)) (by kernel_rfl) (by kernel_rfl) (by kernel_rfl) (fun W _ => exec_index_off (o := ⟨some 32, _, _, _, _, _⟩) 73 88 (.tmp 30) (.tmp 31) rfl bb off rs.length cp (k : Int) .i64 rfl rfl ⟨n2, n1⟩ 2 Try.underlying73 sz_run W) ?_
          simp only [Act.put, List.setIfInBounds_toArray, List.set_cons_zero, List.set_cons_succ]
          rw [show (k : Int).toNat = k from Int.toNat_natCast k]
          refine made_val (.agg #[.int .i64 r.1, .int .i64 r.2]) (by kernel_rfl) (by kernel_rfl) (by kernel_rfl) (fun W hW => exec_load_mid (o := ⟨some 33, _, _, _, _, _⟩) 88 (.tmp 32) rfl bb (off + k * 2) rfl [.int .i64 r.1, .int .i64 r.2] _ W ?hrg Try.underlying88 rfl sz_run) ?_
          case hrg =>
            have h := HCS.out W (HK.out.2.grow hW).below
            intro j u hu
            match j, hu with
            | 0, hu => injection hu with hu; subst hu; exact h.1
            | 1, hu => injection hu with hu; subst hu; exact h.2
          simp only [Act.put, List.setIfInBounds_toArray, List.set_cons_zero, List.set_cons_succ]
          refine made_call (.bool (decide (okRun D r))) 164 #[.int .i64 (D : Int), .agg #[.int .i64 r.1, .int .i64 r.2]] (by kernel_rfl) (by kernel_rfl) (by kernel_rfl) (fun W => by kernel_rfl) (fun W _ => (rokr_any D r ⟨by omega, by omega⟩ hr64 W).mono fun e w' ⟨h1, h2⟩ => ⟨h1, by rw [h2]; exact (Below.refl _ _).alloc (Nat.le_refl _) _⟩) ?_
          simp only [Act.put, List.setIfInBounds_toArray, List.set_cons_zero, List.set_cons_succ]
          show ∀ w', _ → _
          intro w4 hb4
          simp only [ended]
          have H4 := hide (HK.out.2.grow hb4)
          clear hb4
          by_cases hokr : okRun D r
          · rw [decide_eq_true hokr]
            obtain ⟨r1, r2, r3, r4⟩ := hokr
            obtain ⟨⟨R1, hR1⟩, R2, hR2⟩ : (∃ R1 : Nat, r.1 = (R1 : Int)) ∧ ∃ R2 : Nat, r.2 = (R2 : Int) := ⟨⟨r.1.toNat, by omega⟩, r.2.toNat, by omega⟩
            go_wp2_with fail
            obtain ⟨q, hq⟩ : ∃ q, q = (pos (rs.take k)).length := ⟨_, rfl⟩
            have h4 := H4.out
            rw [← hq] at h4
            have hpt := pos_take rs k r HRK.out
            rw [← hq, hR2, Int.toNat_natCast] at hpt
            have HQ := hide (And.intro hpt (And.intro h4 (And.intro hR1 hR2)))
            have HOK := hide (And.intro r1 (And.intro r2 (And.intro r3 r4)))
            have m1 : R1 + R2 ≤ D := by omega
            have HEQ := hide hq
            clear hq h4 hpt H4 r1 r2 r3 r4 hR1 hR2
            go_loopw [8] (fun v w5 => ∃ j : Nat, j ≤ R2 ∧ v = .int .i64 (j : Int) ∧ MarkAt w w5 h l a D rs (q + j)) (fun v _ => R2 - (intOf v).toNat)
            case atStart => exact ⟨0, by omega, rfl, HQ.out.2.1⟩
            case round =>
              obtain ⟨j, hj, rfl, hm⟩ := hrel
              have hc := HCS.out _ hm.below
              rw [HQ.out.2.2.1, HQ.out.2.2.2] at hc
              obtain ⟨e1, e2⟩ := hc
              have HM := hide hm
              clear hm
              by_cases hj2 : j < R2
              · have n3 : (j : Int) < (R2 : Int) := by omega
                have n4 : (0 : Int) ≤ (R1 : Int) + (j : Int) := by omega
                have n5 : (R1 : Int) + (j : Int) < (D : Int) := by omega
                have n6 : (D : Int) ≤ 8192 := hD.2
                have hqj : (pos rs)[q + j]? = some (R1 + j) := by
                  have := pos_at rs k r j HRK.out (by rw [HQ.out.2.2.2]; exact hj2)
                  rwa [← HEQ.out, HQ.out.2.2.1, Int.toNat_natCast] at this
                have htk : (pos rs).take (q + j + 1) = (pos rs).take (q + j) ++ [R1 + j] := by
                  rw [List.take_add_one, hqj]
                  rfl
                have hmc := marksC_at ((pos rs).take (q + j)) (show R1 + j < D by omega)
                have hcell : wr.cell? ⟨h, R1 + j, none⟩ = some (.bool (((pos rs).take (q + j)).contains (R1 + j))) := by
                  have := own_range HM.out.own (R1 + j) 1 [.bool (((pos rs).take (q + j)).contains (R1 + j))] (by
                    obtain ⟨hi, he⟩ := List.getElem?_eq_some_iff.1 hmc
                    rw [List.drop_eq_getElem_cons hi, he]
                    rfl)
                  exact this 0 _ rfl
                have hfz := (own_there HM.out.own (R1 + j) 1 (by omega) 0 (by omega)).2
                rw [Nat.add_zero] at hfz
                cases hcon : ((pos rs).take (q + j)).contains (R1 + j) with
                | true =>
                  rw [hcon] at hcell
                  go_wp2_with fail
                  refine bodyPost_ret (v := .tuple #[.slice none 0 0, .bool false]) (by simp [results, Try.f130, go_sem]) rfl ⟨HM.out.below, .inr ⟨fun h => ?_, rfl⟩⟩
                  have hn := List.Pairwise.sublist (List.take_sublist (q + j + 1) _) h.2.2
                  rw [htk] at hn
                  exact (List.nodup_append.1 hn).2.2 _ (List.contains_iff_mem.1 hcon) _ (by simp) rfl
                | false =>
                  rw [hcon] at hcell
                  go_wp2_with fail
                  refine ⟨⟨j + 1, by omega, by go_num, ?_⟩, by simp [intOf]; omega⟩
                  have hm := HM.out
                  have hlt := hm.lt
                  rw [← Nat.add_assoc]
                  refine ⟨?_, ?_, hm.shape.far (by show w.heap.size ≠ h; omega) _, hm.below.setCell (by show w.heap.size ≤ h; omega) _, hlt⟩
                  · rw [htk, ← marksC_set _ (show R1 + j < D by omega)]
                    exact own_setCells hm.own (R1 + j) [.bool true] (by simp; omega)
                  · rw [htk, List.nodup_append]
                    refine ⟨hm.nodup, by simp, fun x hx y hy e => ?_⟩
                    subst e
                    have hy := List.mem_singleton.1 hy
                    subst hy
                    rw [List.contains_iff_mem.2 hx] at hcon
                    cases hcon
              · have n3 : ¬ (j : Int) < (R2 : Int) := by omega
                obtain rfl : j = R2 := by omega
                go_wp2_with fail
                have hmm := HM.out
                rw [← HQ.out.1] at hmm
                refine ⟨⟨k + 1, by omega, by go_num, fun i q hi hq => ?_, hmm⟩, by simp [intOf]; omega⟩
                by_cases hik : i = k
                · subst hik
                  rw [HRK.out] at hq
                  injection hq with hq
                  subst hq
                  exact HOK.out
                · exact HK.out.1 i q (by omega) hq
          · rw [decide_eq_false hokr]
            go_wp2_with fail
            refine bodyPost_ret (v := .tuple #[.slice none 0 0, .bool false]) (by simp [results, Try.f130, go_sem]) rfl ⟨H4.out.below, .inr ⟨fun h => hokr (h.2.1 r (List.mem_of_getElem? HRK.out)), rfl⟩⟩
        · obtain rfl : k = rs.length := by omega
          go_wp2_with fail
          refine bodyPost_ret (v := .tuple #[.slice (some ⟨h, 0, none⟩) D D, .bool true]) (by simp [results, Try.f130, go_sem]) rfl ⟨HK.out.2.below, .inl ⟨?_, h, rfl, ?_⟩⟩
          · refine ⟨HR.out, fun r hr => ?_, ?_⟩
            · obtain ⟨j, hj, e⟩ := List.getElem_of_mem hr
              exact HK.out.1 j r hj (by rw [List.getElem?_eq_getElem hj, e])
            · have := HK.out.2.nodup
              rwa [List.take_length, List.take_length] at this
          · have := HK.out.2.own
            rwa [List.take_length, List.take_length] at this
  · have hr := decide_eq_false hR
    have hno : ¬ apartP l a d rs := fun h => hR h.1
    go_enter Try.func130, Try.ntmps130
    go_wp2_with fail
    refine (rright_any l a d _).mono ?_
    rintro e w1 ⟨rfl, rfl⟩
    rw [hr]
    dsimp only
    go_wp2_with fail
    refine bodyPost_ret (v := .tuple #[.slice none 0 0, .bool false]) (by simp [results, Try.f130, go_sem]) rfl ⟨?_, .inr ⟨hno, rfl⟩⟩
    exact ((Below.refl _ w).alloc (Nat.le_refl _) _).al _
end Go.Proofs.Ytfppddnfdinipaa
end
section
namespace Go.Proofs.Ytfppddnfdinipaa
open Go Go.RowKit
set_option maxRecDepth 100000
theorem mark_cell {w : World} {B h D k : Nat} {l : List Nat} (ho : w.ownsRow B 4 1 (.slice (some ⟨h, 0, none⟩) D D) D (marksC D l)) (hk : k < D) : w.cell? ⟨h, k, none⟩ = some (.bool (l.contains k)) := by
  have hmc := marksC_at l hk
  have := own_range ho k 1 [.bool (l.contains k)] (by
    obtain ⟨hi, he⟩ := List.getElem?_eq_some_iff.1 hmc
    rw [List.drop_eq_getElem_cons hi, he]
    rfl)
  exact this 0 _ rfl
theorem rapart_any (l a d : Int) (v : Value) (rs : List Run) (hlen : rs.length ≤ 1000000) (w : World) (hrs : RunsM w w.heap.size v rs) :
    Calls Try.prog 77 #[.agg #[.int .i64 l, .int .i64 a, .int .i64 d], v] w fun e w' => e = .returned (.bool (decide (apartP l a d rs))) ∧ Below w.heap.size w w' := by
  have hal := hrs.below ((Below.refl _ w).alloc (Nat.le_refl _) (.cells #[.int .i64 l, .int .i64 a, .int .i64 d] 64))
  clear hrs
  go_enter Try.func77, Try.ntmps77
  go_wp2_with fail
  refine (marks_any l a d v rs hlen _ hal).mono ?_
  rintro e w1 ⟨hb, h⟩
  have HB : Hid (Below w.heap.size w w1) := hide (((Below.refl _ w).alloc (Nat.le_refl _) _).next hb)
  clear hb hal
  rcases h with ⟨hap, h, rfl, _⟩ | ⟨hap, rfl⟩
  · dsimp only
    go_wp2_with fail
    go_ret
    rw [decide_eq_true hap]
    exact ⟨rfl, HB.out⟩
  · dsimp only
    go_wp2_with fail
    go_ret
    rw [decide_eq_false hap]
    exact ⟨rfl, HB.out⟩
set_option maxHeartbeats 1000000 in
theorem rfree_any (l a d : Int) (v : Value) (rs : List Run) (hlen : rs.length ≤ 1000000) (w : World) (hrs : RunsM w w.heap.size v rs) :
    Calls Try.prog 75 #[.agg #[.int .i64 l, .int .i64 a, .int .i64 d], v] w fun e w' => e = .returned (.tuple #[.int .i64 (freeN l a d rs), .int .i64 (freeE l a d rs)]) ∧ Below w.heap.size w w' := by
  have hal := hrs.below ((Below.refl _ w).alloc (Nat.le_refl _) (.cells #[.int .i64 l, .int .i64 a, .int .i64 d] 64))
  clear hrs
  go_enter Try.func75, Try.ntmps75
  go_wp2_with fail
  refine (marks_any l a d v rs hlen _ hal).mono ?_
  rintro e w1 ⟨hb, h⟩
  have HB : Hid (Below w.heap.size w w1) := hide (((Below.refl _ w).alloc (Nat.le_refl _) _).next hb)
  clear hb hal
  rcases h with ⟨hap, h, rfl, ho⟩ | ⟨hap, rfl⟩
  · have hN : freeN l a d rs = ((freeTo rs d.toNat).length : Int) := if_pos hap
    have hE : freeE l a d rs = 0 := if_pos hap
    have hD : d.toNat ≤ 8192 := by have := apart_d hap; omega
    generalize d.toNat = D at ho hN hD ⊢
    have HN := hide (And.intro hN hE)
    have HO := hide ho
    clear hN hE ho
    dsimp only
    go_wp2_with fail
    go_loopw [8, 9] (fun N i wr => ∃ k : Nat, k ≤ D ∧ i = .int .i64 (k : Int) ∧ N = .int .i64 ((freeTo rs k).length : Int) ∧ wr = w1) (fun _ i _ => D - (intOf i).toNat)
    case atStart => exact ⟨0, by omega, rfl, rfl, rfl⟩
    case round =>
      obtain ⟨k, hk, rfl, rfl, rfl⟩ := hrel
      have hfl := freeTo_len rs k
      have f1 : (0 : Int) ≤ ((freeTo rs k).length : Int) := by omega
      have f2 : ((freeTo rs k).length : Int) ≤ 8192 := by omega
      by_cases hk2 : k < D
      · have n1 : (k : Int) < (D : Int) := by omega
        have n2 : (0 : Int) ≤ (k : Int) := by omega
        have n3 : (D : Int) ≤ 8192 := by omega
        have hc := mark_cell HO.out hk2
        have hs := freeTo_succ rs k
        cases hcon : (pos rs).contains k with
        | true =>
          rw [hcon] at hc hs
          rw [if_pos rfl, List.append_nil] at hs
          go_wp2_with fail
          exact ⟨⟨k + 1, by omega, by go_num, by rw [hs], trivial⟩, by simp [intOf]; omega⟩
        | false =>
          rw [hcon] at hc hs
          rw [if_neg (by simp)] at hs
          have hs2 : (freeTo rs (k + 1)).length = (freeTo rs k).length + 1 := by rw [hs, List.length_append]; rfl
          go_wp2_with fail
          exact ⟨⟨k + 1, by omega, by go_num, by rw [hs2]; go_num, trivial⟩, by simp [intOf]; omega⟩
      · obtain rfl : k = D := by omega
        go_wp2_with fail
        refine bodyPost_ret (v := .tuple #[.int .i64 ((freeTo rs k).length : Int), .int .i64 0]) (by simp [results, Try.f75, go_sem]) rfl ?_
        rw [HN.out.1, HN.out.2]
        exact ⟨rfl, HB.out⟩
  · have hN : freeN l a d rs = 0 := if_neg hap
    have hE : freeE l a d rs = 2 := if_neg hap
    dsimp only
    go_wp2_with fail
    refine bodyPost_ret (v := .tuple #[.int .i64 0, .int .i64 2]) (by simp [results, Try.f75, go_sem]) rfl ?_
    rw [hN, hE]
    exact ⟨rfl, HB.out⟩
/-- what Find is in the loop -/
structure RFindAt (w0 w : World) (B h D : Nat) (rs : List Run) (n : Nat) (k : Nat) (M O : Value) : Prop where
  kd : k ≤ D
  len : (freeTo rs k).length ≤ n
  many : M = .int .i64 ((n : Int) - ((freeTo rs k).length : Int))
  own : OwnRuns B w O (grps (freeTo rs k))
  marks : w.ownsRow w0.heap.size 4 1 (.slice (some ⟨h, 0, none⟩) D D) D (marksC D (pos rs))
  sz : B ≤ w.heap.size
  lt : h < B
  below : Below w0.heap.size w0 w
  w0 : w0.heap.size ≤ B
theorem RFindAt.drewN {w0 w : World} {B h D n k : Nat} {rs : List Run} {M O : Value} (q : RFindAt w0 w B h D rs n k M O) (i : Nat) : RFindAt w0 (w.drewN i) B h D rs n k M O :=
  ⟨q.kd, q.len, q.many, q.own.below (below_drewN (Below.refl _ _) i), q.marks, q.sz, q.lt, below_drewN q.below i, q.w0⟩
theorem RFindAt.next {w0 w W : World} {B h D n k : Nat} {rs : List Run} {M O O' : Value} (q : RFindAt w0 w B h D rs n k M O) (hk : k < D) (hn : (freeTo rs k).length ≠ n) (hs : freeTo rs (k + 1) = freeTo rs k ++ [k])
    (own : OwnRuns B W O' (grp (grps (freeTo rs k)) k)) (hh : W.heap[h]? = w.heap[h]?) (sz : B ≤ W.heap.size) (below : Below w0.heap.size w0 W) : RFindAt w0 W B h D rs n (k + 1) (.int .i64 ((n : Int) - ((freeTo rs k).length : Int) - 1)) O' := by
  have hl : (freeTo rs (k + 1)).length = (freeTo rs k).length + 1 := by rw [hs, List.length_append]; rfl
  have hgr : grps (freeTo rs (k + 1)) = grp (grps (freeTo rs k)) k := by rw [hs, grps_app]
  have := q.len
  refine ⟨by omega, by omega, by rw [hl]; congr 1; omega, by rw [hgr]; exact own, owned_keepN q.marks fun g hg _ => ?_, sz, q.lt, below, q.w0⟩
  have hg : some h = some g := hg
  injection hg with hg
  subst hg
  exact hh
theorem RFindAt.push {w0 W : World} {B h D n k : Nat} {rs : List Run} {M O : Value} (q : RFindAt w0 W B h D rs n k M O) (hk : k < D) (hD : D ≤ 8192) (hn : (freeTo rs k).length ≠ n) (hs : freeTo rs (k + 1) = freeTo rs k ++ [k])
    (hgrp : grp (grps (freeTo rs k)) k = grps (freeTo rs k) ++ [((k : Int), 1)]) :
    ∃ v' w', (Builtin.append_ #[73, 73] 73 #[O, .slice (some ⟨W.heap.size, 0, none⟩) 1 1]).run Try.prog (W.alloc (.cells #[.int .i64 (k : Int), .int .i64 1] 88)) = .ok v' w' ∧ RFindAt w0 w' B h D rs n (k + 1) (.int .i64 ((n : Int) - ((freeTo rs k).length : Int) - 1)) v' := by
  have hgl := (gok rs k).len
  have hcells : ∀ j r, [((k : Int), (1 : Int))][j]? = some r → (W.alloc (.cells #[.int .i64 (k : Int), .int .i64 1] 88)).cell? ⟨W.heap.size, 0 + j * 2, none⟩ = some (.int .i64 r.1) ∧ (W.alloc (.cells #[.int .i64 (k : Int), .int .i64 1] 88)).cell? ⟨W.heap.size, 0 + j * 2 + 1, none⟩ = some (.int .i64 r.2) := by
    intro j r hj
    have hb := Blk.new W 88 #[.int .i64 (k : Int), .int .i64 1]
    cases j with
    | zero =>
      injection hj with hj
      subst hj
      exact ⟨hb.cell 0, hb.cell 1⟩
    | succ j => simp at hj
  obtain ⟨v', w', happ, hown', hgr', hbe'⟩ := q.own.app (news := [((k : Int), 1)]) q.sz ((Below.refl _ _).alloc (Nat.le_refl _) (.cells #[.int .i64 (k : Int), .int .i64 1] 88)) (by simp) (by simp; omega) W.heap.size 0 hcells (by
    intro r hr'
    obtain rfl := List.mem_singleton.1 hr'
    show (_ ∧ _) ∧ (_ ∧ _)
    omega) 1
  refine ⟨v', w', happ, q.next hk hn hs ?_ (hbe'.block h q.lt) (Nat.le_trans q.sz hbe'.size) (q.below.trans (hbe'.mono q.w0))⟩
  rw [hgrp]
  exact hown'
set_option maxHeartbeats 4000000 in
theorem rfind_ok (l a d : Int) (v : Value) (rs : List Run) (hlen : rs.length ≤ 1000000) (hap : apartP l a d rs) (n : Nat) (hn : n ≤ (freeTo rs d.toNat).length) (w : World) (hrs : RunsM w w.heap.size v rs) :
    Calls Try.prog 74 #[.agg #[.int .i64 l, .int .i64 a, .int .i64 d], .int .i64 (n : Int), v] w fun e w' => ∃ o, e = .returned (.tuple #[o, .int .i64 0]) ∧ OwnRuns w.heap.size w' o (findP rs d.toNat n) ∧ Below w.heap.size w w' := by
  have hb0 : Below w.heap.size w (w.alloc (.cells #[.int .i64 l, .int .i64 a, .int .i64 d] 64)) := (Below.refl _ w).alloc (Nat.le_refl _) _
  have hal := hrs.below hb0
  have hN : freeN l a d rs = ((freeTo rs d.toNat).length : Int) := if_pos hap
  have hE : freeE l a d rs = 0 := if_pos hap
  have hD : d.toNat ≤ 8192 := by have := apart_d hap; omega
  have hfl := freeTo_len rs d.toNat
  have HRS := hide (And.intro hrs hal)
  clear hrs hal hb0
  go_enter Try.func74, Try.ntmps74
  go_wp2_with fail
  refine (marks_any l a d v rs hlen _ HRS.out.2).mono ?_
  rintro e w1 ⟨hb, h⟩
  have HB : Hid (Below w.heap.size w w1) := hide (((Below.refl _ w).alloc (Nat.le_refl _) _).next hb)
  have hsh : Blk w1 w.heap.size 64 #[.int .i64 l, .int .i64 a, .int .i64 d] := (Blk.new w _ _).below hb (by rw [size_alloc]; omega)
  have c0 := hsh.cell 0
  have c1 := hsh.cell 1
  have c2 := hsh.cell 2
  have hlt := hsh.lt
  clear hb hsh
  rcases h with ⟨_, h, rfl, ho⟩ | ⟨hno, rfl⟩
  · have HO : Hid (w1.ownsRow w.heap.size 4 1 (.slice (some ⟨h, 0, none⟩) d.toNat d.toNat) d.toNat (marksC d.toNat (pos rs))) := hide (owned_baseN ho fun g hg => by have := (owned_ltN ho hg).1; rw [size_alloc] at this; omega)
    have n1 : (0 : Int) ≤ (n : Int) := by omega
    clear ho
    dsimp only
    go_wp2_with fail
    refine (rfree_any l a d v rs hlen _ (HRS.out.1.below HB.out)).mono ?_
    rintro e w2 ⟨rfl, hb2⟩
    rw [hN, hE]
    have n2 : ¬ ((freeTo rs d.toNat).length : Int) < (n : Int) := by omega
    have hA : RFindAt w w2 w2.heap.size h d.toNat rs n 0 (.int .i64 (n : Int)) (.slice none 0 0) := by
      have ho2 := owned_keepN HO.out (w' := w2) fun g _ hl => hb2.block g hl
      refine ⟨by omega, by simp [freeTo_zero], by simp [freeTo_zero], ownRuns_nil _ _, ho2, Nat.le_refl _, (owned_ltN ho2 (g := h) rfl).2, HB.out.next hb2, (HB.out.next hb2).size⟩
    clear hb2
    generalize hDD : d.toNat = D at hA hD hfl hn n2 hN HO ⊢
    have HDD := hide hDD
    clear hDD
    have HA := hide (And.intro hA hn)
    clear hA hn HO hN
    dsimp only
    go_wp2_with fail
    generalize w2.heap.size = B at HA
    go_loopw [1, 12, 13] (fun M O i wr => ∃ k : Nat, i = .int .i64 (k : Int) ∧ RFindAt w wr B h D rs n k M O) (fun _ _ i _ => D - (intOf i).toNat)
    case atStart => exact ⟨0, rfl, HA.out.1⟩
    case round =>
      obtain ⟨k, rfl, hat⟩ := hrel
      have hG := gok rs k
      have HG := hide hG
      have hM := hat.many
      subst hM
      have hkd := hat.kd
      have hlen2 := hat.len
      have hfk := freeTo_len rs k
      have HR := hide hat
      have q4 : (0 : Int) ≤ (k : Int) := by omega
      have q5 : (D : Int) ≤ 8192 := by omega
      clear hat hG
      by_cases hfull : (freeTo rs k).length = n
      · have e0 : (n : Int) - ((freeTo rs k).length : Int) = 0 := by omega
        rw [e0]
        by_cases hkD : k < D
        · have q3 : (k : Int) < (D : Int) := by omega
          go_wp2_with fail
          refine bodyPost_ret (v := .tuple #[u12, .int .i64 0]) (by simp [results, Try.f74, go_sem]) rfl ⟨u12, rfl, ?_, HR.out.below⟩
          rw [HDD.out, findP_at HR.out.kd hfull]
          exact ⟨owned_baseN HR.out.own.1 fun h hh => by have := (owned_ltN HR.out.own.1 hh).1; have := HR.out.w0; omega, HR.out.own.2⟩
        · have q3 : ¬ (k : Int) < (D : Int) := by omega
          go_wp2_with fail
          refine bodyPost_ret (v := .tuple #[u12, .int .i64 0]) (by simp [results, Try.f74, go_sem]) rfl ⟨u12, rfl, ?_, HR.out.below⟩
          rw [HDD.out, findP_at HR.out.kd hfull]
          exact ⟨owned_baseN HR.out.own.1 fun h hh => by have := (owned_ltN HR.out.own.1 hh).1; have := HR.out.w0; omega, HR.out.own.2⟩
      · have hkD : k < D := by
          rcases Nat.lt_or_ge k D with h | h
          · exact h
          · obtain rfl : k = D := by omega
            have := HA.out.2
            omega
        have q1 : (0 : Int) < (n : Int) - ((freeTo rs k).length : Int) := by omega
        have q2 : (n : Int) - ((freeTo rs k).length : Int) ≤ 8192 := by have := HA.out.2; omega
        have q3 : (k : Int) < (D : Int) := by omega
        generalize hrem : (n : Int) - ((freeTo rs k).length : Int) = rem at q1 q2 ⊢
        have HREM := hide hrem
        clear hrem
        have hc := mark_cell HR.out.marks hkD
        have hsucc := freeTo_succ rs k
        cases hcon : (pos rs).contains k with
        | true =>
          rw [hcon] at hc
          rw [hcon, if_pos rfl, List.append_nil] at hsucc
          go_wp2_with fail
          have hr := HR.out
          refine ⟨⟨k + 1, by go_num, by omega, by rw [hsucc]; exact hr.len, by rw [hsucc, HREM.out], by rw [hsucc]; exact hr.own, hr.marks, hr.sz, hr.lt, hr.below, hr.w0⟩, by simp [intOf]; omega⟩
        | false =>
          rw [hcon] at hc
          rw [hcon, if_neg (by simp)] at hsucc
          have hstep := grps_app (freeTo rs k) k
          rw [← hsucc] at hstep
          rcases List.eq_nil_or_concat (grps (freeTo rs k)) with hnil | ⟨ini, r, hini⟩
          · have hgrp : grp (grps (freeTo rs k)) k = grps (freeTo rs k) ++ [((k : Int), 1)] := by rw [hnil]; rfl
            have hown := HR.out.own
            rw [hnil] at hown
            obtain ⟨A', cp', rfl, _⟩ := hown.m
            have HG2 := hide (And.intro hgrp (And.intro hsucc hstep))
            clear hgrp hsucc hstep hown
            simp only [List.length_nil] at HR ⊢
            go_wp2_with fail
            go_quiet (fail)
            obtain ⟨v', w', happ, hat'⟩ := (HR.out.drewN nq).push hkD hD hfull HG2.out.2.1 HG2.out.1
            rw [HREM.out] at hat'
            have HAP := hide (And.intro happ hat')
            clear happ hat'
            go_wp2_with (at_builtin; refine wpList_value (o := ⟨some 87, _, _, _, _, _⟩) rfl v' w' (exec_append (o := ⟨some 87, _, _, _, _, _⟩) (.tmp 83) (.tmp 86) 73 rfl (.slice A' 0 cp') (.slice (some ⟨wr.heap.size, 0, none⟩) 1 1) _ _ _ rfl rfl HAP.out.1) ?_)
            exact ⟨⟨k + 1, by go_num, HAP.out.2⟩, by simp [intOf]; omega⟩
          · rw [List.concat_eq_append] at hini
            have hown := HR.out.own
            rw [hini] at hown
            obtain ⟨l1, l2, l3⟩ := HG.out.each r (by rw [hini]; simp)
            obtain ⟨hh, cap, rfl⟩ := owned_placeN hown.1 (by simp)
            have hth := own_there hown.1 (ini.length * 2 + 1) 1 (by simp; omega)
            have hhl := owned_ltN hown.1 (g := hh) rfl
            have hrng := own_range hown.1 (ini.length * 2) 2 [.int .i64 r.1, .int .i64 r.2] (by rw [runCells_app, List.drop_left' (runCells_len _)]; rfl)
            have d0 := hrng 0 _ rfl
            have d1 := hrng 1 _ rfl
            have z4 := (hth 0 (by omega)).2
            have hll : (ini ++ [r]).length = ini.length + 1 := by simp
            have hgl := HG.out.len
            rw [hini, hll] at hgl
            rw [Nat.add_zero] at d0 z4
            have i1 : (0 : Int) ≤ (ini.length : Int) := by omega
            have i2 : (ini.length : Int) ≤ 8192 := by omega
            have i3 : r.2 ≤ 8192 := by omega
            have i4 : r.1 ≤ 8192 := by omega
            have HOWN := hide hown
            clear hown hth hrng
            by_cases pp : r.1 + r.2 = (k : Int)
            · have hgrp : grp (grps (freeTo rs k)) k = ini ++ [(r.1, r.2 + 1)] := by
                rw [hini, grp, lastR_app, if_pos ⟨by omega, pp⟩, List.dropLast_concat]
              have HG2 := hide (And.intro hgrp (And.intro hsucc (And.intro hstep hini)))
              clear hgrp hsucc hstep hini
              simp only [hll] at HR ⊢
              go_wp2_with fail
              go_quiet (fail)
              go_wp2_with fail
              have hr := HR.out.drewN nq
              obtain ⟨hgrp, hsucc, hstep, hini⟩ := HG2.out
              have hown := HOWN.out
              have hown1 : (wr.drewN nq).ownsRow B 88 2 (.slice (some ⟨hh, 0, none⟩) (ini.length + 1) cap) (ini.length + 1) (runCells (ini ++ [r])) := by
                have := hown.1
                rw [hll] at this
                exact this
              have ho2 := own_setCells hown1 (ini.length * 2 + 1) [.int .i64 (r.2 + 1)] (by simp; omega)
              have e1 : (runCells (ini ++ [r])).take (ini.length * 2 + 1) = runCells ini ++ [.int .i64 r.1] := by
                rw [runCells_app, List.take_append, runCells_len, List.take_of_length_le (by rw [runCells_len]; omega), show ini.length * 2 + 1 - ini.length * 2 = 1 by omega]
                rfl
              have e2 : (runCells (ini ++ [r])).drop (ini.length * 2 + 1 + [Value.int .i64 (r.2 + 1)].length) = [] :=
                List.drop_eq_nil_of_le (by rw [runCells_len, hll]; simp; omega)
              rw [e1, e2] at ho2
              refine ⟨⟨k + 1, by go_num, ?_⟩, by simp [intOf]; omega⟩
              rw [← HREM.out]
              have hlt := hr.lt
              refine hr.next hkD hfull hsucc ?_ (Below.heap_setCell _ _ _ _ (by show h ≠ hh; omega)) (by simpa using hr.sz) (hr.below.setCell (by show w.heap.size ≤ hh; have := hr.w0; omega) _)
              rw [hgrp]
              refine ⟨?_, ?_⟩
              · rw [runCells_app, List.length_append]
                have e3 : runCells ini ++ [Value.int .i64 r.1] ++ ([.int .i64 (r.2 + 1)] ++ []) = runCells ini ++ runCells [(r.1, r.2 + 1)] := by
                  rw [List.append_assoc]
                  rfl
                rw [← e3]
                exact ho2
              · intro q hq
                rcases List.mem_append.1 hq with hq | hq
                · exact hown.2 q (by simp [hq])
                · obtain rfl := List.mem_singleton.1 hq
                  show (_ ∧ _) ∧ (_ ∧ _)
                  omega
            · have hgrp : grp (grps (freeTo rs k)) k = grps (freeTo rs k) ++ [((k : Int), 1)] := by
                rw [hini, grp, lastR_app, if_neg (fun h => pp h.2)]
              have HG2 := hide (And.intro hgrp (And.intro hsucc (And.intro hstep hini)))
              clear hgrp hsucc hstep hini
              simp only [hll] at HR ⊢
              go_wp2_with fail
              go_quiet (fail)
              obtain ⟨v', w', happ, hat'⟩ := (HR.out.drewN nq).push hkD hD hfull HG2.out.2.1 HG2.out.1
              rw [HREM.out] at hat'
              have HAP := hide (And.intro happ hat')
              clear happ hat'
              go_wp2_with (at_builtin; refine wpList_value (o := ⟨some 87, _, _, _, _, _⟩) rfl v' w' (exec_append (o := ⟨some 87, _, _, _, _, _⟩) (.tmp 83) (.tmp 86) 73 rfl (.slice (some ⟨hh, 0, none⟩) (ini.length + 1) cap) (.slice (some ⟨wr.heap.size, 0, none⟩) 1 1) _ _ _ rfl rfl HAP.out.1) ?_)
              exact ⟨⟨k + 1, by go_num, HAP.out.2⟩, by simp [intOf]; omega⟩
  · exact absurd hap hno
theorem rfind_any (l a d : Int) (v : Value) (rs : List Run) (hlen : rs.length ≤ 1000000) (n : Int) (w : World) (hrs : RunsM w w.heap.size v rs) :
    Calls Try.prog 74 #[.agg #[.int .i64 l, .int .i64 a, .int .i64 d], .int .i64 n, v] w fun e w' => ∃ o, e = .returned (.tuple #[o, .int .i64 (findE l a d rs n)]) ∧ OwnRuns w.heap.size w' o (findR l a d rs n) ∧ Below w.heap.size w w' := by
  have hb0 : Below w.heap.size w (w.alloc (.cells #[.int .i64 l, .int .i64 a, .int .i64 d] 64)) := (Below.refl _ w).alloc (Nat.le_refl _) _
  have hal := hrs.below hb0
  by_cases hap : apartP l a d rs
  · by_cases hn : 0 ≤ n
    · by_cases hf : ((freeTo rs d.toNat).length : Int) < n
      · have hE : findE l a d rs n = 7 := by rw [findE, if_pos ⟨hap, hn⟩, if_pos hf]
        have hR : findR l a d rs n = [] := by rw [findR, hE]; rfl
        rw [hE, hR]
        have hN : freeN l a d rs = ((freeTo rs d.toNat).length : Int) := if_pos hap
        have hE2 : freeE l a d rs = 0 := if_pos hap
        have HRS := hide (And.intro hrs hal)
        clear hrs hal hb0 hE hR
        go_enter Try.func74, Try.ntmps74
        go_wp2_with fail
        refine (marks_any l a d v rs hlen _ HRS.out.2).mono ?_
        rintro e w1 ⟨hb, h⟩
        have HB : Hid (Below w.heap.size w w1) := hide (((Below.refl _ w).alloc (Nat.le_refl _) _).next hb)
        have hsh : Blk w1 w.heap.size 64 #[.int .i64 l, .int .i64 a, .int .i64 d] := (Blk.new w _ _).below hb (by rw [size_alloc]; omega)
        have c0 := hsh.cell 0
        have c1 := hsh.cell 1
        have c2 := hsh.cell 2
        have hlt := hsh.lt
        clear hb hsh
        rcases h with ⟨_, h, rfl, ho⟩ | ⟨hno, rfl⟩
        · clear ho
          generalize d.toNat = D at hN hf ⊢
          dsimp only
          go_wp2_with fail
          refine (rfree_any l a d v rs hlen _ (HRS.out.1.below HB.out)).mono ?_
          rintro e w2 ⟨rfl, hb2⟩
          rw [hN, hE2]
          have HB2 := hide (HB.out.next hb2)
          clear hb2
          dsimp only
          go_wp2_with fail
          refine bodyPost_ret (v := .tuple #[.slice none 0 0, .int .i64 7]) (by simp [results, Try.f74, go_sem]) rfl ⟨_, rfl, ownRuns_nil _ _, HB2.out⟩
        · exact absurd hap hno
      · have hE : findE l a d rs n = 0 := by rw [findE, if_pos ⟨hap, hn⟩, if_neg hf]
        have hR : findR l a d rs n = findP rs d.toNat n.toNat := by rw [findR, hE]; rfl
        rw [hE, hR]
        have h := rfind_ok l a d v rs hlen hap n.toNat (by omega) w hrs
        rwa [Int.toNat_of_nonneg hn] at h
    · have hE : findE l a d rs n = 2 := by rw [findE, if_neg (fun h => hn h.2)]
      have hR : findR l a d rs n = [] := by rw [findR, hE]; rfl
      rw [hE, hR]
      have HRS := hide hal
      clear hrs hal hb0 hE hR
      go_enter Try.func74, Try.ntmps74
      go_wp2_with fail
      refine (marks_any l a d v rs hlen _ HRS.out).mono ?_
      rintro e w1 ⟨hb, h⟩
      have HB : Hid (Below w.heap.size w w1) := hide (((Below.refl _ w).alloc (Nat.le_refl _) _).next hb)
      clear hb
      rcases h with ⟨_, h, rfl, ho⟩ | ⟨hno, rfl⟩
      · clear ho hap
        generalize d.toNat = D
        dsimp only
        go_wp2_with fail
        refine bodyPost_ret (v := .tuple #[.slice none 0 0, .int .i64 2]) (by simp [results, Try.f74, go_sem]) rfl ⟨_, rfl, ownRuns_nil _ _, HB.out⟩
      · exact absurd hap hno
  · have hE : findE l a d rs n = 2 := by rw [findE, if_neg (fun h => hap h.1)]
    have hR : findR l a d rs n = [] := by rw [findR, hE]; rfl
    rw [hE, hR]
    have HRS := hide hal
    clear hrs hal hb0 hE hR
    go_enter Try.func74, Try.ntmps74
    go_wp2_with fail
    refine (marks_any l a d v rs hlen _ HRS.out).mono ?_
    rintro e w1 ⟨hb, h⟩
    have HB : Hid (Below w.heap.size w w1) := hide (((Below.refl _ w).alloc (Nat.le_refl _) _).next hb)
    clear hb
    rcases h with ⟨h1, _⟩ | ⟨hno, rfl⟩
    · exact absurd h1 hap
    · dsimp only
      go_wp2_with fail
      refine bodyPost_ret (v := .tuple #[.slice none 0 0, .int .i64 2]) (by simp [results, Try.f74, go_sem]) rfl ⟨_, rfl, ownRuns_nil _ _, HB.out⟩
end Go.Proofs.Ytfppddnfdinipaa
end
section
namespace Go.Proofs.Ytfppddnfdinipaa
open Go Go.RowKit
set_option maxRecDepth 100000
theorem run_neq_same (a b : Int) (w : World) : (binOp .neq 88 (.agg #[.int .i64 a, .int .i64 b]) (.agg #[.int .i64 a, .int .i64 b])).run Try.prog w = .ok (.bool false) w := by
  have hu := Try.underlying88
  have h1 := Try.underlying3
  go_simp
theorem RunsM.range {w : World} {B : Nat} {v : Value} {l : List Run} (h : RunsM w B v l) {k : Nat} {r : Run} (hr : l[k]? = some r) : ∃ b off cap, v = .slice (some ⟨b, off, none⟩) l.length cap ∧ w.rangeAt b (off + k * 2) [.int .i64 r.1, .int .i64 r.2] := by
  obtain ⟨A, cap, rfl, _, _, hA, _⟩ := h
  have hk := (List.getElem?_eq_some_iff.1 hr).1
  obtain ⟨b, off, rfl, _, hc⟩ := hA (by omega)
  refine ⟨b, off, cap, rfl, fun j u hu => ?_⟩
  match j, hu with
  | 0, hu => injection hu with hu; subst hu; exact (hc k r hr).1
  | 1, hu => injection hu with hu; subst hu; exact (hc k r hr).2
set_option maxHeartbeats 1000000 in
theorem sameRuns_any (v1 v2 : Value) (rs : List Run) (hlen : rs.length ≤ 1000000) (w : World) (h1 : RunsM w w.heap.size v1 rs) (h2 : RunsM w w.heap.size v2 rs) :
    Calls Try.prog 59 #[v1, v2] w fun e w' => e = .returned (.bool true) ∧ Below w.heap.size w w' := by
  obtain ⟨A1, c1, rfl, h1'⟩ := id h1
  obtain ⟨A2, c2, rfl, h2'⟩ := id h2
  have H := hide (And.intro h1 h2)
  clear h1 h2 h1' h2'
  go_enter Try.func59, Try.ntmps59
  go_wp2_with fail
  go_loopw [5] (fun i wr => ∃ k : Nat, k ≤ rs.length ∧ i = .int .i64 (k : Int) ∧ Below w.heap.size w wr) (fun i _ => rs.length - (intOf i).toNat)
  case atStart => exact ⟨0, by omega, rfl, Below.refl _ _⟩
  case round =>
    obtain ⟨k, hk, rfl, hb⟩ := hrel
    have HB := hide hb
    clear hb
    have n2 : (0 : Int) ≤ (k : Int) := by omega
    by_cases hk2 : k < rs.length
    · have n1 : (k : Int) < (rs.length : Int) := by omega
      obtain ⟨r, hr⟩ : ∃ r, rs[k]? = some r := ⟨_, List.getElem?_eq_getElem hk2⟩
      obtain ⟨b1, o1, cc1, e1, q1⟩ := (H.out.1.below HB.out).range hr
      obtain ⟨b2, o2, cc2, e2, q2⟩ := (H.out.2.below HB.out).range hr
      injection e1 with e1 _ e1'
      injection e2 with e2 _ e2'
      subst e1 e2 e1' e2'
      have HQ := hide (And.intro q1 q2)
      have hneq := run_neq_same r.1 r.2
      clear q1 q2 hr
      go_wp2_with fail
      refine wp_made 8 [] (by kernel_rfl) (by kernel_rfl) (by intro p hp; cases hp) List.nodup_nil (by intro t ht; cases ht) ?_
      simp only [List.take_succ_cons, List.take_zero, List.drop_succ_cons, List.drop_zero]
      refine made_val (.slice (some ⟨b1, o1, none⟩) rs.length c1) (by kernel_rfl) (by kernel_rfl) (by kernel_rfl) (fun _ _ => by kernel_rfl) ?_
      simp only [Act.put, List.setIfInBounds_toArray, List.set_cons_zero, List.set_cons_succ]
      refine made_val (.int .i64 (k : Int)) (by kernel_rfl) (by kernel_rfl) (by kernel_rfl) (fun _ _ => by kernel_rfl) ?_
      simp only [Act.put, List.setIfInBounds_toArray, List.set_cons_zero, List.set_cons_succ]
      refine made_val (.pointer (some ⟨b1, o1 + (k : Int).toNat * 2, none⟩)) (by kernel_rfl) (by kernel_rfl) (by kernel_rfl) (fun W _ => exec_index_off (o := ⟨some 19, _, _, _, _, _⟩) 73 88 (.tmp 17) (.tmp 18) rfl b1 o1 rs.length c1 (k : Int) .i64 rfl rfl ⟨n2, n1⟩ 2 Try.underlying73 sz_run W) ?_
      simp only [Act.put, List.setIfInBounds_toArray, List.set_cons_zero, List.set_cons_succ]
      rw [show (k : Int).toNat = k from Int.toNat_natCast k]
      refine made_val (.agg #[.int .i64 r.1, .int .i64 r.2]) (by kernel_rfl) (by kernel_rfl) (by kernel_rfl) (fun W hW => exec_load_mid (o := ⟨some 20, _, _, _, _, _⟩) 88 (.tmp 19) rfl b1 (o1 + k * 2) rfl [.int .i64 r.1, .int .i64 r.2] _ W (fun j u hu => (hW.cell (p := ⟨b1, o1 + k * 2 + j, none⟩) (World.block_lt_of_cell? wr _ (HQ.out.1 j u hu))).trans (HQ.out.1 j u hu)) Try.underlying88 rfl sz_run) ?_
      simp only [Act.put, List.setIfInBounds_toArray, List.set_cons_zero, List.set_cons_succ]
      refine made_val (.slice (some ⟨b2, o2, none⟩) rs.length c2) (by kernel_rfl) (by kernel_rfl) (by kernel_rfl) (fun _ _ => by kernel_rfl) ?_
      simp only [Act.put, List.setIfInBounds_toArray, List.set_cons_zero, List.set_cons_succ]
      refine made_val (.int .i64 (k : Int)) (by kernel_rfl) (by kernel_rfl) (by kernel_rfl) (fun _ _ => by kernel_rfl) ?_
      simp only [Act.put, List.setIfInBounds_toArray, List.set_cons_zero, List.set_cons_succ]
      refine made_val (.pointer (some ⟨b2, o2 + (k : Int).toNat * 2, none⟩)) (by kernel_rfl) (by kernel_rfl) (by kernel_rfl) (fun W _ => exec_index_off (o := ⟨some 23, _, _, _, _, _⟩) 73 88 (.tmp 21) (.tmp 22) rfl b2 o2 rs.length c2 (k : Int) .i64 rfl rfl ⟨n2, n1⟩ 2 Try.underlying73 sz_run W) ?_
      simp only [Act.put, List.setIfInBounds_toArray, List.set_cons_zero, List.set_cons_succ]
      rw [show (k : Int).toNat = k from Int.toNat_natCast k]
      refine made_val (.agg #[.int .i64 r.1, .int .i64 r.2]) (by kernel_rfl) (by kernel_rfl) (by kernel_rfl) (fun W hW => exec_load_mid (o := ⟨some 24, _, _, _, _, _⟩) 88 (.tmp 23) rfl b2 (o2 + k * 2) rfl [.int .i64 r.1, .int .i64 r.2] _ W (fun j u hu => (hW.cell (p := ⟨b2, o2 + k * 2 + j, none⟩) (World.block_lt_of_cell? wr _ (HQ.out.2 j u hu))).trans (HQ.out.2 j u hu)) Try.underlying88 rfl sz_run) ?_
      simp only [Act.put, List.setIfInBounds_toArray, List.set_cons_zero, List.set_cons_succ]
      show ∀ w', _ → _
      intro w4 hb4
      simp only [ended]
      have H4 := hide (HB.out.next hb4)
      clear hb4
      go_wp2_with fail
      exact ⟨⟨k + 1, by omega, by go_num, H4.out⟩, by simp [intOf]; omega⟩
    · have n1 : ¬ (k : Int) < (rs.length : Int) := by omega
      go_wp2_with fail
      go_ret
      exact ⟨rfl, HB.out⟩
theorem find_awake : findE 1 1 5 [(1, 2)] 3 = 0 ∧ findR 1 1 5 [(1, 2)] 3 = [(0, 1), (3, 2)] ∧ needP 65 = 2 := by decide +kernel
set_option maxHeartbeats 1000000 in
theorem awake7_any (w : World) : Calls Try.prog 28 #[] w fun e w' => e = .returned (.bool true) ∧ Below w.heap.size w w' := by
  obtain ⟨f1, f2, f3⟩ := find_awake
  have hrw : RunsM ((w.alloc (.cells #[.int .i64 1, .int .i64 1, .int .i64 5] 64)).alloc (.cells #[.int .i64 1, .int .i64 2] 88)) (w.heap.size + 1 + 1) (.slice (some ⟨w.heap.size + 1, 0, none⟩) 1 1) [(1, 2)] := by
    have := runs_new (w.alloc (.cells #[.int .i64 1, .int .i64 1, .int .i64 5] 64)) [(1, 2)] (by intro r hr; obtain rfl := List.mem_singleton.1 hr; show (_ ∧ _) ∧ (_ ∧ _); omega)
    rw [size_alloc] at this
    exact this
  have HRW := hide hrw
  have hb0 : Below w.heap.size w ((w.alloc (.cells #[.int .i64 1, .int .i64 1, .int .i64 5] 64)).alloc (.cells #[.int .i64 1, .int .i64 2] 88)) := ((Below.refl _ w).alloc (Nat.le_refl _) _).al _
  have HB0 := hide hb0
  clear hrw hb0
  go_enter Try.func28, Try.ntmps28
  go_wp2_with fail
  refine (lfind_any 1 1 5 (fun _ => by omega) _ [(1, 2)] (by simp) 3 _ (by simpa using HRW.out)).mono ?_
  rintro e w1 ⟨o, rfl, ho, hb1⟩
  rw [f1]
  rw [f2] at ho
  have H1 := hide (And.intro ho (HB0.out.next hb1))
  clear ho hb1
  dsimp only
  go_wp2_with fail
  have hr1 := runs_new w1 [(0, 1), (3, 2)] (by
    intro r hr
    have : r = (0, 1) ∨ r = (3, 2) := by simpa using hr
    rcases this with rfl | rfl <;> (show (_ ∧ _) ∧ (_ ∧ _); omega))
  have hb2 : Below w1.heap.size w1 (w1.alloc (.cells #[.int .i64 0, .int .i64 1, .int .i64 3, .int .i64 2] 88)) := (Below.refl _ _).alloc (Nat.le_refl _) _
  obtain ⟨A, cap, rfl, hm⟩ := H1.out.1.m
  refine (sameRuns_any _ _ [(0, 1), (3, 2)] (by simp) _ (hm.below hb2) (by rw [size_alloc]; exact hr1)).mono ?_
  rintro e w2 ⟨rfl, hb3⟩
  have H2 := hide ((H1.out.2.next hb2).next hb3)
  clear hb2 hb3 hr1 hm
  dsimp only
  go_wp2_with fail
  refine (need_any 65 (by omega) _).mono ?_
  rintro e w3 ⟨rfl, rfl⟩
  rw [f3]
  dsimp only
  go_wp2_with fail
  go_ret
  exact ⟨rfl, H2.out⟩
end Go.Proofs.Ytfppddnfdinipaa
end
section
namespace Go.Proofs.Ytfppddnfdinipaa
open Go Go.RowKit
set_option maxRecDepth 100000
/-- runs behind a row of one's own -/
theorem OwnRuns.appM {base B c : Nat} {w wm : World} {v : Value} {l news : List Run} {A : Option Addr} (h : OwnRuns base w v l) (hbase : base ≤ w.heap.size) (hw : Below w.heap.size w wm) (hm : RunsM wm B (.slice A news.length c) news) (hl : l.length + news.length ≤ 100000) :
    ∃ v' w', (Builtin.append_ #[73, 73] 73 #[v, .slice A news.length c]).run Try.prog wm = .ok v' w' ∧ OwnRuns base w' v' (l ++ news) ∧ wm.grownBy w' v.ownBlock ∧ Below base w w' := by
  obtain ⟨i, hi, hz0, hz1, hz2⟩ := info_parts info_run
  have hr := h.below hw
  have hs := hw.size
  obtain ⟨A', cap, hv, hcap, hnil, hA, h64⟩ := hm
  injection hv with e1 _ e2
  subst e1 e2
  rcases Nat.eq_zero_or_pos news.length with h0 | h0
  · obtain rfl := List.length_eq_zero_iff.1 h0
    rw [List.append_nil]
    cases A with
    | none =>
      obtain rfl := hnil rfl
      exact ⟨v, wm, run_append_owned_none (P := Try.prog) (w := wm) base 73 73 88 i 2 Try.underlying73 hi v l.length (runCells l) hr.1, hr, World.grownBy.refl wm _, Below.mono hw hbase⟩
    | some ad =>
      obtain ⟨v', w', k1, k2, k3, _, _⟩ := run_append_own_at (P := Try.prog) wm base 73 73 88 i (.agg #[.int .i64 0, .int .i64 0]) 2 16 Try.underlying73 hi hz0 hz1 hz2 rfl (by omega) v l.length (runCells l) hr.1 ad 0 c [] rfl (fun j u hu => by simp at hu) (fun u hu => by cases hu) (by simp only [maxLen]; omega) (by omega) (by omega)
      exact ⟨v', w', k1, ⟨by simpa using k2, h.2⟩, k3, (Below.mono hw hbase).grown k3 (by omega) fun k hk => (owned_ltN hr.1 hk).1⟩
  · obtain ⟨b, off, rfl, hb, hc⟩ := hA h0
    exact h.app hbase hw h0 hl b off hc h64 c
/-- what stays while the law asks: the shape, the runs that came in, the runs that are lent -/
structure Asks (w0 w : World) (l a d : Int) (v I : Value) (rs : List Run) : Prop where
  shape : Blk w w0.heap.size 64 #[.int .i64 l, .int .i64 a, .int .i64 d]
  held : RunsM w w.heap.size v rs
  lent : RunsM w w.heap.size I rs
  below : Below w0.heap.size w0 w
theorem Asks.grow {w0 w w' : World} {l a d : Int} {v I : Value} {rs : List Run} (h : Asks w0 w l a d v I rs) (hb : Below w.heap.size w w') : Asks w0 w' l a d v I rs :=
  ⟨h.shape.below hb h.shape.lt, h.held.below hb, h.lent.below hb, h.below.next hb⟩
theorem OwnRuns.runs {base : Nat} {w : World} {v : Value} {l : List Run} (h : OwnRuns base w v l) : RunsM w w.heap.size v l := by
  obtain ⟨A, cap, rfl, hm⟩ := h.m
  exact hm
theorem run_eql_bool (b : Bool) (w : World) : (binOp .eql 4 (.bool b) (.bool b)).run Try.prog w = .ok (.bool true) w := by
  have h2 := Try.underlying4
  go_simp
theorem findP_len (rs : List Run) (d n : Nat) : (findP rs d n).length ≤ d := by
  by_cases h : n ≤ (freeTo rs d).length
  · obtain ⟨k, hk, he⟩ := findP_where d h
    rw [findP_at hk he]
    exact Nat.le_trans (gok rs k).len hk
  · unfold findP
    rw [List.take_of_length_le (by omega)]
    exact (gok rs d).len
theorem findR_len (l a d : Int) (rs : List Run) (n : Int) : (findR l a d rs n).length ≤ 1000000 := by
  rw [findR]
  split
  · rename_i h
    have h1 := findP_len rs d.toNat n.toNat
    by_cases hap : apartP l a d rs ∧ 0 ≤ n
    · have := apart_d hap.1
      omega
    · rw [findE, if_neg hap] at h
      cases h
  · simp
set_option maxHeartbeats 4000000 in
theorem finds_in (l a d n : Int) (hn : -9223372036854775808 ≤ n ∧ n ≤ 9223372036854775807) (v : Value) (rs : List Run) (hlen : rs.length ≤ 60) (hsec : secs l a d ≤ 60) (w : World) (hrs : RunsM w w.heap.size v rs) :
    Calls Try.prog 41 #[.agg #[.int .i64 l, .int .i64 a, .int .i64 d], .int .i64 n, v] w fun e w' => e = .returned (.bool true) ∧ Below w.heap.size w w' := by
  have h64 : rightP l a d → d ≤ 64 := fun h => by
    have h1 := h.1
    have h2 := h.2.1
    rw [secs, if_pos h] at hsec
    unfold inW at h1 h2
    omega
  have hlen' : rs.length ≤ 1000000 := by omega
  obtain ⟨A, cp, rfl, hrest⟩ := id hrs
  clear hrest
  have hb0 : Below w.heap.size w (w.alloc (.cells #[.int .i64 l, .int .i64 a, .int .i64 d] 64)) := (Below.refl _ w).alloc (Nat.le_refl _) _
  have HRS := hide (And.intro (hrs.below hb0) h64)
  clear hrs hb0 h64
  go_enter Try.func41, Try.ntmps41
  go_wp2_with fail
  refine (rsecs_any l a d _).mono ?_
  rintro e w1 ⟨rfl, hb⟩
  have hsh : Blk w1 w.heap.size 64 #[.int .i64 l, .int .i64 a, .int .i64 d] := (Blk.new w _ _).below hb (by rw [size_alloc]; omega)
  have H1 := hide (And.intro hsh (And.intro (HRS.out.1.below hb) (((Below.refl _ w).alloc (Nat.le_refl _) (.cells #[.int .i64 l, .int .i64 a, .int .i64 d] 64)).next hb)))
  clear hb hsh
  obtain ⟨vI, w2, hap, hown, hgr, hbe⟩ := OwnRuns.appM (base := w1.heap.size) (w := w1.alloc (.cells #[] 88)) (wm := w1.alloc (.cells #[] 88)) (v := .slice (some ⟨w1.heap.size, 0, none⟩) 0 0) (l := []) (B := (w1.alloc (.cells #[] 88)).heap.size) (c := cp) (A := A) (news := rs)
    ⟨⟨rfl, .inr ⟨w1.heap.size, 0, #[], rfl, Nat.le_refl _, Blk.new w1 88 #[], Nat.le_refl _, Nat.zero_le _, rfl, rfl⟩⟩, fun r hr => by cases hr⟩ (by rw [size_alloc]; omega) (Below.refl _ _) (H1.out.2.1.below ((Below.refl _ _).alloc (Nat.le_refl _) _)) (by simp; omega)
  have hb2 : Below w1.heap.size w1 w2 := ((Below.refl _ w1).alloc (Nat.le_refl _) _).trans hbe
  have H2 : Hid (Asks w w2 l a d (.slice A rs.length cp) vI rs) := hide ⟨H1.out.1.below hb2 H1.out.1.lt, H1.out.2.1.below hb2, hown.runs, H1.out.2.2.next hb2⟩
  have HAP := hide hap
  clear hap hown hgr hbe hb2
  have c0 := H2.out.shape.cell 0
  have c1 := H2.out.shape.cell 1
  have c2 := H2.out.shape.cell 2
  have hlt := H2.out.shape.lt
  dsimp only
  go_wp2_with (at_builtin; refine wpList_value (o := ⟨some 27, _, _, _, _, _⟩) rfl vI w2 (exec_append (o := ⟨some 27, _, _, _, _, _⟩) (.tmp 25) (.tmp 26) 73 rfl (.slice (some ⟨w1.heap.size, 0, none⟩) 0 0) (.slice A rs.length cp) _ _ _ rfl rfl HAP.out) ?_)
  refine (lfind_any l a d HRS.out.2 vI rs hlen' n w2 H2.out.lent).mono ?_
  rintro e w3 ⟨o1, rfl, ho1, hb3⟩
  have H3 := hide (And.intro (H2.out.grow hb3) ho1.runs)
  clear ho1 hb3 c0 c1 c2 hlt H2 HAP
  have c0 := H3.out.1.shape.cell 0
  have c1 := H3.out.1.shape.cell 1
  have c2 := H3.out.1.shape.cell 2
  have hlt := H3.out.1.shape.lt
  dsimp only
  go_wp2_with fail
  refine (rfind_any l a d _ rs hlen' n w3 H3.out.1.held).mono ?_
  rintro e w4 ⟨o2, rfl, ho2, hb4⟩
  have H4 := hide (And.intro (H3.out.1.grow hb4) (And.intro (H3.out.2.below hb4) ho2.runs))
  clear ho2 hb4 c0 c1 c2 hlt H3
  have c0 := H4.out.1.shape.cell 0
  have c1 := H4.out.1.shape.cell 1
  have c2 := H4.out.1.shape.cell 2
  have hlt := H4.out.1.shape.lt
  dsimp only
  go_wp2_with fail
  refine (lfree_any l a d HRS.out.2 vI rs hlen' w4 H4.out.1.lent).mono ?_
  rintro e w5 ⟨rfl, hb5⟩
  have H5 := hide (And.intro (H4.out.1.grow hb5) (And.intro (H4.out.2.1.below hb5) (H4.out.2.2.below hb5)))
  clear hb5 c0 c1 c2 hlt H4
  have c0 := H5.out.1.shape.cell 0
  have c1 := H5.out.1.shape.cell 1
  have c2 := H5.out.1.shape.cell 2
  have hlt := H5.out.1.shape.lt
  dsimp only
  go_wp2_with fail
  refine (rfree_any l a d _ rs hlen' w5 H5.out.1.held).mono ?_
  rintro e w6 ⟨rfl, hb6⟩
  have HA := hide (H5.out.1.grow hb6)
  have HO := hide (And.intro (H5.out.2.1.below hb6) (H5.out.2.2.below hb6))
  clear hb6 c0 c1 c2 hlt H5
  have hfl : (findR l a d rs n).length ≤ 1000000 := findR_len l a d rs n
  dsimp only
  go_wp2_with fail
  refine wp_made 42 [] (by kernel_rfl) (by kernel_rfl) (by intro p hp; cases hp) List.nodup_nil (by intro t ht; cases ht) ?_
  simp only [List.take_succ_cons, List.take_zero, List.drop_succ_cons, List.drop_zero]
  refine made_val (.int .i64 n) (by kernel_rfl) (by kernel_rfl) (by kernel_rfl) (fun _ _ => by kernel_rfl) ?_
  simp only [Act.put, List.setIfInBounds_toArray, List.set_cons_zero, List.set_cons_succ]
  refine made_call (.int .i64 (needP n)) 34 #[.int .i64 n] (by kernel_rfl) (by kernel_rfl) (by kernel_rfl) (fun W => by kernel_rfl) (fun W hW => (need_any n hn W).mono fun e w' ⟨h1, h2⟩ => ⟨h1, by rw [h2]; exact Below.refl _ _⟩) ?_
  simp only [Act.put, List.setIfInBounds_toArray, List.set_cons_zero, List.set_cons_succ]
  refine made_val (.int .i64 n) (by kernel_rfl) (by kernel_rfl) (by kernel_rfl) (fun _ _ => by kernel_rfl) ?_
  simp only [Act.put, List.setIfInBounds_toArray, List.set_cons_zero, List.set_cons_succ]
  refine made_call (.int .i64 (needP n)) 42 #[.int .i64 n] (by kernel_rfl) (by kernel_rfl) (by kernel_rfl) (fun W => by kernel_rfl) (fun W hW => (rneed_any n hn W).mono fun e w' ⟨h1, h2⟩ => ⟨h1, by rw [h2]; exact Below.refl _ _⟩) ?_
  simp only [Act.put, List.setIfInBounds_toArray, List.set_cons_zero, List.set_cons_succ]
  refine made_val (.bool true) (by kernel_rfl) (by kernel_rfl) (by kernel_rfl) (fun W hW => ?hc1) ?_
  case hc1 => go_simp
  simp only [Act.put, List.setIfInBounds_toArray, List.set_cons_zero, List.set_cons_succ]
  refine made_val (.bool true) (by kernel_rfl) (by kernel_rfl) (by kernel_rfl) (fun _ _ => by kernel_rfl) ?_
  simp only [Act.put, List.setIfInBounds_toArray, List.set_cons_zero, List.set_cons_succ]
  refine made_val (.agg #[.int .i64 l, .int .i64 a, .int .i64 d]) (by kernel_rfl) (by kernel_rfl) (by kernel_rfl) (fun W hW => exec_load_blk (o := ⟨some 60, _, _, _, _, _⟩) 64 (.tmp 3) rfl w.heap.size rfl 64 _ _ W (HA.out.grow hW).shape Try.underlying64 rfl (by kernel_rfl)) ?_
  simp only [Act.put, List.setIfInBounds_toArray, List.set_cons_zero, List.set_cons_succ]
  refine made_val (vI) (by kernel_rfl) (by kernel_rfl) (by kernel_rfl) (fun _ _ => by kernel_rfl) ?_
  simp only [Act.put, List.setIfInBounds_toArray, List.set_cons_zero, List.set_cons_succ]
  refine made_call (.bool (decide (apartP l a d rs))) 76 #[.agg #[.int .i64 l, .int .i64 a, .int .i64 d], vI] (by kernel_rfl) (by kernel_rfl) (by kernel_rfl) (fun W => by kernel_rfl) (fun W hW => lapart_any l a d HRS.out.2 vI rs hlen' W (HA.out.grow hW).lent) ?_
  simp only [Act.put, List.setIfInBounds_toArray, List.set_cons_zero, List.set_cons_succ]
  refine made_val (.agg #[.int .i64 l, .int .i64 a, .int .i64 d]) (by kernel_rfl) (by kernel_rfl) (by kernel_rfl) (fun W hW => exec_load_blk (o := ⟨some 63, _, _, _, _, _⟩) 64 (.tmp 3) rfl w.heap.size rfl 64 _ _ W (HA.out.grow hW).shape Try.underlying64 rfl (by kernel_rfl)) ?_
  simp only [Act.put, List.setIfInBounds_toArray, List.set_cons_zero, List.set_cons_succ]
  refine made_val (.slice A rs.length cp) (by kernel_rfl) (by kernel_rfl) (by kernel_rfl) (fun _ _ => by kernel_rfl) ?_
  simp only [Act.put, List.setIfInBounds_toArray, List.set_cons_zero, List.set_cons_succ]
  refine made_call (.bool (decide (apartP l a d rs))) 77 #[.agg #[.int .i64 l, .int .i64 a, .int .i64 d], .slice A rs.length cp] (by kernel_rfl) (by kernel_rfl) (by kernel_rfl) (fun W => by kernel_rfl) (fun W hW => rapart_any l a d (.slice A rs.length cp) rs hlen' W (HA.out.grow hW).held) ?_
  simp only [Act.put, List.setIfInBounds_toArray, List.set_cons_zero, List.set_cons_succ]
  refine made_val (.bool true) (by kernel_rfl) (by kernel_rfl) (by kernel_rfl) (fun W hW => ?hc2) ?_
  case hc2 => go_simp
  simp only [Act.put, List.setIfInBounds_toArray, List.set_cons_zero, List.set_cons_succ]
  refine made_val (.bool true) (by kernel_rfl) (by kernel_rfl) (by kernel_rfl) (fun _ _ => by kernel_rfl) ?_
  simp only [Act.put, List.setIfInBounds_toArray, List.set_cons_zero, List.set_cons_succ]
  refine made_val (.bool true) (by kernel_rfl) (by kernel_rfl) (by kernel_rfl) (fun _ _ => by kernel_rfl) ?_
  simp only [Act.put, List.setIfInBounds_toArray, List.set_cons_zero, List.set_cons_succ]
  refine made_val (.int .i64 (findE l a d rs n)) (by kernel_rfl) (by kernel_rfl) (by kernel_rfl) (fun _ _ => by kernel_rfl) ?_
  simp only [Act.put, List.setIfInBounds_toArray, List.set_cons_zero, List.set_cons_succ]
  refine made_val (.int .i64 (findE l a d rs n)) (by kernel_rfl) (by kernel_rfl) (by kernel_rfl) (fun _ _ => by kernel_rfl) ?_
  simp only [Act.put, List.setIfInBounds_toArray, List.set_cons_zero, List.set_cons_succ]
  refine made_val (.bool true) (by kernel_rfl) (by kernel_rfl) (by kernel_rfl) (fun W hW => ?hc3) ?_
  case hc3 => go_simp
  simp only [Act.put, List.setIfInBounds_toArray, List.set_cons_zero, List.set_cons_succ]
  refine made_val (.bool true) (by kernel_rfl) (by kernel_rfl) (by kernel_rfl) (fun _ _ => by kernel_rfl) ?_
  simp only [Act.put, List.setIfInBounds_toArray, List.set_cons_zero, List.set_cons_succ]
  refine made_val (.bool true) (by kernel_rfl) (by kernel_rfl) (by kernel_rfl) (fun _ _ => by kernel_rfl) ?_
  simp only [Act.put, List.setIfInBounds_toArray, List.set_cons_zero, List.set_cons_succ]
  refine made_val (o1) (by kernel_rfl) (by kernel_rfl) (by kernel_rfl) (fun _ _ => by kernel_rfl) ?_
  simp only [Act.put, List.setIfInBounds_toArray, List.set_cons_zero, List.set_cons_succ]
  refine made_val (o2) (by kernel_rfl) (by kernel_rfl) (by kernel_rfl) (fun _ _ => by kernel_rfl) ?_
  simp only [Act.put, List.setIfInBounds_toArray, List.set_cons_zero, List.set_cons_succ]
  refine made_call (.bool true) 59 #[o1, o2] (by kernel_rfl) (by kernel_rfl) (by kernel_rfl) (fun W => by kernel_rfl) (fun W hW => sameRuns_any o1 o2 (findR l a d rs n) hfl W (HO.out.1.below hW) (HO.out.2.below hW)) ?_
  simp only [Act.put, List.setIfInBounds_toArray, List.set_cons_zero, List.set_cons_succ]
  refine made_val (.bool true) (by kernel_rfl) (by kernel_rfl) (by kernel_rfl) (fun _ _ => by kernel_rfl) ?_
  simp only [Act.put, List.setIfInBounds_toArray, List.set_cons_zero, List.set_cons_succ]
  refine made_val (.bool true) (by kernel_rfl) (by kernel_rfl) (by kernel_rfl) (fun _ _ => by kernel_rfl) ?_
  simp only [Act.put, List.setIfInBounds_toArray, List.set_cons_zero, List.set_cons_succ]
  refine made_val (.int .i64 (freeE l a d rs)) (by kernel_rfl) (by kernel_rfl) (by kernel_rfl) (fun _ _ => by kernel_rfl) ?_
  simp only [Act.put, List.setIfInBounds_toArray, List.set_cons_zero, List.set_cons_succ]
  refine made_val (.int .i64 (freeE l a d rs)) (by kernel_rfl) (by kernel_rfl) (by kernel_rfl) (fun _ _ => by kernel_rfl) ?_
  simp only [Act.put, List.setIfInBounds_toArray, List.set_cons_zero, List.set_cons_succ]
  refine made_val (.bool true) (by kernel_rfl) (by kernel_rfl) (by kernel_rfl) (fun W hW => ?hc4) ?_
  case hc4 => go_simp
  simp only [Act.put, List.setIfInBounds_toArray, List.set_cons_zero, List.set_cons_succ]
  refine made_val (.bool true) (by kernel_rfl) (by kernel_rfl) (by kernel_rfl) (fun _ _ => by kernel_rfl) ?_
  simp only [Act.put, List.setIfInBounds_toArray, List.set_cons_zero, List.set_cons_succ]
  refine made_val (.bool true) (by kernel_rfl) (by kernel_rfl) (by kernel_rfl) (fun _ _ => by kernel_rfl) ?_
  simp only [Act.put, List.setIfInBounds_toArray, List.set_cons_zero, List.set_cons_succ]
  refine made_val (.int .i64 (freeN l a d rs)) (by kernel_rfl) (by kernel_rfl) (by kernel_rfl) (fun _ _ => by kernel_rfl) ?_
  simp only [Act.put, List.setIfInBounds_toArray, List.set_cons_zero, List.set_cons_succ]
  refine made_val (.int .i64 (freeN l a d rs)) (by kernel_rfl) (by kernel_rfl) (by kernel_rfl) (fun _ _ => by kernel_rfl) ?_
  simp only [Act.put, List.setIfInBounds_toArray, List.set_cons_zero, List.set_cons_succ]
  refine made_val (.bool true) (by kernel_rfl) (by kernel_rfl) (by kernel_rfl) (fun W hW => ?hc5) ?_
  case hc5 => go_simp
  simp only [Act.put, List.setIfInBounds_toArray, List.set_cons_zero, List.set_cons_succ]
  refine made_val (.bool true) (by kernel_rfl) (by kernel_rfl) (by kernel_rfl) (fun _ _ => by kernel_rfl) ?_
  simp only [Act.put, List.setIfInBounds_toArray, List.set_cons_zero, List.set_cons_succ]
  refine made_val (.bool true) (by kernel_rfl) (by kernel_rfl) (by kernel_rfl) (fun _ _ => by kernel_rfl) ?_
  simp only [Act.put, List.setIfInBounds_toArray, List.set_cons_zero, List.set_cons_succ]
  refine made_val (vI) (by kernel_rfl) (by kernel_rfl) (by kernel_rfl) (fun _ _ => by kernel_rfl) ?_
  simp only [Act.put, List.setIfInBounds_toArray, List.set_cons_zero, List.set_cons_succ]
  refine made_val (.slice A rs.length cp) (by kernel_rfl) (by kernel_rfl) (by kernel_rfl) (fun _ _ => by kernel_rfl) ?_
  simp only [Act.put, List.setIfInBounds_toArray, List.set_cons_zero, List.set_cons_succ]
  refine made_call (.bool true) 59 #[vI, .slice A rs.length cp] (by kernel_rfl) (by kernel_rfl) (by kernel_rfl) (fun W => by kernel_rfl) (fun W hW => sameRuns_any vI (.slice A rs.length cp) rs hlen' W (HA.out.grow hW).lent (HA.out.grow hW).held) ?_
  simp only [Act.put, List.setIfInBounds_toArray, List.set_cons_zero, List.set_cons_succ]
  refine made_val (.bool true) (by kernel_rfl) (by kernel_rfl) (by kernel_rfl) (fun _ _ => by kernel_rfl) ?_
  simp only [Act.put, List.setIfInBounds_toArray, List.set_cons_zero, List.set_cons_succ]
  refine made_val (.bool true) (by kernel_rfl) (by kernel_rfl) (by kernel_rfl) (fun _ _ => by kernel_rfl) ?_
  simp only [Act.put, List.setIfInBounds_toArray, List.set_cons_zero, List.set_cons_succ]
  refine made_call (.bool true) 28 #[] (by kernel_rfl) (by kernel_rfl) (by kernel_rfl) (fun W => by kernel_rfl) (fun W hW => awake7_any W) ?_
  simp only [Act.put, List.setIfInBounds_toArray, List.set_cons_zero, List.set_cons_succ]
  refine made_val (.bool true) (by kernel_rfl) (by kernel_rfl) (by kernel_rfl) (fun _ _ => by kernel_rfl) ?_
  simp only [Act.put, List.setIfInBounds_toArray, List.set_cons_zero, List.set_cons_succ]
  show ∀ w', _ → _
  intro w7 hb7
  simp only [ended]
  have H7 := hide (HA.out.below.next hb7)
  clear hb7
  go_wp2_with fail
  go_ret
  exact ⟨rfl, H7.out⟩
end Go.Proofs.Ytfppddnfdinipaa
end
section
namespace Go.Proofs.Ytfppddnfdinipaa.Fre
open Go Go.RowKit
/-- what the head may do to the world -/
class RelOk (X : World → World → Prop) : Prop where
  refl : ∀ w, X w w
  trans : ∀ a b c, X a b → X b c → X a c
  drew : ∀ w, X w w.drew
def Ext (X : World → World → Prop) (w w' : World) : Prop := X w w'
theorem Ext.refl {X : World → World → Prop} [RelOk X] (w : World) : Ext X w w := RelOk.refl (X := X) w
theorem Ext.trans {X : World → World → Prop} [RelOk X] {a b c : World} (h : Ext X a b) (k : Ext X b c) : Ext X a c := RelOk.trans (X := X) a b c h k
theorem Ext.drew {X : World → World → Prop} [RelOk X] (w : World) : Ext X w w.drew := RelOk.drew (X := X) w
/-- what is made, slot by slot -/
abbrev Made := Tmp → Option (Value → World → Prop)

section
variable {P : Program} {ops : Array Oper} {md : Region.Mode} {F : Made} {w0 : World} {X : World → World → Prop} [RelOk X]

/-- what a made thing is stays X so -/
def stays (X : World → World → Prop) (F : Made) : Prop := ∀ t V, F t = some V → ∀ u w w', V u w → Ext X w w' → V u w'

/-- an operation hands on one value -/
def quietTo (X : World → World → Prop) (P : Program) (v : Value) (w : World) : Result Next → Prop
  | .ok (.value u) w' => w' = w ∧ u = v
  | .ok .skip w' => w' = w ∧ v = undef
  | .ok (.enter f args) w' => w' = w ∧ Calls P f args w (fun e w'' => e = .returned v ∧ Ext X w w'')
  | _ => False
/-- a value is none of the made ones -/
def newTo (_ : Made) (_ : Option Tmp) (_ : World) (_ : Value) : Prop := True
/-- an operation makes something -/
def freshTo (X : World → World → Prop) (P : Program) (F : Made) (d : Option Tmp) (V : Value → World → Prop) (w : World) : Result Next → Prop
  | .ok (.value u) w' => Ext X w w' ∧ V u w' ∧ newTo F d w u
  | .ok (.enter f args) w' => w' = w ∧ Calls P f args w (fun e w'' => ∃ u, e = .returned u ∧ Ext X w w'' ∧ V u w'' ∧ newTo F d w u)
  | _ => False
/-- the one or the other -/
def makesTo (X : World → World → Prop) (P : Program) (F : Made) (d : Option Tmp) (V? : Option (Value → World → Prop)) (v : Value) (w : World) (r : Result Next) : Prop :=
  match V? with
  | some V => v = undef ∧ freshTo X P F d V w r
  | none => quietTo X P v w r

/-- frames that are one but for made slots -/
def Same (F : Made) (a b : Act) : Prop := a.defers = b.defers ∧ a.tmps.size = b.tmps.size ∧ ∀ t, F t = none → a.tmps[t]? = b.tmps[t]?

/-- the made slots that are looked at hold what they should -/
def Holds (F : Made) (l : List Tmp) (b : Act) (w : World) : Prop := ∀ t ∈ l, ∀ V, F t = some V → ∃ u, b.tmps[t]? = some u ∧ V u w

/-- what an operation does in whatever frame that is as 'a' but for made slots, and whose made slots that it looks at hold what they should -/
def Does (X : World → World → Prop) (P : Program) (ops : Array Oper) (F : Made) (w0 : World) (o : Oper) (v : Value) (a : Act) : Prop :=
  ∀ b w, Ext X w0 w → Same F b a → Holds F (o.looksAt ops) b w →
    (Region.wanted o (yielded ops b.tmps) = true → makesTo X P F o.dst (o.dst.bind F) v w ((execOp b.eval o).run P w)) ∧
    (Region.wanted o (yielded ops b.tmps) = false → v = undef ∧ o.dst.bind F = none)

theorem tmps_put (a : Act) (d : Tmp) (x : Value) (t : Tmp) (h : t ≠ d) : (a.put (some d) x).tmps[t]? = a.tmps[t]? := by
  simp only [Act.put]
  rw [Array.getElem?_setIfInBounds_ne (Ne.symm h)]
theorem size_put (a : Act) (dst : Option Tmp) (x : Value) : (a.put dst x).tmps.size = a.tmps.size := by cases dst <;> simp [Act.put]
theorem defers_put (a : Act) (dst : Option Tmp) (x : Value) : (a.put dst x).defers = a.defers := by cases dst <;> rfl
theorem tmps_put_at (a : Act) (d : Tmp) (x : Value) : (a.put (some d) x).tmps[d]? = if d < a.tmps.size then some x else none := by
  simp only [Act.put, Array.getElem?_setIfInBounds, if_true]
theorem Same.put {a b : Act} (h : Same F a b) (dst : Option Tmp) (x : Value) : Same F (a.put dst x) (b.put dst x) := by
  refine ⟨by rw [defers_put, defers_put, h.1], by rw [size_put, size_put, h.2.1], fun t ht => ?_⟩
  cases dst with
  | none => exact h.2.2 t ht
  | some d =>
    by_cases e : t = d
    · subst e
      rw [tmps_put_at, tmps_put_at, h.2.1]
    · rw [tmps_put _ _ _ _ e, tmps_put _ _ _ _ e]
      exact h.2.2 t ht

theorem Holds.put {l : List Tmp} {b : Act} {w : World} (dst : Option Tmp) (x : Value) (hl : ∀ d, dst = some d → d ∉ l) : Holds F l (b.put dst x) w ↔ Holds F l b w := by
  unfold Holds
  constructor
  · intro h t ht V hV
    obtain ⟨u, hu, hv⟩ := h t ht V hV
    refine ⟨u, ?_, hv⟩
    cases dst with
    | none => exact hu
    | some d => rwa [tmps_put _ _ _ _ (fun e => hl d rfl (by rw [← e]; exact ht))] at hu
  · intro h t ht V hV
    obtain ⟨u, hu, hv⟩ := h t ht V hV
    refine ⟨u, ?_, hv⟩
    cases dst with
    | none => exact hu
    | some d => rw [tmps_put _ _ _ _ (fun e => hl d rfl (by rw [← e]; exact ht))]; exact hu

omit [RelOk X] in
/-- another slot makes no difference -/
theorem Does.of_put {o : Oper} (hs : ∀ cs b, o.op ≠ .select cs b) {v : Value} {a : Act} {dst : Option Tmp} {x : Value} (hd : ∀ d, dst = some d → d ∉ o.looksAt ops) (h : Does X P ops F w0 o v (a.put dst x)) : Does X P ops F w0 o v a := by
  intro b w hw hb hh
  have h2 := h (b.put dst x) w hw (hb.put dst x) ((Holds.put dst x hd).2 hh)
  rwa [wanted_put o b dst x hd, execOp_put o hs b dst x hd] at h2
omit [RelOk X] in
theorem Does.put {o : Oper} (hs : ∀ cs b, o.op ≠ .select cs b) {v : Value} {a : Act} {dst : Option Tmp} {x : Value} (hd : ∀ d, dst = some d → d ∉ o.looksAt ops) (h : Does X P ops F w0 o v a) : Does X P ops F w0 o v (a.put dst x) := by
  cases dst with
  | none => exact h
  | some d =>
    intro b w hw hb hh
    have hsame : Same F (b.put (some d) (a.tmps.getD d undef)) a := by
      refine ⟨by rw [defers_put, hb.1, defers_put], by rw [size_put, hb.2.1, size_put], fun t ht => ?_⟩
      by_cases e : t = d
      · subst e
        rw [tmps_put_at, hb.2.1, size_put]
        split
        · rename_i hlt; simp [hlt]
        · rename_i hlt; rw [Array.getElem?_eq_none (Nat.le_of_not_lt hlt)]
      · rw [tmps_put _ _ _ _ e, hb.2.2 t ht, tmps_put _ _ _ _ e]
    have h2 := h (b.put (some d) (a.tmps.getD d undef)) w hw hsame ((Holds.put (some d) _ hd).2 hh)
    rwa [wanted_put o b (some d) _ hd, execOp_put o hs b (some d) _ hd] at h2

def absOp (X : World → World → Prop) (P : Program) (ops : Array Oper) (F : Made) (w0 : World) (i : Nat) (K : Act → Prop) (a : Act) : Prop :=
  match ops[i]? with
  | none => K a
  | some o => ∃ v, Does X P ops F w0 o v a ∧ K (a.put o.dst v)
omit [RelOk X] in
theorem absOp_mono {i : Nat} {a : Act} {K K' : Act → Prop} (h : ∀ a, K a → K' a) (hh : absOp X P ops F w0 i K a) : absOp X P ops F w0 i K' a := by
  unfold absOp at *
  cases ho : ops[i]? with
  | none => simp only [ho] at hh; exact h _ hh
  | some o =>
    simp only [ho] at hh
    obtain ⟨v, h1, h2⟩ := hh
    exact ⟨v, h1, h _ h2⟩

omit [RelOk X] in
theorem absOp_put {j : Nat} {oi oj : Oper} {v : Value} (hj : ops[j]? = some oj) (hap : oi.apart ops oj = true)
    (hsi : ∀ cs b, oi.op ≠ .select cs b) (hsj : ∀ cs b, oj.op ≠ .select cs b) {K : Act → Prop} {a : Act}
    (hy : Does X P ops F w0 oi v a) (h : absOp X P ops F w0 j K (a.put oi.dst v)) :
    absOp X P ops F w0 j (fun a' => Does X P ops F w0 oi v a' ∧ K (a'.put oi.dst v)) a := by
  obtain ⟨h1, h2, h3⟩ := Oper.apart_spec hap
  unfold absOp at *
  simp only [hj] at *
  obtain ⟨u, hu, hk⟩ := h
  exact ⟨u, hu.of_put hsj h1, hy.put hsi h3, by rw [← Act.put_comm a v u h2]; exact hk⟩

/-- whatever order the head is taken in, L holds when it is done -/
def headF (X : World → World → Prop) (P : Program) (md : Region.Mode) (ops : Array Oper) (F : Made) (w0 : World) (n : Nat) (L : Array Bool → Act → Prop) : Nat → Array Bool → Act → Prop
  | 0, d, a => L d a
  | f + 1, d, a => Region.ready md ops d ≠ [] ∧ ∀ i ∈ Region.ready md ops d, i < n ∧ absOp X P ops F w0 i (headF X P md ops F w0 n L f (d.setIfInBounds i true)) a

omit [RelOk X] in
theorem headF_first {n i : Nat} {oi : Oper} {v : Value} {L : Array Bool → Act → Prop} (hi : ops[i]? = some oi) (hsel : ∀ (j : Nat) (o : Oper) cs b, ops[j]? = some o → o.op ≠ .select cs b)
    (hs : Region.sinkB md ops n = true) (hc : Region.chainB md ops n = true) (hn : n < ops.size) (hin : i < n) (hdone : ∀ d a, L d a → ∀ j ∈ Region.ready md ops d, n ≤ j) (f : Nat) :
    ∀ (d : Array Bool) (a : Act), HeadInv md ops n d →
      (∀ j oj, ops[j]? = some oj → j ≠ i → d.getD j true = false → (∀ e ∈ oj.after, Region.binds md e = true → e.on ≠ i) → oi.apart ops oj = true) →
      i ∈ Region.ready md ops d → Does X P ops F w0 oi v a →
      headF X P md ops F w0 n L f (d.setIfInBounds i true) (a.put oi.dst v) → headF X P md ops F w0 n L (f + 1) d a := by
  have own : ∀ (K : Act → Prop) (a : Act), Does X P ops F w0 oi v a → K (a.put oi.dst v) → absOp X P ops F w0 i K a := by
    intro K a hy hk
    unfold absOp
    simp only [hi]
    exact ⟨v, hy, hk⟩
  induction f with
  | zero =>
    intro d a inv _ hr hy H
    refine ⟨List.ne_nil_of_mem hr, fun j hj => ?_⟩
    have hjn := headQ_lt hs hc hn inv hin (mem_ready.1 hr).1 hj
    refine ⟨hjn, ?_⟩
    rcases Nat.decEq j i with hji | hji
    · exact absurd (hdone _ _ H j (ready_mono hj hji)) (by omega)
    · subst hji
      exact own _ _ hy H
  | succ f ih =>
    intro d a inv hfree hr hy H
    refine ⟨List.ne_nil_of_mem hr, fun j hj => ?_⟩
    have hjn := headQ_lt hs hc hn inv hin (mem_ready.1 hr).1 hj
    refine ⟨hjn, ?_⟩
    rcases Nat.decEq j i with hji | hji
    · obtain ⟨hjun, oj, hoj, hall⟩ := mem_ready.1 hj
      have hnot : ∀ e ∈ oj.after, Region.binds md e = true → e.on ≠ i := by
        intro e he hb heq
        have h1 := hall e he hb
        rw [heq, getD_both (mem_ready.1 hr).1] at h1
        cases h1
      have hstep := absOp_put hoj (hfree j oj hoj hji hjun hnot) (fun cs b => hsel i oi cs b hi) (fun cs b => hsel j oj cs b hoj) hy (H.2 j (ready_mono hj hji)).2
      refine absOp_mono (fun a' h3 => ih (d.setIfInBounds j true) a' (inv.set hj hjn) ?_ (ready_mono hr (Ne.symm hji)) h3.1 ?_) hstep
      · intro k ok hk hki hunk hno
        refine hfree k ok hk hki ?_ hno
        rcases Nat.decEq j k with hjk | hjk
        · rwa [getD_set_ne true hjk] at hunk
        · subst hjk
          exact hjun
      · rw [Array.setIfInBounds_comm _ _ hji]
        exact h3.2
    · subst hji
      exact own _ _ hy H

/-- the walk in the text's order -/
def wpMade (X : World → World → Prop) (P : Program) (ops : Array Oper) (F : Made) (w0 : World) (Q : Act → Prop) : List Oper → Act → Prop
  | [], a => Q a
  | o :: rest, a => ∃ v, Does X P ops F w0 o v a ∧ wpMade X P ops F w0 Q rest (a.put o.dst v)

omit [RelOk X] in
theorem headF_lex {n g : Nat} {Lq : Act → Prop} (hsel : Region.noSelect ops = true) (hs : Region.sinkB md ops n = true) (hc : Region.chainB md ops n = true) (hn : n < ops.size) :
    ∀ (l : List Oper) (k : Nat) (d : Array Bool) (a : Act), (∀ j, j < l.length → l[j]? = ops[k + j]?) → k + l.length = n → HeadInv md ops n d → (∀ i, i < k → d.getD i false = true) →
    Region.lexHead md ops g l.length k d = true → wpMade X P ops F w0 Lq l a →
    headF X P md ops F w0 n (fun d' a' => (Region.seqB md ops g n d' = true ∧ ∀ i, i < n → d'.getD i false = true) ∧ Lq a') l.length d a
  | [], k, d, a, _, hk, _, hd, hB, h => by
    obtain rfl : k = n := by simpa using hk
    exact ⟨⟨by simpa [Region.lexHead] using hB, hd⟩, h⟩
  | o :: l, k, d, a, hl, hk, inv, hd, hB, h => by
    have h0 : ops[k]? = some o := by simpa using (hl 0 (by simp)).symm
    simp only [List.length_cons, Region.lexHead, Bool.and_eq_true] at hB
    obtain ⟨⟨hr, hf⟩, hB'⟩ := hB
    have hkn : k < n := by simp only [List.length_cons] at hk; omega
    have hr' : k ∈ Region.ready md ops d := by simpa using hr
    obtain ⟨v, hy, hK⟩ := h
    refine headF_first h0 (Region.noSelect_spec hsel) hs hc hn hkn (fun d' a' hL => seqB_ready hL.1.1) l.length d a inv (Region.free_spec h0 hf) hr' hy ?_
    refine headF_lex hsel hs hc hn l (k + 1) _ _ (fun j hj => ?_) (by simp only [List.length_cons] at hk; omega) (inv.set hr' hkn) (fun i hi => ?_) hB' hK
    · have := hl (j + 1) (by simp; omega)
      simpa [Nat.add_assoc, Nat.add_comm 1 j] using this
    · by_cases e : k = i
      · subst e
        have : k < d.size := by rw [inv.size]; omega
        simp [this]
      · rw [getD_set_ne false e]
        exact hd i (by omega)

/-- made slots that are looked at have been made -/
def madeB (md : Region.Mode) (ops : Array Oper) (keys : List Tmp) (n : Nat) : Bool :=
  (List.range n).all fun j => match ops[j]? with
    | none => true
    | some o => (o.looksAt ops).all fun t => !keys.contains t || (List.range n).any fun i => (ops[i]?).bind (·.dst) == some t && Region.waitsFor md ops j i
/-- all made slots are made by the head -/
def allMadeB (ops : Array Oper) (keys : List Tmp) (n : Nat) : Bool := keys.all fun t => (List.range n).any fun i => (ops[i]?).bind (·.dst) == some t

def Sim (X : World → World → Prop) (ops : Array Oper) (F : Made) (w0 : World) (d : Array Bool) (a b : Act) (w : World) : Prop :=
  Ext X w0 w ∧ Same F b a ∧ ∀ i o t V, ops[i]? = some o → d.getD i false = true → o.dst = some t → F t = some V → ∃ u, b.tmps[t]? = some u ∧ V u w

theorem any_of_headF {n g : Nat} {keys : List Tmp} (hF : stays X F) (hkeys : ∀ t V, F t = some V → t ∈ keys) (hmade : madeB md ops keys n = true) (hsz : ∀ t ∈ keys, ∀ a : Act, ∀ b : Act, Same F b a → True)
    {L : Array Bool → Act → Prop} {Q' : Exit → Act → World → Prop} {size : Nat} (hrange : ∀ t V, F t = some V → t < size)
    (hL : ∀ d a b w, b.tmps.size = size → Sim X ops F w0 d a b w → L d a → wpAny P md ops Q' g d b w) :
    ∀ (f : Nat) (d : Array Bool) (a b : Act) (w : World), b.tmps.size = size → HeadInv md ops n d → Sim X ops F w0 d a b w → headF X P md ops F w0 n L f d a → wpAny P md ops Q' (f + g) d b w
  | 0, d, a, b, w, hb, _, hs, h => by
    rw [Nat.zero_add]
    exact hL _ _ _ _ hb hs h
  | f + 1, d, a, b, w, hb, inv, hs, h => by
    rw [Nat.add_right_comm]
    refine ⟨fun he => absurd he h.1, fun i hi => ?_⟩
    obtain ⟨hin, hop⟩ := h.2 i hi
    obtain ⟨hun, oi, hoi, hall⟩ := mem_ready.1 hi
    obtain ⟨hw, hsame, hV⟩ := hs
    unfold absOp at hop
    simp only [hoi] at hop
    obtain ⟨v, hdo, hk⟩ := hop
    -- the made slots that it looks at
    have hhold : Holds F (oi.looksAt ops) b w := by
      intro t ht V hFt
      have h1 := List.all_eq_true.1 hmade i (List.mem_range.2 hin)
      simp only [hoi] at h1
      have h2 := List.all_eq_true.1 h1 t ht
      have hk2 : keys.contains t = true := by simpa using hkeys t V hFt
      simp only [hk2, Bool.not_true, Bool.false_or] at h2
      obtain ⟨j, _, hj2⟩ := List.any_eq_true.1 h2
      simp only [Bool.and_eq_true, beq_iff_eq] at hj2
      obtain ⟨hj3, hj4⟩ := hj2
      obtain ⟨oi', hoi', e, he, hbd, hon⟩ := Region.waitsFor_spec hj4
      obtain rfl : oi' = oi := Option.some.inj (hoi'.symm.trans hoi)
      cases hoj : ops[j]? with
      | none => simp [hoj] at hj3
      | some oj =>
        have hdst : oj.dst = some t := by simpa [hoj] using hj3
        exact (hV j oj t V hoj (by have := hall e he hbd; rwa [hon] at this) hdst hFt)
    obtain ⟨hyes, hno⟩ := hdo b w hw hsame hhold
    -- the next state
    have next : ∀ (x : Value) (w' : World), Ext X w w' → (∀ t V, oi.dst = some t → F t = some V → V x w' ∧ newTo F oi.dst w x) → (oi.dst.bind F = none → x = v) →
        wpAny P md ops Q' (f + g) (d.setIfInBounds i true) (b.put oi.dst x) w' := by
      intro x w' hx hVx hxv
      refine any_of_headF hF hkeys hmade hsz hrange hL f _ (a.put oi.dst v) _ w' (by rw [size_put]; exact hb) (inv.set hi hin) ⟨hw.trans hx, ?_, ?_⟩ hk
      · refine ⟨by rw [defers_put, defers_put, hsame.1], by rw [size_put, size_put, hsame.2.1], fun t ht => ?_⟩
        cases hd : oi.dst with
        | none => exact hsame.2.2 t ht
        | some dd =>
          by_cases e : t = dd
          · subst e
            rw [hxv (by simp [hd, ht]), tmps_put_at, tmps_put_at, hsame.2.1]
          · rw [tmps_put _ _ _ _ e, tmps_put _ _ _ _ e]
            exact hsame.2.2 t ht
      · -- what stands in a slot of the next frame
        have at_new : ∀ t V, oi.dst = some t → F t = some V → (b.put oi.dst x).tmps[t]? = some x := by
          intro t V e hFt
          rw [e, tmps_put_at, if_pos (by rw [hb]; exact hrange t V hFt)]
        have at_old : ∀ t, oi.dst ≠ some t → (b.put oi.dst x).tmps[t]? = b.tmps[t]? := by
          intro t e
          cases hd : oi.dst with
          | none => rfl
          | some dd => exact tmps_put _ _ _ _ (fun e3 => e (by rw [hd, e3]))
        have was : ∀ j oj t V, ops[j]? = some oj → (d.setIfInBounds i true).getD j false = true → oj.dst = some t → F t = some V → oi.dst ≠ some t → d.getD j false = true := by
          intro j oj t V hoj hlj hdj hFt e
          have hji : j ≠ i := by
            intro e2
            subst e2
            obtain rfl : oj = oi := Option.some.inj (hoj.symm.trans hoi)
            exact e hdj
          rwa [getD_set_ne false (Ne.symm hji)] at hlj
        intro j oj t V hoj hlj hdj hFt
        by_cases e : oi.dst = some t
        · exact ⟨x, at_new t V e hFt, (hVx t V e hFt).1⟩
        · obtain ⟨u, hu, hVu⟩ := hV j oj t V hoj (was j oj t V hoj hlj hdj hFt e) hdj hFt
          exact ⟨u, by rw [at_old t e]; exact hu, hF t V hFt u w w' hVu hx⟩
    unfold wpOp
    simp only [hoi]
    by_cases hwt : Region.wanted oi (yielded ops b.tmps) = true
    · rw [if_pos hwt]
      refine .inl ?_
      have hm := hyes hwt
      unfold Oper.wp
      generalize (execOp b.eval oi).run P w = r at hm
      cases hbind : oi.dst.bind F with
      | none =>
        simp only [makesTo, hbind] at hm
        have hVx : ∀ (x : Value) (w' : World) t V, oi.dst = some t → F t = some V → V x w' ∧ newTo F oi.dst w x := by
          intro x w' t V h1 h2
          simp [h1, h2] at hbind
        cases r with
        | halt x w' => exact hm.elim
        | ok nx w' =>
          cases nx <;> simp only [quietTo] at hm
          case value u =>
            obtain ⟨rfl, rfl⟩ := hm
            exact next _ _ (Ext.refl _) (hVx _ _) (fun _ => rfl)
          case skip =>
            obtain ⟨rfl, rfl⟩ := hm
            exact next _ _ (Ext.refl _) (hVx _ _) (fun _ => rfl)
          case enter fn args =>
            obtain ⟨rfl, hcall⟩ := hm
            refine hcall.mono ?_
            rintro e w'' ⟨rfl, hx⟩
            exact next _ _ hx (hVx _ _) (fun _ => rfl)
      | some V =>
        simp only [makesTo, hbind] at hm
        obtain ⟨_, hm⟩ := hm
        have hnone : oi.dst.bind F = none → ∀ x : Value, x = v := fun h => by rw [hbind] at h; cases h
        have hVx : ∀ (x : Value) (w' : World), V x w' ∧ newTo F oi.dst w x → ∀ t V', oi.dst = some t → F t = some V' → V' x w' ∧ newTo F oi.dst w x := by
          intro x w' hx t V' h1 h2
          simp only [h1, Option.bind_some, h2, Option.some.injEq] at hbind
          rw [hbind]; exact hx
        cases r with
        | halt x w' => exact hm.elim
        | ok nx w' =>
          cases nx <;> simp only [freshTo] at hm
          case value u => exact next _ _ hm.1 (hVx _ _ hm.2) (fun h => hnone h _)
          case enter fn args =>
            obtain ⟨rfl, hcall⟩ := hm
            refine hcall.mono ?_
            rintro e w'' ⟨u, rfl, hx, hVu⟩
            exact next _ _ hx (hVx _ _ hVu) (fun h => hnone h _)
    · rw [if_neg hwt]
      have h3 := hno (by simpa using hwt)
      refine next _ _ (Ext.refl _) ?_ (fun _ => h3.1.symm)
      intro t V h1 h2
      have h4 := h3.2
      simp [h1, h2] at h4

/-- THE LAW. -/
theorem wp_made_tail {id : Nat} {Q : Exit → Act → World → Prop} {a : Act} {w : World} {l : List Oper} (n : Nat) (keys : List Tmp) (F : Made) (hm : P.follows .mixedOrders = true)
    (hB : (Region.lexTailB .any l.toArray n && madeB .any l.toArray keys n && allMadeB l.toArray keys n) = true) (hkeys : ∀ t V, F t = some V → t ∈ keys) (hF : stays X F) (hrange : ∀ t ∈ keys, t < a.tmps.size)
    (h : wpMade X P l.toArray F w (fun a' => ∀ b w', Ext X w w' → Same F b a' → (∀ t V, F t = some V → ∃ u, b.tmps[t]? = some u ∧ V u w') → wpList P l.toArray Q (l.drop n) b w') (l.take n) a) :
    (Code.region id l.toArray true).wp P Q a w := by
  simp only [Bool.and_eq_true] at hB
  obtain ⟨⟨hB, hmade⟩, hallm⟩ := hB
  simp only [Region.lexTailB, Bool.and_eq_true, decide_eq_true_eq] at hB
  obtain ⟨⟨⟨⟨hsel, hn⟩, hs⟩, hc⟩, hlex⟩ := hB
  have hn' : n < l.length := by simpa using hn
  have htl : (l.take n).length = n := by simp; omega
  have hdl : (l.drop n).length = l.toArray.size - n := by simp
  have inv0 : HeadInv .any l.toArray n (Array.replicate l.toArray.size false) :=
    ⟨by simp, fun j oj _ hl => (by rw [getD_replicate_false] at hl; cases hl), fun t _ ht => getD_in (by simpa using ht) (getD_replicate_false _ _)⟩
  have H := headF_lex (md := .any) (g := l.toArray.size - n) hsel hs hc hn (l.take n) 0 _ a (fun j hj => by
    have hj' : j < n := by rw [htl] at hj; exact hj
    simp [hj']) (by simpa using htl) inv0 (fun i hi => absurd hi (Nat.not_lt_zero _)) (by rw [htl]; exact hlex) h
  refine wp_region_any hm ?_
  have hfin := any_of_headF (Q' := Q) (g := l.toArray.size - n) (size := a.tmps.size) hF hkeys hmade (fun _ _ _ _ _ => trivial) (fun t V h => hrange t (hkeys t V h)) (fun d a' b w' _ hsim hL => by
    have mk : ∀ t V, F t = some V → ∃ i oi, l.toArray[i]? = some oi ∧ d.getD i false = true ∧ oi.dst = some t := by
      intro t V hFt
      have h5 := List.all_eq_true.1 hallm t (hkeys t V hFt)
      obtain ⟨i, hi, hi2⟩ := List.any_eq_true.1 h5
      simp only [beq_iff_eq] at hi2
      cases hoi : l.toArray[i]? with
      | none => simp [hoi] at hi2
      | some oi => exact ⟨i, oi, hoi, hL.1.2 i (List.mem_range.1 hi), by simpa [hoi] using hi2⟩
    have h2 := hL.2 b w' hsim.1 hsim.2.1 (fun t V hFt => by
      obtain ⟨i, oi, hoi, hdn, hdst⟩ := mk t V hFt
      exact hsim.2.2 i oi t V hoi hdn hdst hFt)
    have h4 := wpAny_of_seq (md := .any) (Q' := Q) (l.drop n) n d b w' (fun j => by simp [List.getElem?_drop]) (by rw [hdl]; exact hL.1.1) h2
    rwa [hdl] at h4) _ _ a a w.drew rfl inv0 ⟨Ext.drew w, ⟨rfl, rfl, fun _ _ => rfl⟩, fun i o t V _ hd => by rw [getD_replicate_false] at hd; cases hd⟩ H
  rw [htl, show n + (l.toArray.size - n) = l.toArray.size by omega] at hfin
  exact hfin

/- FOR THE WALK -/
theorem Same.fix {a b : Act} {t : Tmp} {u : Value} (h : Same F b a) (hu : b.tmps[t]? = some u) : Same (fun s => if s = t then none else F s) b (a.put (some t) u) := by
  have ht : t < b.tmps.size := by
    rcases Nat.lt_or_ge t b.tmps.size with h | h
    · exact h
    · rw [Array.getElem?_eq_none h] at hu; cases hu
  refine ⟨by rw [defers_put]; exact h.1, by rw [size_put]; exact h.2.1, fun s hs => ?_⟩
  by_cases e : s = t
  · subst e
    rw [tmps_put_at, if_pos (by rw [← h.2.1]; exact ht), hu]
  · rw [tmps_put _ _ _ _ e]
    exact h.2.2 s (by simpa [e] using hs)
theorem Same.eq {a b : Act} (h : Same F b a) (hF : ∀ s, F s = none) : b = a := by
  obtain ⟨bt, bd⟩ := b
  obtain ⟨at', ad⟩ := a
  obtain ⟨h1, _, h3⟩ := h
  have h4 : bt = at' := Array.ext_getElem? fun i => h3 i (hF i)
  cases h1; cases h4; rfl
theorem Same.eval {a b : Act} (h : Same F b a) {x : Operand} (hx : ∀ t, x = .tmp t → F t = none) : b.eval x = a.eval x := by
  cases x with
  | tmp t =>
    have h1 := h.2.2 t (hx t rfl)
    show b.tmps.getD t undef = a.tmps.getD t undef
    rw [Array.getD_eq_getD_getElem?, Array.getD_eq_getD_getElem?, h1]
  | _ => rfl
omit [RelOk X] in
theorem does_of {o : Oper} {v : Value} {a : Act} (hs : ∀ cs b, o.op ≠ .select cs b) (hg : o.guard = none) (hl : ∀ x ∈ o.op.operands, ∀ t, x = .tmp t → F t = none)
    (h : ∀ w, Ext X w0 w → makesTo X P F o.dst (o.dst.bind F) v w ((execOp a.eval o).run P w)) : Does X P ops F w0 o v a := by
  intro b w hw hb _
  have e : execOp b.eval o = execOp a.eval o := execOp_congr o hs fun x hx => hb.eval (hl x hx)
  have hwt : Region.wanted o (yielded ops b.tmps) = true := by unfold Region.wanted; rw [hg]
  rw [e]
  exact ⟨fun _ => h w hw, fun h2 => by rw [hwt] at h2; cases h2⟩
end
end Go.Proofs.Ytfppddnfdinipaa.Fre
end
section
namespace Go.Proofs.Ytfppddnfdinipaa.Fre
open Go Go.RowKit
/-- slot by slot, what a made thing is -/
abbrev MadeL := List (Tmp × (Value → World → Prop))
def madeBy (L : MadeL) : Made := fun t => (L.find? (fun p => p.1 == t)).map (·.2)
/-- what is made stays X so, and lies somewhere -/
structure MadeOk (X : World → World → Prop) (V : Value → World → Prop) : Prop where
  stays : ∀ u w w', V u w → Ext X w w' → V u w'
theorem madeBy_mem {L : MadeL} {t : Tmp} {V : Value → World → Prop} (h : madeBy L t = some V) : (t, V) ∈ L := by
  unfold madeBy at h
  cases hf : L.find? (fun p => p.1 == t) with
  | none => rw [hf] at h; cases h
  | some p =>
    rw [hf] at h
    obtain rfl := Option.some.inj h
    have h1 := List.mem_of_find?_eq_some hf
    have h2 := List.find?_some hf
    simp only [beq_iff_eq] at h2
    obtain ⟨a, b⟩ := p
    subst h2
    exact h1
theorem madeBy_cons (t : Tmp) (V : Value → World → Prop) (L : MadeL) (s : Tmp) : madeBy ((t, V) :: L) s = if t = s then some V else madeBy L s := by
  unfold madeBy
  by_cases h : t = s
  · simp [h]
  · simp [h]
theorem madeBy_look : ∀ {L : MadeL} {t : Tmp} {V : Value → World → Prop}, (L.map (·.1)).Nodup → (t, V) ∈ L → madeBy L t = some V
  | [], _, _, _, hm => by cases hm
  | (t', V') :: L, t, V, hn, hm => by
    simp only [List.map_cons, List.nodup_cons] at hn
    rw [madeBy_cons]
    rcases List.mem_cons.1 hm with hm | hm
    · injection hm with e1 e2
      subst e1 e2
      rw [if_pos rfl]
    · rw [if_neg (fun e => hn.1 (List.mem_map.2 ⟨_, hm, e.symm⟩))]
      exact madeBy_look hn.2 hm
theorem madeBy_none {L : MadeL} {t : Tmp} (h : (L.map (·.1)).contains t = false) : madeBy L t = none := by
  cases hm : madeBy L t with
  | none => rfl
  | some V =>
    have h1 := madeBy_mem hm
    have h2 : (L.map (·.1)).contains t = true := by
      rw [List.contains_iff_mem]
      exact List.mem_map.2 ⟨_, h1, rfl⟩
    rw [h2] at h; cases h
section
variable {P : Program} {ops : Array Oper} {L : MadeL} {w0 : World} {rest : List Oper} {o : Oper} {a : Act} {Q : Act → Prop} {X : World → World → Prop} [RelOk X]
omit [RelOk X] in
theorem stays_by (hL : ∀ p ∈ L, MadeOk X p.2) : stays X (madeBy L) := fun _ _ hV u w w' hu hw => (hL _ (madeBy_mem hV)).stays u w w' hu hw
/-- an operation that looks at no made slot but t, and is no select -/
def looksB (keys : List Tmp) (ops : Array Oper) (o : Oper) : Bool := (match o.op with | .select _ _ => false | _ => true) && (o.looksAt ops).all fun s => !keys.contains s
theorem looksB_sel {keys : List Tmp} (h : looksB keys ops o = true) : ∀ cs b, o.op ≠ .select cs b := by
  intro cs b e
  unfold looksB at h
  rw [e] at h
  cases h
theorem looksB_opd {keys : List Tmp} (h : looksB keys ops o = true) {x : Operand} (hx : x ∈ o.op.operands) {t : Tmp} (e : x = .tmp t) : keys.contains t = false := by
  simp only [looksB, Bool.and_eq_true] at h
  have h2 := List.all_eq_true.1 h.2 t (by
    unfold Oper.looksAt
    exact List.mem_append_left _ (List.mem_filterMap.2 ⟨x, by simpa using hx, by rw [e]⟩))
  simpa using h2
theorem looksB_guard {keys : List Tmp} (h : looksB keys ops o = true) {g : Nat} {y : Bool} (hg : o.guard = some (g, y)) {t : Tmp} (ht : (ops[g]?).bind (·.dst) = some t) : keys.contains t = false := by
  simp only [looksB, Bool.and_eq_true] at h
  have h2 := List.all_eq_true.1 h.2 t (by
    unfold Oper.looksAt
    refine List.mem_append_right _ ?_
    rw [hg]
    simp [ht])
  simpa using h2
theorem wanted_same {F : Made} {b : Act} (hb : Same F b a) (hg : ∀ g x, o.guard = some (g, x) → ∀ t, (ops[g]?).bind (·.dst) = some t → F t = none) : Region.wanted o (yielded ops b.tmps) = Region.wanted o (yielded ops a.tmps) := by
  unfold Region.wanted
  cases hgd : o.guard with
  | none => rfl
  | some p =>
    obtain ⟨g, x⟩ := p
    simp only
    unfold yielded
    cases ht : (ops[g]?).bind (·.dst) with
    | none => rfl
    | some t => simp only [Option.bind_some, hb.2.2 t (hg g x hgd t ht)]
theorem looksB_wanted {b : Act} (hB : looksB (L.map (·.1)) ops o = true) (hb : Same (madeBy L) b a) : Region.wanted o (yielded ops b.tmps) = Region.wanted o (yielded ops a.tmps) :=
  wanted_same hb fun _ _ hg _ ht => madeBy_none (looksB_guard hB hg ht)
theorem looksB_exec {b : Act} (hB : looksB (L.map (·.1)) ops o = true) (hb : Same (madeBy L) b a) : execOp b.eval o = execOp a.eval o :=
  execOp_congr o (looksB_sel hB) fun _ hx => hb.eval fun _ e => madeBy_none (looksB_opd hB hx e)

omit [RelOk X] in
/-- an operation that hands on a value -/
theorem made_val (v : Value) (hB : looksB (L.map (·.1)) ops o = true) (hw : Region.wanted o (yielded ops a.tmps) = true) (hd : o.dst.bind (madeBy L) = none)
    (hrun : ∀ w, Ext X w0 w → (execOp a.eval o).run P w = .ok (.value v) w) (h : wpMade X P ops (madeBy L) w0 Q rest (a.put o.dst v)) : wpMade X P ops (madeBy L) w0 Q (o :: rest) a := by
  refine ⟨v, fun b w hx hb _ => ⟨fun _ => ?_, fun h2 => ?_⟩, h⟩
  · rw [hd, looksB_exec hB hb, hrun w hx]
    exact ⟨rfl, rfl⟩
  · rw [looksB_wanted hB hb, hw] at h2; cases h2
omit [RelOk X] in
/-- an operation that is not wanted -/
theorem made_skip (hB : looksB (L.map (·.1)) ops o = true) (hw : Region.wanted o (yielded ops a.tmps) = false) (hd : o.dst.bind (madeBy L) = none)
    (h : wpMade X P ops (madeBy L) w0 Q rest (a.put o.dst undef)) : wpMade X P ops (madeBy L) w0 Q (o :: rest) a := by
  refine ⟨undef, fun b w hx hb _ => ⟨fun h2 => ?_, fun _ => ⟨rfl, hd⟩⟩, h⟩
  rw [looksB_wanted hB hb, hw] at h2; cases h2
omit [RelOk X] in
/-- a call that makes at most memory, and hands on a value -/
theorem made_call (v : Value) (f : Nat) (args : Array Value) (hB : looksB (L.map (·.1)) ops o = true) (hw : Region.wanted o (yielded ops a.tmps) = true) (hd : o.dst.bind (madeBy L) = none)
    (hrun : ∀ w, (execOp a.eval o).run P w = .ok (.enter f args) w) (hc : ∀ w, Ext X w0 w → Calls P f args w fun e w' => e = .returned v ∧ Ext X w w')
    (h : wpMade X P ops (madeBy L) w0 Q rest (a.put o.dst v)) : wpMade X P ops (madeBy L) w0 Q (o :: rest) a := by
  refine ⟨v, fun b w hx hb _ => ⟨fun _ => ?_, fun h2 => ?_⟩, h⟩
  · rw [hd, looksB_exec hB hb, hrun w]
    exact ⟨rfl, hc w hx⟩
  · rw [looksB_wanted hB hb, hw] at h2; cases h2
omit [RelOk X] in
/-- an operation that makes something -/
theorem made_new (t : Tmp) (V : Value → World → Prop) (hB : looksB (L.map (·.1)) ops o = true) (hw : Region.wanted o (yielded ops a.tmps) = true) (hd : o.dst = some t) (hV : madeBy L t = some V)
    (hrun : ∀ w, Ext X w0 w → ∃ u w', (execOp a.eval o).run P w = .ok (.value u) w' ∧ Ext X w w' ∧ V u w')
    (h : wpMade X P ops (madeBy L) w0 Q rest (a.put o.dst undef)) : wpMade X P ops (madeBy L) w0 Q (o :: rest) a := by
  refine ⟨undef, fun b w hx hb _ => ⟨fun _ => ?_, fun h2 => ?_⟩, h⟩
  · obtain ⟨u, w', h1, h2, h3⟩ := hrun w hx
    rw [hd, Option.bind_some, hV, looksB_exec hB hb, h1]
    exact ⟨rfl, h2, h3, trivial⟩
  · rw [looksB_wanted hB hb, hw] at h2; cases h2
omit [RelOk X] in
/-- a call that makes something -/
theorem made_newcall (t : Tmp) (V : Value → World → Prop) (f : Nat) (args : Array Value) (hB : looksB (L.map (·.1)) ops o = true) (hw : Region.wanted o (yielded ops a.tmps) = true) (hd : o.dst = some t) (hV : madeBy L t = some V)
    (hrun : ∀ w, (execOp a.eval o).run P w = .ok (.enter f args) w) (hc : ∀ w, Ext X w0 w → Calls P f args w fun e w' => ∃ u, e = .returned u ∧ Ext X w w' ∧ V u w')
    (h : wpMade X P ops (madeBy L) w0 Q rest (a.put o.dst undef)) : wpMade X P ops (madeBy L) w0 Q (o :: rest) a := by
  refine ⟨undef, fun b w hx hb _ => ⟨fun _ => ?_, fun h2 => ?_⟩, h⟩
  · rw [hd, Option.bind_some, hV, looksB_exec hB hb, hrun w]
    refine ⟨rfl, rfl, (hc w hx).mono ?_⟩
    rintro e w' ⟨u, h1, h2, h3⟩
    exact ⟨u, h1, h2, h3, trivial⟩
  · rw [looksB_wanted hB hb, hw] at h2; cases h2

/-- the same, of an operation that looks at one made slot -/
def looksB1 (s : Tmp) (keys : List Tmp) (ops : Array Oper) (o : Oper) : Bool := (match o.op with | .select _ _ => false | _ => true) && (o.op.operands.toList.all fun x => match x with | .tmp t => t == s || !keys.contains t | _ => true) &&
  (match o.guard with | some (g, _) => ((ops[g]?).bind (·.dst)).toList.all fun t => !keys.contains t | none => true) && (o.looksAt ops).contains s
theorem looksB1_wanted {s : Tmp} {b : Act} (hB : looksB1 s (L.map (·.1)) ops o = true) (hb : Same (madeBy L) b a) : Region.wanted o (yielded ops b.tmps) = Region.wanted o (yielded ops a.tmps) := by
  refine wanted_same hb fun g _ hg t ht => madeBy_none ?_
  simp only [looksB1, Bool.and_eq_true] at hB
  have h := hB.1.2
  rw [hg] at h
  simpa [ht] using h
theorem looksB1_exec {s : Tmp} {u : Value} {b : Act} (hB : looksB1 s (L.map (·.1)) ops o = true) (hb : Same (madeBy L) b a) (hu : b.tmps[s]? = some u) : execOp b.eval o = execOp (a.put (some s) u).eval o := by
  simp only [looksB1, Bool.and_eq_true] at hB
  refine execOp_congr o ?_ fun x hx => ?_
  · intro cs d e
    have h := hB.1.1.1
    rw [e] at h
    cases h
  · refine (hb.fix hu).eval fun t e => ?_
    have h := List.all_eq_true.1 hB.1.1.2 x (by simpa using hx)
    rw [e] at h
    simp only [Bool.or_eq_true, beq_iff_eq, Bool.not_eq_true'] at h
    rcases h with h | h
    · rw [if_pos h]
    · split
      · rfl
      · exact madeBy_none h
theorem looksB1_holds {s : Tmp} {V : Value → World → Prop} {b : Act} {w : World} (hB : looksB1 s (L.map (·.1)) ops o = true) (hV : madeBy L s = some V) (hh : Holds (madeBy L) (o.looksAt ops) b w) : ∃ u, b.tmps[s]? = some u ∧ V u w := by
  simp only [looksB1, Bool.and_eq_true] at hB
  exact hh s (by simpa using hB.2) V hV
omit [RelOk X] in
theorem made_val1 (s : Tmp) (V : Value → World → Prop) (v : Value) (hB : looksB1 s (L.map (·.1)) ops o = true) (hV : madeBy L s = some V) (hw : Region.wanted o (yielded ops a.tmps) = true) (hd : o.dst.bind (madeBy L) = none)
    (hrun : ∀ u w, Ext X w0 w → V u w → (execOp (a.put (some s) u).eval o).run P w = .ok (.value v) w) (h : wpMade X P ops (madeBy L) w0 Q rest (a.put o.dst v)) : wpMade X P ops (madeBy L) w0 Q (o :: rest) a := by
  refine ⟨v, fun b w hx hb hh => ⟨fun _ => ?_, fun h2 => ?_⟩, h⟩
  · obtain ⟨u, hu, hVu⟩ := looksB1_holds hB hV hh
    rw [hd, looksB1_exec hB hb hu, hrun u w hx hVu]
    exact ⟨rfl, rfl⟩
  · rw [looksB1_wanted hB hb, hw] at h2; cases h2
omit [RelOk X] in
theorem made_call1 (s : Tmp) (V : Value → World → Prop) (v : Value) (f : Nat) (args : Value → Array Value) (hB : looksB1 s (L.map (·.1)) ops o = true) (hV : madeBy L s = some V) (hw : Region.wanted o (yielded ops a.tmps) = true) (hd : o.dst.bind (madeBy L) = none)
    (hrun : ∀ u w, (execOp (a.put (some s) u).eval o).run P w = .ok (.enter f (args u)) w) (hc : ∀ u w, Ext X w0 w → V u w → Calls P f (args u) w fun e w' => e = .returned v ∧ Ext X w w')
    (h : wpMade X P ops (madeBy L) w0 Q rest (a.put o.dst v)) : wpMade X P ops (madeBy L) w0 Q (o :: rest) a := by
  refine ⟨v, fun b w hx hb hh => ⟨fun _ => ?_, fun h2 => ?_⟩, h⟩
  · obtain ⟨u, hu, hVu⟩ := looksB1_holds hB hV hh
    rw [hd, looksB1_exec hB hb hu, hrun u w]
    exact ⟨rfl, hc u w hx hVu⟩
  · rw [looksB1_wanted hB hb, hw] at h2; cases h2
omit [RelOk X] in
/-- what is made out of one made thing -/
theorem made_new1 (s : Tmp) (V : Value → World → Prop) (t : Tmp) (V' : Value → World → Prop) (hB : looksB1 s (L.map (·.1)) ops o = true) (hV : madeBy L s = some V) (hw : Region.wanted o (yielded ops a.tmps) = true) (hd : o.dst = some t) (hV' : madeBy L t = some V')
    (hrun : ∀ u w, Ext X w0 w → V u w → ∃ u' w', (execOp (a.put (some s) u).eval o).run P w = .ok (.value u') w' ∧ Ext X w w' ∧ V' u' w')
    (h : wpMade X P ops (madeBy L) w0 Q rest (a.put o.dst undef)) : wpMade X P ops (madeBy L) w0 Q (o :: rest) a := by
  refine ⟨undef, fun b w hx hb hh => ⟨fun _ => ?_, fun h2 => ?_⟩, h⟩
  · obtain ⟨u, hu, hVu⟩ := looksB1_holds hB hV hh
    obtain ⟨u', w', h1, h2, h3⟩ := hrun u w hx hVu
    rw [hd, Option.bind_some, hV', looksB1_exec hB hb hu, h1]
    exact ⟨rfl, h2, h3, trivial⟩
  · rw [looksB1_wanted hB hb, hw] at h2; cases h2

/-- the end: the made things, one by one, in their slots -/
def ended : MadeL → World → Act → (Act → Prop) → Prop
  | [], _, a, K => K a
  | (t, V) :: L, w, a, K => ∀ u, V u w → ended L w (a.put (some t) u) K
theorem ended_elim (K : Act → Prop) (w : World) : ∀ (L : MadeL) (a b : Act), Same (madeBy L) b a → (L.map (·.1)).Nodup → (∀ t V, (t, V) ∈ L → ∃ u, b.tmps[t]? = some u ∧ V u w) → ended L w a K → K b
  | [], a, b, hs, _, _, h => by
    obtain rfl := hs.eq (fun _ => rfl)
    exact h
  | (t, V) :: L, a, b, hs, hn, hh, h => by
    obtain ⟨u, hu, hVu⟩ := hh t V (by simp)
    have h2 := h u hVu
    simp only [List.map_cons, List.nodup_cons] at hn
    refine ended_elim K w L _ b ?_ hn.2 (fun s V' hm => hh s V' (by simp [hm])) h2
    have h3 := hs.fix hu
    refine ⟨h3.1, h3.2.1, fun s hs' => h3.2.2 s ?_⟩
    show (if s = t then none else madeBy ((t, V) :: L) s) = none
    split
    · rfl
    · rename_i hne
      rw [madeBy_cons, if_neg (Ne.symm hne)]
      exact hs'
/-- THE LAW -/
theorem wp_made {id : Nat} {Q : Exit → Act → World → Prop} {a : Act} {w : World} {l : List Oper} (n : Nat) (L : MadeL) (hm : P.follows .mixedOrders = true)
    (hB : (Region.lexTailB .any l.toArray n && madeB .any l.toArray (L.map (·.1)) n && allMadeB l.toArray (L.map (·.1)) n) = true) (hL : ∀ p ∈ L, MadeOk X p.2) (hn : (L.map (·.1)).Nodup) (hrange : ∀ t ∈ L.map (·.1), t < a.tmps.size)
    (h : wpMade X P l.toArray (madeBy L) w (fun a' => ∀ w', Ext X w w' → ended L w' a' fun b => wpList P l.toArray Q (l.drop n) b w') (l.take n) a) :
    (Code.region id l.toArray true).wp P Q a w := by
  refine wp_made_tail n (L.map (·.1)) (madeBy L) hm hB (fun t V hV => List.mem_map.2 ⟨_, madeBy_mem hV, rfl⟩) (stays_by hL) hrange ?_
  have e : ∀ (rest : List Oper) (a : Act), wpMade X P l.toArray (madeBy L) w (fun a' => ∀ w', Ext X w w' → ended L w' a' fun b => wpList P l.toArray Q (l.drop n) b w') rest a →
      wpMade X P l.toArray (madeBy L) w (fun a' => ∀ b w', Ext X w w' → Same (madeBy L) b a' → (∀ t V, madeBy L t = some V → ∃ u, b.tmps[t]? = some u ∧ V u w') → wpList P l.toArray Q (l.drop n) b w') rest a := by
    intro rest
    induction rest with
    | nil =>
      intro a h b w' hx hs hh
      exact ended_elim _ w' L a b hs hn (fun t V hm => hh t V (madeBy_look hn hm)) (h w' hx)
    | cons o rest ih =>
      intro a h
      obtain ⟨v, h1, h2⟩ := h
      exact ⟨v, h1, ih _ h2⟩
  exact e _ _ h

end
end Go.Proofs.Ytfppddnfdinipaa.Fre
end
section
namespace Go.Proofs.Ytfppddnfdinipaa.Fre
open Go Go.RowKit
section
variable {P : Program} {ops : Array Oper} {L : MadeL} {w0 : World} {rest : List Oper} {o : Oper} {a : Act} {Q : Act → Prop} {X : World → World → Prop} [RelOk X]
def looksB2 (s r : Tmp) (keys : List Tmp) (ops : Array Oper) (o : Oper) : Bool := (match o.op with | .select _ _ => false | _ => true) && (o.op.operands.toList.all fun x => match x with | .tmp t => t == s || t == r || !keys.contains t | _ => true) &&
  (match o.guard with | some (g, _) => ((ops[g]?).bind (·.dst)).toList.all fun t => !keys.contains t | none => true) && (o.looksAt ops).contains s && (o.looksAt ops).contains r
theorem looksB2_wanted {s r : Tmp} {b : Act} (hB : looksB2 s r (L.map (·.1)) ops o = true) (hb : Same (madeBy L) b a) : Region.wanted o (yielded ops b.tmps) = Region.wanted o (yielded ops a.tmps) := by
  refine wanted_same hb fun g _ hg t ht => madeBy_none ?_
  simp only [looksB2, Bool.and_eq_true] at hB
  have h := hB.1.1.2
  rw [hg] at h
  simpa [ht] using h
theorem looksB2_exec {s r : Tmp} {u v : Value} {b : Act} (hB : looksB2 s r (L.map (·.1)) ops o = true) (hb : Same (madeBy L) b a) (hu : b.tmps[s]? = some u) (hv : b.tmps[r]? = some v) : execOp b.eval o = execOp ((a.put (some s) u).put (some r) v).eval o := by
  simp only [looksB2, Bool.and_eq_true] at hB
  refine execOp_congr o ?_ fun x hx => ?_
  · intro cs d e
    have h := hB.1.1.1.1
    rw [e] at h
    cases h
  · refine ((hb.fix hu).fix hv).eval fun t e => ?_
    have h := List.all_eq_true.1 hB.1.1.1.2 x (by simpa using hx)
    rw [e] at h
    simp only [Bool.or_eq_true, beq_iff_eq, Bool.not_eq_true'] at h
    rcases h with (h | h) | h
    · split
      · rfl
      · first | rfl | rw [if_pos h]
    · rw [if_pos h]
    · split
      · rfl
      · split
        · rfl
        · exact madeBy_none h
theorem looksB2_holds {s r : Tmp} {V V2 : Value → World → Prop} {b : Act} {w : World} (hB : looksB2 s r (L.map (·.1)) ops o = true) (hV : madeBy L s = some V) (hV2 : madeBy L r = some V2) (hh : Holds (madeBy L) (o.looksAt ops) b w) : (∃ u, b.tmps[s]? = some u ∧ V u w) ∧ ∃ u, b.tmps[r]? = some u ∧ V2 u w := by
  simp only [looksB2, Bool.and_eq_true] at hB
  exact ⟨hh s (by simpa using hB.1.2) V hV, hh r (by simpa using hB.2) V2 hV2⟩
omit [RelOk X] in
/-- what is made out of two made things -/
theorem made_new2 (s r : Tmp) (V V2 : Value → World → Prop) (t : Tmp) (V' : Value → World → Prop) (hB : looksB2 s r (L.map (·.1)) ops o = true) (hV : madeBy L s = some V) (hV2 : madeBy L r = some V2) (hw : Region.wanted o (yielded ops a.tmps) = true) (hd : o.dst = some t) (hV' : madeBy L t = some V')
    (hrun : ∀ u v w, Ext X w0 w → V u w → V2 v w → ∃ u' w', (execOp ((a.put (some s) u).put (some r) v).eval o).run P w = .ok (.value u') w' ∧ Ext X w w' ∧ V' u' w')
    (h : wpMade X P ops (madeBy L) w0 Q rest (a.put o.dst undef)) : wpMade X P ops (madeBy L) w0 Q (o :: rest) a := by
  refine ⟨undef, fun b w hx hb hh => ⟨fun _ => ?_, fun h2 => ?_⟩, h⟩
  · obtain ⟨⟨u, hu, hVu⟩, v, hv, hVv⟩ := looksB2_holds hB hV hV2 hh
    obtain ⟨u', w', h1, h2, h3⟩ := hrun u v w hx hVu hVv
    rw [hd, Option.bind_some, hV', looksB2_exec hB hb hu hv, h1]
    exact ⟨rfl, h2, h3, trivial⟩
  · rw [looksB2_wanted hB hb, hw] at h2; cases h2
end
end Go.Proofs.Ytfppddnfdinipaa.Fre
end
section
namespace Go.Proofs.Ytfppddnfdinipaa
open Go Go.RowKit
set_option maxRecDepth 100000
/-- all stays, but that rows behind B, of N cells that are told, become F's in their place -/
structure GrowR (B : Nat) (F : List Value) (N : Nat) (w w' : World) : Prop where
  os : w'.os = w.os
  tape : w'.tape = w.tape
  output : w'.output = w.output
  size : w.heap.size ≤ w'.heap.size
  block : ∀ k, k < w.heap.size → w'.heap[k]? = w.heap[k]? ∨ (B ≤ k ∧ N < F.length ∧ ∃ cs cs' e, w.heap[k]? = some (.cells cs e (0, 0)) ∧ w'.heap[k]? = some (.cells cs' e (0, 0)) ∧ cs'.size = cs.size ∧ cs.toList.take N = F.take N ∧ cs'.toList.take F.length = F)
variable {B : Nat} {F : List Value} {N : Nat}
theorem GrowR.of_below {w w' : World} (h : Below w.heap.size w w') : GrowR B F N w w' := ⟨h.os, h.tape, h.output, h.size, fun k hk => .inl (h.block k hk)⟩
theorem take_of_take {l F : List Value} {N : Nat} (h : l.take F.length = F) (hN : N < F.length) : l.take N = F.take N := by
  have h2 : (l.take F.length).take N = F.take N := by rw [h]
  rwa [List.take_take, Nat.min_eq_left (by omega)] at h2
instance : Fre.RelOk (GrowR B F N) where
  refl w := .of_below (Below.refl _ w)
  drew w := .of_below ((Below.refl _ w).drew)
  trans a b c h1 h2 := by
    refine ⟨h2.os.trans h1.os, h2.tape.trans h1.tape, h2.output.trans h1.output, Nat.le_trans h1.size h2.size, fun k hk => ?_⟩
    rcases h1.block k hk with e1 | ⟨hB, hN, cs, cs', e, q1, q2, q3, q4, q5⟩
    · rcases h2.block k (Nat.lt_of_lt_of_le hk h1.size) with e2 | ⟨hB, hN, cs, cs', e, q1, q2, q3, q4, q5⟩
      · exact .inl (e2.trans e1)
      · exact .inr ⟨hB, hN, cs, cs', e, e1.symm.trans q1, q2, q3, q4, q5⟩
    · rcases h2.block k (Nat.lt_of_lt_of_le hk h1.size) with e2 | ⟨_, _, ds, ds', e', r1, r2, r3, r4, r5⟩
      · exact .inr ⟨hB, hN, cs, cs', e, q1, e2.trans q2, q3, q4, q5⟩
      · rw [q2] at r1
        injection r1 with r1
        injection r1 with r1 r1'
        subst r1 r1'
        exact .inr ⟨hB, hN, cs, ds', e, q1, r2, r3.trans q3, q4, r5⟩
theorem GrowR.below {w w' : World} (h : GrowR w.heap.size F N w w') : Below w.heap.size w w' :=
  ⟨h.os, h.tape, h.output, h.size, fun k hk => (h.block k hk).elim id fun h => absurd h.1 (by omega)⟩
/-- the first row stays while another one grows -/
theorem own_first {u : Value} {n : Nat} {xs : List Value} {w w' : World} {ty : TypeId} {z : Nat} (h : w.ownsRow B ty z u n xs) (hxs : xs = F.take N) (hNn : N = n * z) (hx : GrowR B F N w w') : w'.ownsRow B ty z u n xs := by
  obtain ⟨hl, h⟩ := h
  rcases h with ⟨rfl, rfl⟩ | ⟨g, cap, cur, rfl, hg, hb, hn, hm, hs, ht⟩
  · exact ⟨hl, .inl ⟨rfl, rfl⟩⟩
  · have hlt : g < w.heap.size := (Array.getElem?_eq_some_iff.1 hb).1
    rcases hx.block g hlt with e | ⟨_, hN, cs, cs', e, q1, q2, q3, q4, q5⟩
    · exact ⟨hl, .inr ⟨g, cap, cur, rfl, hg, e.trans hb, hn, hm, hs, ht⟩⟩
    · rw [hb] at q1
      injection q1 with q1
      injection q1 with q1 q1'
      subst q1 q1'
      refine ⟨hl, .inr ⟨g, cap, cs', rfl, hg, q2, hn, hm, by rw [q3]; exact hs, ?_⟩⟩
      rw [← hNn, take_of_take q5 hN, hxs]
/-- and so does the one that has grown -/
theorem own_last {u : Value} {n : Nat} {w w' : World} {ty : TypeId} {z : Nat} (h : w.ownsRow B ty z u n F) (hx : GrowR B F N w w') : w'.ownsRow B ty z u n F := by
  obtain ⟨hl, h⟩ := h
  rcases h with ⟨rfl, rfl⟩ | ⟨g, cap, cur, rfl, hg, hb, hn, hm, hs, ht⟩
  · exact ⟨hl, .inl ⟨rfl, rfl⟩⟩
  · have hlt : g < w.heap.size := (Array.getElem?_eq_some_iff.1 hb).1
    rcases hx.block g hlt with e | ⟨_, hN, cs, cs', e, q1, q2, q3, q4, q5⟩
    · exact ⟨hl, .inr ⟨g, cap, cur, rfl, hg, e.trans hb, hn, hm, hs, ht⟩⟩
    · rw [hb] at q1
      injection q1 with q1
      injection q1 with q1 q1'
      subst q1 q1'
      refine ⟨hl, .inr ⟨g, cap, cs', rfl, hg, q2, hn, hm, by rw [q3]; exact hs, ?_⟩⟩
      rw [← hl]
      exact q5
theorem grow_runs {B' : Nat} {v : Value} {l : List Run} {w0 w : World} (h : RunsM w0 B' v l) (hb : B' ≤ w0.heap.size) (hB : B' ≤ B) (hx : GrowR B F N w0 w) : RunsM w B' v l :=
  h.alike fun k hk => (hx.block k (by omega)).elim id fun h => absurd h.1 (by omega)
theorem grow_blk {k : Nat} {t : TypeId} {cs : Array Value} {w0 w : World} (h : Blk w0 k t cs) (hB : k < B) (hx : GrowR B F N w0 w) : Blk w k t cs :=
  ((hx.block k h.lt).elim id fun h => absurd h.1 (by omega)).trans h
end Go.Proofs.Ytfppddnfdinipaa
end
section
namespace Go.Proofs.Ytfppddnfdinipaa
open Go Go.RowKit
set_option maxRecDepth 100000
variable {B : Nat} {F : List Value} {N : Nat}
/-- an empty row -/
def EmptyV (B : Nat) (u : Value) (w : World) : Prop := ∃ r, u = .slice (some ⟨r, 0, none⟩) 0 0 ∧ B ≤ r ∧ Blk w r 88 #[]
theorem EmptyV.stays {u : Value} {w w' : World} (h : EmptyV B u w) (hx : GrowR B F N w w') : EmptyV B u w' := by
  obtain ⟨r, rfl, hr, hb⟩ := h
  refine ⟨r, rfl, hr, ?_⟩
  rcases hx.block r hb.lt with e | ⟨_, hN, cs, cs', e, q1, q2, q3, q4, q5⟩
  · exact e.trans hb
  · have hb' : w.heap[r]? = some (.cells #[] 88 (0, 0)) := hb
    rw [q1] at hb'
    injection hb' with hb'
    injection hb' with hb' _
    subst hb'
    have : cs'.toList = [] := List.eq_nil_of_length_eq_zero (by simpa using q3)
    rw [this, List.take_nil] at q5
    subst q5
    simp at hN
theorem run_cells {W : World} {b off : Nat} {rs : List Run} (hc : ∀ j r, rs[j]? = some r → W.cell? ⟨b, off + j * 2, none⟩ = some (.int .i64 r.1) ∧ W.cell? ⟨b, off + j * 2 + 1, none⟩ = some (.int .i64 r.2)) : ∀ j u, (runCells rs)[j]? = some u → W.cell? ((⟨b, off, none⟩ : Addr).add j) = some u := by
  intro j u hu
  rw [Addr.add_mid]
  have hj : j < rs.length * 2 := by
    have := (List.getElem?_eq_some_iff.1 hu).1
    rwa [runCells_len] at this
  have hq : rs[j / 2]? = some rs[j / 2] := List.getElem?_eq_getElem (by omega)
  have h1 := hc _ _ hq
  have h2 := runCells_at rs _ _ hq
  rcases Nat.mod_two_eq_zero_or_one j with hz | hz
  · rw [show j = j / 2 * 2 by omega] at hu ⊢
    rw [h2.1] at hu
    rw [h1.1, hu]
  · rw [show j = j / 2 * 2 + 1 by omega] at hu ⊢
    rw [h2.2] at hu
    rw [← Nat.add_assoc, h1.2, hu]
/-- onto an empty row -/
theorem app_first {u : Value} {W : World} {A : Option Addr} {cp : Nat} {rs : List Run} {B' : Nat} (h : EmptyV B u W) (hB : B ≤ W.heap.size) (hm : RunsM W B' (.slice A rs.length cp) rs) (hl : rs.length ≤ 100000) :
    ∃ v' w', (Builtin.append_ #[73, 73] 73 #[u, .slice A rs.length cp]).run Try.prog W = .ok v' w' ∧ GrowR B F N W w' ∧ w'.ownsRow B 88 2 v' rs.length (runCells rs) := by
  obtain ⟨r, rfl, hr, hb⟩ := h
  have hown : W.ownsRow B 88 2 (.slice (some ⟨r, 0, none⟩) 0 0) 0 [] := ⟨rfl, .inr ⟨r, 0, #[], rfl, hr, hb, Nat.le_refl _, Nat.zero_le _, rfl, rfl⟩⟩
  obtain ⟨i, hi, hz0, hz1, hz2⟩ := info_parts info_run
  obtain ⟨A', cap, hv, hcap, hnil, hA, h64⟩ := hm
  injection hv with e1 _ e2
  subst e1 e2
  rcases Nat.eq_zero_or_pos rs.length with h0 | h0
  · obtain rfl := List.length_eq_zero_iff.1 h0
    cases A with
    | none =>
      obtain rfl := hnil rfl
      exact ⟨_, W, run_append_owned_none (P := Try.prog) (w := W) B 73 73 88 i 2 Try.underlying73 hi _ 0 [] hown, .of_below (Below.refl _ _), hown⟩
    | some ad =>
      have h := run_append_room_cells (P := Try.prog) (w := W) 73 73 88 i Try.underlying73 hi r 0 0 0 ad 0 cp [] (by simp) (fun j u hu => by simp at hu) (fun u hu => by cases hu) (Nat.le_refl _) (fun j hj => by simp at hj) (fun j hj => by simp at hj)
      exact ⟨_, _, h, .of_below (Below.refl _ _), hown⟩
  · obtain ⟨b, off, rfl, hbB, hc⟩ := hA h0
    have hcells := run_cells hc
    obtain ⟨v', w', k1, k2, k3, k4⟩ := run_appG (P := Try.prog) (w := W) B 73 73 88 i _ 2 16 Try.underlying73 hi hz0 hz1 hz2 rfl (by omega) _ 0 [] hown ⟨b, off, none⟩ rs.length cp (runCells rs) (runCells_len _) hcells (runCells_one rs) h0 (by simp only [maxLen]; omega) (by omega) hB
    refine ⟨v', w', k1, .of_below ?_, by simpa using k2⟩
    rcases k4 with ⟨g, cap, q1, q2⟩ | ⟨_, h⟩
    · injection q1 with _ _ q1
      subst q1 q2
      rcases owned_formN k2 with ⟨h, _⟩ | ⟨g', cap', cur, h, _, h2, _⟩
      · cases h
      · injection h with _ h3 h4
        omega
    · exact h
/-- onto the first row -/
theorem app_more {u : Value} {W : World} {A : Option Addr} {cp : Nat} {rs fs : List Run} {B' : Nat} (h : W.ownsRow B 88 2 u rs.length (runCells rs)) (hB : B ≤ W.heap.size) (hm : RunsM W B' (.slice A fs.length cp) fs) (hf : 0 < fs.length) (hl : rs.length + fs.length ≤ 100000) :
    ∃ v' w', (Builtin.append_ #[73, 73] 73 #[u, .slice A fs.length cp]).run Try.prog W = .ok v' w' ∧ GrowR B (runCells (rs ++ fs)) (rs.length * 2) W w' ∧ w'.ownsRow B 88 2 v' (rs.length + fs.length) (runCells (rs ++ fs)) := by
  obtain ⟨i, hi, hz0, hz1, hz2⟩ := info_parts info_run
  obtain ⟨A', cap, hv, hcap, hnil, hA, h64⟩ := hm
  injection hv with e1 _ e2
  subst e1 e2
  obtain ⟨b, off, rfl, hbB, hc⟩ := hA hf
  obtain ⟨v', w', k1, k2, k3, k4⟩ := run_appG (P := Try.prog) (w := W) B 73 73 88 i _ 2 16 Try.underlying73 hi hz0 hz1 hz2 rfl (by omega) _ rs.length (runCells rs) h ⟨b, off, none⟩ fs.length cp (runCells fs) (runCells_len _) (run_cells hc) (runCells_one fs) hf (by simp only [maxLen]; omega) (by omega) hB
  rw [← runCells_app] at k2
  refine ⟨v', w', k1, ?_, k2⟩
  rcases k4 with ⟨g, cap, rfl, rfl⟩ | ⟨_, h⟩
  · refine ⟨k3.os, k3.tape, k3.output, k3.size, fun k hk => ?_⟩
    by_cases hkg : k = g
    · subst hkg
      rcases h.2 with ⟨h, _⟩ | ⟨g1, c1, cs, q1, q2, q3, q4, q5, q6, q7⟩
      · cases h
      · rcases k2.2 with ⟨h, _⟩ | ⟨g2, c2, cs', r1, r2, r3, r4, r5, r6, r7⟩
        · cases h
        · injection q1 with q1 _ q1'
          injection r1 with r1 _ r1'
          injection q1 with q1
          injection r1 with r1
          injection q1 with q1
          injection r1 with r1
          subst q1 r1 q1' r1'
          have hF : (runCells (rs ++ fs)).length = (rs.length + fs.length) * 2 := k2.1
          refine .inr ⟨q2, by omega, cs, cs', _, q3, r3, by rw [r6, q6], ?_, by rw [hF]; exact r7⟩
          rw [q7, runCells_app, List.take_left' (runCells_len rs)]
    · exact .inl (k3.block k hk fun e => hkg (by have e : some g = some k := e.symm; injection e with e; exact e.symm))
  · exact .of_below h
end Go.Proofs.Ytfppddnfdinipaa
end
section
namespace Go.Proofs.Ytfppddnfdinipaa
open Go.RowKit Go.WideShapes Go.ChangeShapes
section
variable {H : Type} {enc : TypeId × Value → H} {P : Program}

theorem trod_int_any {e : TypeId} {k : IntKind} (he : P.underlying e = some (.int k)) (w w' : World) (b b' : Nat) (sp sp' : Nat → Bool) (hd hd' : Bool) (m : Nat) (cs : List Value) :
    DataW.trod enc P w b sp hd m e cs = DataW.trod enc P w' b' sp' hd' m e cs := by
  cases m with
  | zero => simp [DataW.trod]
  | succ m =>
    unfold DataW.trod
    rw [he]
    rcases cs with _ | ⟨v, _ | ⟨u, r⟩⟩
    · rfl
    · cases v <;> rfl
    · simp
theorem trod_ints_any {t e : TypeId} {n : Nat} {k : IntKind} (ht : P.underlying t = some (.array n e)) (he : P.underlying e = some (.int k)) (w w' : World) (b b' : Nat) (sp sp' : Nat → Bool) (hd hd' : Bool) (m : Nat) (cs : List Value) :
    DataW.trod enc P w b sp hd m t cs = DataW.trod enc P w' b' sp' hd' m t cs := by
  cases m with
  | zero => simp [DataW.trod]
  | succ m =>
    unfold DataW.trod
    simp only [ht]
    rw [show (fun i => DataW.trod enc P w b sp hd m e (List.take (P.cellsOf e) (List.drop (i * P.cellsOf e) cs))) = (fun i => DataW.trod enc P w' b' sp' hd' m e (List.take (P.cellsOf e) (List.drop (i * P.cellsOf e) cs))) from funext fun i => trod_int_any he ..]

/-- the byte that a cell holds -/
def byteOf : Value → UInt8
  | .int _ z => UInt8.ofNat z.toNat
  | _ => 0
theorem open_bytes {t e : TypeId} {n : Nat} {w : World} {r : Reach} {b0 b : Nat} {sp : Nat → Bool} {hd : Bool} {v : Value} {d : DataW H} {ps : List MemPlace} (ht : P.underlying t = some (.array n e)) (he : P.underlying e = some (.int .u8)) (h1 : P.cellsOf e = 1) (hn : P.cellsOf t = n)
    (hval : Value.okWide P w r b0 t v) (h : DataW.Trod enc P w b sp hd t v d ps) :
    ∃ l : List UInt8, v = .agg (bv l).toArray ∧ l.length = n ∧ ps = [] ∧ ∀ (w' : World) (b' : Nat) (sp' : Nat → Bool) (hd' : Bool), DataW.Trod enc P w' b' sp' hd' t v d [] := by
  obtain ⟨cs, rfl, hsz, _⟩ : ∃ cs, v = .agg cs ∧ cs.size = P.cellsOf t ∧ Row.okWide P w r b0 t cs := by
    simpa [Value.okWide, ht] using hval
  obtain ⟨fuel, hf⟩ := h
  obtain ⟨xs, m, rfl, hx, hl, hxs, hel⟩ := DataW.trod_array ht hf
  rw [h1] at hel
  have hc : ∀ i, i < n → ∃ z : Int, cs[i]? = some (.int .u8 z) ∧ xs[i]? = some (.lit (.int .u8 z), []) ∧ (Lit.int .u8 z).wf = true := by
    intro i hi
    have h2 := hel i hi
    rw [List.getElem?_eq_getElem (by omega)] at h2
    obtain ⟨z, e1, e2, e3⟩ := DataW.trod_int he h2
    refine ⟨z, ?_, by rw [List.getElem?_eq_getElem (by omega), e2], e3⟩
    have h0 : (((Value.agg cs).cells.toList.drop (i * 1)).take 1)[0]? = some (.int .u8 z) := by rw [e1]; rfl
    simpa [Value.cells] using h0
  have hps : ps = [] := by
    have h3 := congrArg Prod.snd hx
    simp only at h3
    rw [h3, List.flatMap_eq_nil_iff]
    intro y hy
    obtain ⟨i, hi⟩ := List.getElem?_of_mem hy
    have hi2 : i < n := by
      rw [← hxs]
      rcases Nat.lt_or_ge i xs.length with h | h
      · exact h
      · rw [List.getElem?_eq_none h] at hi; cases hi
    obtain ⟨z, _, e2, _⟩ := hc i hi2
    rw [e2] at hi
    injection hi with hi
    rw [← hi]
  let l : List UInt8 := (List.range n).map fun i => byteOf (cs.getD i undef)
  have hll : l.length = n := by simp [l]
  refine ⟨l, ?_, hll, hps, fun w' b' sp' hd' => ⟨m + 1, ?_⟩⟩
  · congr 1
    refine Array.ext_getElem? fun i => ?_
    by_cases hi : i < n
    · obtain ⟨z, e1, _, e3⟩ := hc i hi
      have hb := bounds_u8 e3
      rw [e1]
      simp only [bv, List.getElem?_toArray, List.getElem?_map, l, List.getElem?_range hi, Option.map_some, Array.getD_eq_getD_getElem?, e1, Option.getD_some, byteOf, UInt8.toNat_ofNat']
      congr 2
      omega
    · rw [Array.getElem?_eq_none (by omega), Array.getElem?_eq_none (by simp [bv, hll]; omega)]
  · rw [← hps, ← hf]
    exact trod_ints_any ht he ..
theorem ints_of_u8 {z : Int} (h : (Lit.int .u8 z).wf = true) : ∃ x : UInt8, z = (x.toNat : Int) := by
  have hb := bounds_u8 h
  exact ⟨UInt8.ofNat z.toNat, by rw [UInt8.toNat_ofNat']; omega⟩

/-- a law's answer: 'true', all arguments as they were, and all memory that was there as it was -/
theorem law_post {f : Func} {s : ChangeSpec} {fresh handsOn again : Bool} {W W' : World} {args : Array Value} {ds gs : List (DataW H)} {pa before : List MemPlace} {tb : TypeId}
    (hW : DataW.Whole enc P f.params.toList s.vars false W args.toList ds gs before) (hv : s.vars = []) (hfn : s.fn H (ds ++ gs) = { results := [.lit (.bool true)], args := ds }) (hr : f.resultTypes = #[tb]) (hu : P.underlying tb = some .bool)
    (hargs : ∀ sp : Nat → Bool, (∀ p ∈ before, sp p.block = true) → DataW.TrodAll enc P W' 0 sp true f.params.toList args.toList ds pa) (hps : before = pa) (hb : Below W.heap.size W W') :
    s.post enc P f false fresh handsOn again W args (.bool true) W' := by
  subst hps
  have hlt : ∀ p ∈ before, p.block < W.heap.size := fun p hp => hW.lt p hp
  have hold : ∀ p ∈ before, (fun b => decide (b < W.heap.size)) p.block = true := fun p hp => by simpa using hlt p hp
  have hres : ∀ (b : Nat) (sp : Nat → Bool) (hd : Bool), DataW.TrodAll enc P W' b sp hd f.resultTypes.toList ((Value.bool true).resultList f.resultTypes.size) (s.fn H (ds ++ gs)).results [] := by
    intro b sp hd
    rw [hfn, hr]
    exact trodAll_mk1 (shut_bool hu _)
  have hA : ∀ sp : Nat → Bool, (∀ p ∈ before, sp p.block = true) → DataW.TrodAll enc P W' 0 sp true f.params.toList args.toList (s.fn H (ds ++ gs)).args before := by
    intro sp h
    rw [hfn]
    exact hargs sp h
  have hV : ∀ sp : Nat → Bool, DataW.TrodVars enc P W' sp s.vars (s.fn H (ds ++ gs)).vars [] := by
    intro sp
    rw [hfn, hv]
    rfl
  have hok : ∀ (j : Nat) (t : TypeId) (r : Value), f.resultTypes[j]? = some t → ((Value.bool true).resultList f.resultTypes.size)[j]? = some r → Value.okWide P W' .any 0 t r := by
    exact ok_one hr rfl (okWide_bool_mk hu _)
  refine ⟨ds, gs, before, [], before, [], hW, hres _ _ _, hA _ hold, hV _, World.keptBut_mono (fun p hp => ⟨hp, ?_⟩) (hb.frame (· ∈ before)), fun _ => ?_⟩
  · simpa using hp
  · obtain ⟨_, _, _, _, _, hz, hn⟩ := hW
    refine ⟨hok, _, _, ([] ++ before) ++ [], ⟨[] ++ before, [], trodAll_append (hA _ (fun _ _ => rfl)) (hres _ _ _), hV _, rfl, ?_, ?_⟩, ?_⟩
    · intro b off hp
      have hin : MemPlace.cell b off ∈ before := by simpa using hp
      rw [hb.frozen (hlt _ hin)]
      exact hz b off hin
    · intro ha
      cases ha
    · intro p hp _
      simpa using hp
end
end Go.Proofs.Ytfppddnfdinipaa
end
section
namespace Go.Proofs.Ytfppddnfdinipaa
open Go.RowKit Go.WideShapes Go.ChangeShapes
theorem laidOut : laidOutB Try.prog = true := by kernel_rfl
section
variable {H : Type} {enc : TypeId × Value → H} {P : Program}
/-- all arguments read as they did, where nothing old has turned -/
theorem trodAll_stay (hl : laidOutB P = true) {W W' : World} (hb : Below W.heap.size W W') : ∀ {ts : List TypeId} {vs : List Value} {ds : List (DataW H)} {ps : List MemPlace}, (∀ t ∈ ts, P.readableRec t = true ∧ t < P.types.size) →
    DataW.TrodAll enc P W 0 (fun _ => true) true ts vs ds ps → (∀ x ∈ ps, x.block < W.heap.size) → DataW.TrodAll enc P W' 0 (fun b => decide (b < W.heap.size)) true ts vs ds ps
  | [], vs, ds, ps, _, h, _ => by
    obtain ⟨rfl, rfl, rfl⟩ := trodAll_nil h
    rfl
  | t :: ts, vs, ds, ps, ht, h, hlt => by
    obtain ⟨v, vs', d, ds', p, q, rfl, rfl, rfl, hd, hrest⟩ := trodAll_cons h
    have h1 := Below.trod hl (ht t (by simp)).1 (ht t (by simp)).2 hd hb (fun x hx => hlt x (by simp [hx]))
    have h2 := trodAll_stay hl hb (fun s hs => ht s (by simp [hs])) hrest (fun x hx => hlt x (by simp [hx]))
    exact ⟨p, q, h1, h2, rfl⟩
/-- a law's answer: 'true', all as it was -/
theorem law_end {f : Func} {s : ChangeSpec} {fresh handsOn : Bool} {W W' : World} {args : Array Value} {ds gs : List (DataW H)} {before : List MemPlace} {tb : TypeId} (hl : laidOutB P = true)
    (hW : DataW.Whole enc P f.params.toList s.vars false W args.toList ds gs before) (hv : s.vars = []) (hfn : s.fn H (ds ++ gs) = { results := [.lit (.bool true)], args := ds }) (hr : f.resultTypes = #[tb]) (hu : P.underlying tb = some .bool)
    (hp : f.params.toList.all (fun t => P.readableRec t && decide (t < P.types.size)) = true) (hb : Below W.heap.size W W') :
    s.post enc P f false fresh handsOn false W args (.bool true) W' := by
  have hW2 := hW
  obtain ⟨p, q, hA, hV, rfl, hz, hn⟩ := hW
  rw [hv] at hV
  obtain ⟨rfl, rfl⟩ := trodVars_none hV
  have hlt : ∀ x ∈ p ++ [], x.block < W.heap.size := fun x hx => hW2.lt x hx
  rw [List.append_nil] at hlt
  refine ⟨ds, [], p ++ [], [], p, [], hW2, ?_, ?_, ?_, World.keptBut_mono (fun x hx => ⟨hx, .inr (.inl (by simpa using hx))⟩) (hb.frame (· ∈ p ++ [])), fun h => by cases h⟩
  · rw [hfn, hr]
    exact trodAll_mk1 (shut_bool hu _)
  · rw [hfn]
    refine trodAll_stay hl hb (fun t ht => ?_) hA hlt
    have h := List.all_eq_true.1 hp t ht
    simpa using h
  · rw [hv]
    exact (by rw [hfn]; rfl)
theorem add_plain (b o j : Nat) : (⟨b, o, none⟩ : Addr).add j = ⟨b, o + j, none⟩ := by
  unfold Addr.add
  split
  · rename_i h; subst h; rfl
  · rfl
theorem cell_spot (w : World) (b o m : Nat) : w.cell? ⟨b, o, some m⟩ = none := by
  unfold World.cell?
  split <;> simp_all
/-- a slice of bytes that came in -/
theorem open_bslice {t e : TypeId} {w : World} {r : Reach} {b0 : Nat} {sp : Nat → Bool} {hd : Bool} {v : Value} {d : DataW H} {ps : List MemPlace} (ht : P.underlying t = some (.slice e)) (he : P.underlying e = some (.int .u8)) (hc : P.cellsOf e = 1)
    (hval : Value.okWide P w r b0 t v) (h : DataW.Trod enc P w 0 sp hd t v d ps) :
    ∃ (A : Option Addr) (cap : Nat) (l : List UInt8), v = .slice A l.length cap ∧ BytesAt w w.heap.size v l ∧ (A = none → cap = 0) ∧ ((d = .nil ∧ l = []) ∨ ∃ elems spare, d = .slice elems spare ∧ elems.length = l.length) := by
  obtain ⟨a0, len, cap, rfl⟩ := okWide_slice ht hval
  obtain ⟨fuel, hf⟩ := h
  rcases open_ints ht he hc hf with ⟨hcs, hx⟩ | ⟨a, len', cap', zs, hcs, _, hl, hm, hz, hx, hcell, hwz⟩
  · simp [Value.cells] at hcs
    obtain ⟨rfl, rfl, rfl⟩ := hcs
    simp only [Prod.mk.injEq] at hx
    obtain ⟨rfl, rfl⟩ := hx
    exact ⟨none, 0, [], rfl, ⟨none, 0, rfl, Nat.le_refl _, fun h => absurd h (by simp)⟩, fun _ => rfl, .inl ⟨rfl, rfl⟩⟩
  · simp [Value.cells] at hcs
    obtain ⟨rfl, rfl, rfl⟩ := hcs
    simp only [Prod.mk.injEq] at hx
    obtain ⟨rfl, rfl⟩ := hx
    have hlz : len ≤ zs.length := by rw [hz]; split <;> omega
    let l : List UInt8 := (zs.take len).map fun z => UInt8.ofNat z.toNat
    have hll : l.length = len := by simp [l]; omega
    have hcl : ∀ j, j < len → w.cell? (a.add j) = some (.int .u8 ((l.getD j 0).toNat : Int)) := by
      intro j hj
      rw [hcell j (by omega)]
      have hmem : zs.getD j 0 ∈ zs := by
        rw [List.getD_eq_getElem?_getD, List.getElem?_eq_getElem (by omega)]
        exact List.getElem_mem _
      have hb := bounds_u8 (hwz _ hmem)
      have e : l.getD j 0 = UInt8.ofNat (zs.getD j 0).toNat := by
        simp only [l, List.getD_eq_getElem?_getD, List.getElem?_map, List.getElem?_take_of_lt hj]
        rw [List.getElem?_eq_getElem (by omega)]
        rfl
      rw [e, UInt8.toNat_ofNat']
      congr 2
      omega
    refine ⟨some a, cap, l, by rw [hll], ⟨some a, cap, by rw [hll], by omega, fun h0 => ?_⟩, (fun h => by cases h), .inr ⟨_, _, rfl, ?_⟩⟩
    · have h1 := hcl 0 (by omega)
      have hlt := World.block_lt_of_cell? w _ h1
      obtain ⟨b, off, m⟩ := a
      cases m with
      | none =>
        refine ⟨b, off, rfl, by simpa [Addr.add] using hlt, fun j hj => ?_⟩
        have h2 := hcl j (by omega)
        rwa [add_plain] at h2
      | some m => exact absurd (show w.cell? ⟨b, off, some m⟩ = _ from h1) (by rw [cell_spot]; simp)
    · rw [hll]
      simp [lits, hlz]
/-- a slice of slices of bytes that came in -/
theorem open_brows {t e q : TypeId} {w : World} {r : Reach} {b0 : Nat} {hd : Bool} {v : Value} {d : DataW H} {ps : List MemPlace} (ht : P.underlying t = some (.slice e)) (he : P.underlying e = some (.slice q)) (hq : P.underlying q = some (.int .u8)) (ce : P.cellsOf e = 1) (cq : P.cellsOf q = 1)
    (hval : Value.okWide P w r b0 t v) (h : DataW.Trod enc P w 0 (fun _ => true) hd t v d ps) :
    ∃ (A : Option Addr) (cap : Nat) (ls : List (List UInt8)), v = .slice A ls.length cap ∧ PartsAt w w.heap.size v ls ∧ (A = none → cap = 0) ∧ (∀ j, j < ls.length → ∀ u, (∀ ad, A = some ad → w.cell? (ad.add j) = some u) → ∃ A' c', u = .slice A' (ls.getD j []).length c' ∧ (A' = none → c' = 0) ∧ c' ≤ maxLen) ∧
      (∀ elems spare, d = .slice elems spare → elems.length = ls.length) := by
  obtain ⟨a0, len, cap, rfl⟩ := okWide_slice ht hval
  obtain ⟨fuel, hf⟩ := h
  rcases Go.Deep.open_int_rows ht he hq ce cq hf with ⟨hcs, hx⟩ | ⟨a, len', cap', A, L, C, Z, hcs, _, hl, hm, hx, hrow⟩
  · simp [Value.cells] at hcs
    obtain ⟨rfl, rfl, rfl⟩ := hcs
    simp only [Prod.mk.injEq] at hx
    obtain ⟨rfl, rfl⟩ := hx
    exact ⟨none, 0, [], rfl, ⟨none, 0, rfl, Nat.le_refl _, fun h => absurd h (by simp)⟩, (fun _ => rfl), (fun j hj => absurd hj (by simp)), (fun _ _ h => by cases h)⟩
  · simp [Value.cells] at hcs
    obtain ⟨rfl, rfl, rfl⟩ := hcs
    simp only [Prod.mk.injEq] at hx
    obtain ⟨rfl, rfl⟩ := hx
    let row : Nat → List UInt8 := fun r => ((Z r).take (L r)).map fun z => UInt8.ofNat z.toNat
    let ls : List (List UInt8) := (List.range len).map row
    have hll : ls.length = len := by simp [ls]
    have hget : ∀ j, j < len → ls.getD j [] = row j := by intro j hj; simp [ls, List.getD, hj]
    have hrl : ∀ j, j < len → (row j).length = L j := by
      intro j hj
      obtain ⟨_, h1, _, h2, _⟩ := hrow j (by omega)
      simp [row]; omega
    have plain : ∀ (ad : Addr) (n : Nat) (f : Nat → Value), 0 < n → (∀ j, j < n → w.cell? (ad.add j) = some (f j)) → ∃ b off, ad = ⟨b, off, none⟩ ∧ b < w.heap.size ∧ ∀ j, j < n → w.cell? ⟨b, off + j, none⟩ = some (f j) := by
      intro ad n f hn hc
      have h1 := hc 0 hn
      obtain ⟨b, off, m⟩ := ad
      cases m with
      | none =>
        have hlt := World.block_lt_of_cell? w _ h1
        refine ⟨b, off, rfl, by simpa [Addr.add] using hlt, fun j hj => ?_⟩
        have h2 := hc j hj
        rwa [add_plain] at h2
      | some m => exact absurd (show w.cell? ⟨b, off, some m⟩ = _ from h1) (by rw [cell_spot]; simp)
    have hbytes : ∀ j, j < len → BytesAt w w.heap.size (.slice (A j) (L j) (C j)) (row j) := by
      intro j hj
      obtain ⟨_, h1, _, h2, h3, h4, h5⟩ := hrow j (by omega)
      refine ⟨A j, C j, by rw [hrl j hj], by rw [hrl j hj]; exact h1, fun h0 => ?_⟩
      rw [hrl j hj] at h0
      cases hA : A j with
      | none => have := h4 hA; omega
      | some ad =>
        obtain ⟨_, hc⟩ := h5 ad hA
        obtain ⟨b, off, rfl, hb, hcell⟩ := plain ad (L j) (fun c => .int .u8 ((Z j).getD c 0)) h0 (fun c hc' => hc c (by omega))
        refine ⟨b, off, rfl, hb, fun c hc' => ?_⟩
        rw [hrl j hj] at hc'
        rw [hcell c hc']
        have hmem : (Z j).getD c 0 ∈ Z j := by
          rw [List.getD_eq_getElem?_getD, List.getElem?_eq_getElem (by omega)]
          exact List.getElem_mem _
        have hb8 := bounds_u8 (h3 _ hmem)
        have e : (row j).getD c 0 = UInt8.ofNat ((Z j).getD c 0).toNat := by
          simp only [row, List.getD_eq_getElem?_getD, List.getElem?_map, List.getElem?_take_of_lt hc']
          rw [List.getElem?_eq_getElem (by omega)]
          rfl
        rw [e, UInt8.toNat_ofNat']
        congr 2
        omega
    refine ⟨some a, cap, ls, by rw [hll], ⟨some a, cap, by rw [hll], by omega, fun h0 => ?_⟩, (fun h => by cases h), fun j hj u hu => ?_, fun elems spare h => ?_⟩
    · rw [hll] at h0
      obtain ⟨b, off, rfl, hb, hcell⟩ := plain a len (fun j => .slice (A j) (L j) (C j)) h0 (fun j hj => (hrow j (by omega)).1)
      refine ⟨b, off, rfl, hb, fun j hj => ?_⟩
      rw [hll] at hj
      exact ⟨_, hcell j hj, by rw [hget j hj]; exact hbytes j hj⟩
    · rw [hll] at hj
      obtain ⟨h0, h1, h2, _, _, h4, _⟩ := hrow j (by omega)
      have h6 := hu a rfl
      rw [h0] at h6
      refine ⟨A j, C j, ?_, h4, h2⟩
      rw [hget j hj, hrl j hj]
      exact (Option.some.inj h6).symm
    · injection h with h _
      rw [← h, hll]
      simp
end
end Go.Proofs.Ytfppddnfdinipaa
end
