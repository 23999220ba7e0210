/- package blob: the field of runs. -/
import Derived.Test.YtajeohmmobgcjaaMEach
import Derived.RegionIn
import Derived.Shelf.RegionOpen
import Derived.Test.YtajeohmmobgcjaaMFieldA
namespace Go.Proofs.Ytajeohmmobgcjaa
open Go Go.RowKit Go.Shelf
attribute [local go_sem] Oper.semAt_some
theorem FieldAt.up {w w' : World} {g b many held : Nat} {m : Option Nat} (h : FieldAt w g b many held m) (hg : w'.heap[g]? = w.heap[g]?) (hb : w'.heap[b]? = w.heap[b]?) : FieldAt w' g b many held m := ⟨hg.trans h.blk, hb.trans h.map⟩
theorem FieldAt.lt {w : World} {g b many held : Nat} {m : Option Nat} (h : FieldAt w g b many held m) : g < w.heap.size ∧ b < w.heap.size := ⟨h.blk.lt, (Array.getElem?_eq_some_iff.1 h.map).1⟩
theorem FieldAt.below {w w' : World} {g b many held : Nat} {m : Option Nat} (h : FieldAt w g b many held m) (hb : Below w.heap.size w w') : FieldAt w' g b many held m := h.up (hb.block g h.lt.1) (hb.block b h.lt.2)
set_option maxRecDepth 100000
theorem made_not (l a d : Int) (h : ¬ rightP l a d) (v : Value) (w : World) : Calls Try.prog 52 #[.agg #[.int .i64 l, .int .i64 a, .int .i64 d], v] w fun e w' => e = .returned (.pointer none) ∧ Below w.heap.size w w' := by
  have hr := decide_eq_false h
  go_enter Try.func52, Try.ntmps52
  go_wp2_with fail
  refine (lright_any l a d _).mono ?_
  rintro e w' ⟨rfl, rfl⟩
  rw [hr]
  dsimp only
  go_wp2_with fail
  refine bodyPost_ret (v := .pointer none) (by simp [results, Try.f52, go_sem]) rfl ⟨rfl, ?_⟩
  exact (((Below.refl _ w).alloc (Nat.le_refl _) _).al _).al _
theorem u64_neg (x : Int) (h1 : -9223372036854775808 ≤ x) (h2 : x < 0) : IntKind.u64.wrap x = x + 18446744073709551616 := by
  simp [IntKind.wrap, IntKind.signed, IntKind.bits]
  omega
theorem u64_pos (x : Int) (h1 : 0 ≤ x) (h2 : x < 9223372036854775808) : IntKind.u64.wrap x = x := by
  simp [IntKind.wrap, IntKind.signed, IntKind.bits]
  omega
theorem made_fin {tmps : Array Value} {B : Nat} {W : World} {v : Value} {R : Ending → World → Prop} (h4 : tmps.getD 4 undef = .pointer (some ⟨B, 0, none⟩)) (hc : W.cell? ⟨B, 0, none⟩ = some v) (hR : R (.returned v) W) :
    bodyPostM Fence.wide 5 Try.prog Try.f52 R .ret { tmps := tmps, defers := [] } W := by
  have h4' : tmps[4]?.getD undef = .pointer (some ⟨B, 0, none⟩) := by simpa using h4
  exact ⟨v, by simp [results, Try.f52, go_sem, h4', hc], hR⟩
theorem made_finD {tmps : Array Value} {B D : Nat} {W : World} {v : Value} {R : Ending → World → Prop} (h4 : tmps.getD 4 undef = .pointer (some ⟨B, 0, none⟩)) (hc : W.cell? ⟨B, 0, none⟩ = some v) (hK : W.heap[D]? = some (.deferred (some []))) (hR : R (.returned v) (W.putObj D (.deferred none))) :
    bodyPostM Fence.wide 5 Try.prog Try.f52 R .ret { tmps := tmps, defers := [{ target := .collected D, args := #[] }] } W := by
  have h4' : tmps[4]?.getD undef = .pointer (some ⟨B, 0, none⟩) := by simpa using h4
  have hc' := cell_kept hc (grownBy_putObj' _ D (.deferred none)) (fun r e => by cases e; exact ⟨_, hK, rfl⟩)
  exact ⟨by simp, .inl ⟨_, _, rfl, run_takeDeferred hK, v, by simp [results, Try.f52, go_sem, h4', hc'], hR⟩⟩
/-- the sector that is told as the x'th -/
def secF (rs : List Run) (x : Nat) : Nat := (pos rs).getD x 0
theorem secF_range (rs : List Run) (k : Nat) (hk : k ≤ (pos rs).length) : (List.range k).map (secF rs) = (pos rs).take k := by
  apply List.ext_getElem
  · simp; omega
  · intro i h1 h2
    have hi : i < (pos rs).length := by simp at h1; omega
    simp [secF, List.getD, hi]
theorem secF_lt {rs : List Run} {d : Int} (h : ∀ r ∈ rs, okRun d r) (h64 : d ≤ 64) (x : Nat) : secF rs x < 64 := by
  unfold secF
  rw [List.getD]
  cases hx : (pos rs)[x]? with
  | none => show 0 < 64; omega
  | some y =>
    have := pos_lt h y (List.mem_of_getElem? hx)
    show y < 64
    omega
def MadeQ (l a d : Int) (rs : List Run) (w : World) (e : Ending) (w' : World) : Prop :=
  Below w.heap.size w w' ∧
      ((∃ g b m, e = .returned (.pointer (some ⟨g, 0, none⟩)) ∧ w.heap.size ≤ g ∧ w.heap.size ≤ b ∧ FieldAt w' g b d.toNat (pos rs).length m ∧ Bits (m.getD 0) (pos rs) ∧ apartP l a d rs) ∨ (e = .returned (.pointer none) ∧ ¬ apartP l a d rs))
set_option maxHeartbeats 2000000 in
theorem made_any (l a d : Int) (hR : rightP l a d) (h64 : d ≤ 64) (A : Option Addr) (cp : Nat) (rs : List Run) (hlen : rs.length ≤ 1000000) (w : World) (hrs : RunsM w w.heap.size (.slice A rs.length cp) rs) :
    Calls Try.prog 52 #[.agg #[.int .i64 l, .int .i64 a, .int .i64 d], .slice A rs.length cp] w (MadeQ l a d rs w) := by
  have hr := decide_eq_true hR
  have HR := hide hR
  have HRS := hide hrs
  have d1 : 1 ≤ d := hR.2.2.1.1
  clear hR hrs
  refine (callsIn_wide (n := 5)).1 ?_
  refine callsIn_of_wp_marks Try.func52 rfl trivial ?_ rfl
  simp only [Try.ntmps52, List.size_toArray, List.length_cons, List.length_nil, Nat.reduceAdd, Nat.reduceSub, Array.replicate_succ, Array.replicate_zero, List.push_toArray, List.append_toArray, List.nil_append, List.cons_append]
  refine wpIn_wide.2 ?_
  go_wp2_with fail
  refine (lright_any l a d _).mono ?_
  rintro e w' ⟨rfl, hw'⟩
  rw [hr]
  dsimp only
  have hb1 : Blk w' w.heap.size 23 #[.int .i64 l, .int .i64 a, .int .i64 d] := by
    rw [hw']
    exact ((Blk.new w _ _).alloc _).alloc _
  have hb2 : Blk w' (w.heap.size + 1) 84 #[.pointer none] := by
    rw [hw']
    have := (Blk.new (w.alloc (.cells #[.int .i64 l, .int .i64 a, .int .i64 d] 23)) 84 #[.pointer none]).alloc (.cells #[.int .i64 l, .int .i64 a, .int .i64 d] 23)
    rwa [size_alloc] at this
  have hB : Below w.heap.size w w' := by
    rw [hw']
    exact (((Below.refl _ w).alloc (Nat.le_refl _) _).al _).al _
  have c0 := hb1.cell 0
  have c1 := hb1.cell 1
  have c2 := hb1.cell 2
  have hlt1 := hb1.lt
  have H1 := hide (And.intro hb1 (And.intro hb2 hB))
  have hmm := @run_makeMap Try.prog
  clear hw' hb1 hb2 hB
  go_wp2_with fail
  have hb3 : FieldAt (((w'.alloc (.map #[] 0)).alloc (.cells #[.map (some w'.heap.size), .int .i64 d, .int .i64 0] 88)).alloc (.cells #[.pointer (some ⟨w'.heap.size + 1, 0, none⟩)] 84)) (w'.heap.size + 1) w'.heap.size d.toNat 0 none := by
    refine ⟨?_, ?_⟩
    · have := (Blk.new (w'.alloc (.map #[] 0)) 88 #[.map (some w'.heap.size), .int .i64 d, .int .i64 0]).alloc (.cells #[.pointer (some ⟨w'.heap.size + 1, 0, none⟩)] 84)
      rw [size_alloc] at this
      rw [show ((d.toNat : Nat) : Int) = d by omega]
      exact this
    · refine (Below.heap_alloc _ _ _ (by simp; omega)).trans ((Below.heap_alloc _ _ _ (by simp)).trans (World.alloc_heap_new w' _))
  have hb4 := Blk.new ((w'.alloc (.map #[] 0)).alloc (.cells #[.map (some w'.heap.size), .int .i64 d, .int .i64 0] 88)) 84 #[.pointer (some ⟨w'.heap.size + 1, 0, none⟩)]
  rw [size_alloc, size_alloc] at hb4
  have hbb : Below w'.heap.size w' (((w'.alloc (.map #[] 0)).alloc (.cells #[.map (some w'.heap.size), .int .i64 d, .int .i64 0] 88)).alloc (.cells #[.pointer (some ⟨w'.heap.size + 1, 0, none⟩)] 84)) := (((Below.refl _ _).alloc (Nat.le_refl _) _).al _).al _
  have hge : w.heap.size + 1 < w'.heap.size := H1.out.2.1.lt
  generalize ((w'.alloc (.map #[] 0)).alloc (.cells #[.map (some w'.heap.size), .int .i64 d, .int .i64 0] 88)).alloc (.cells #[.pointer (some ⟨w'.heap.size + 1, 0, none⟩)] 84) = W0 at hb3 hb4 hbb ⊢
  have h1 := H1.out
  have hbS := h1.1.below hbb h1.1.lt
  have hbR := h1.2.1.below hbb h1.2.1.lt
  have hB0 := h1.2.2.next hbb
  clear hbb h1 H1 c0 c1 c2 hlt1
  generalize w'.heap.size = s at hb3 hb4 hge ⊢
  have H0 := hide (And.intro hbS (And.intro hbR (And.intro hB0 (And.intro hb3 (And.intro hb4 hge)))))
  clear hbS hbR hB0 hb3 hb4 hge hmm
  obtain ⟨A', cp', hv, hcp, hnil, hrow, hr64⟩ := HRS.out
  injection hv with e1 e2 e3
  subst e1 e3
  have HROW := hide (And.intro hrow hr64)
  clear hrow hr64 HRS hnil hcp
  go_loopw [19] (fun i wr => ∃ k : Nat, k ≤ rs.length ∧ i = .int .i64 (k : Int) ∧ (∀ j r, j < k → rs[j]? = some r → okRun d r) ∧ Below W0.heap.size W0 wr) (fun i _ => rs.length - (intOf i).toNat)
  case atStart => exact ⟨0, by omega, rfl, (fun j r h => by omega), Below.refl _ _⟩
  case round =>
    obtain ⟨k, hk, rfl, hok, hB⟩ := hrel
    have h0 := H0.out
    have hbS := h0.1.below hB h0.1.lt
    have hbR := h0.2.1.below hB h0.2.1.lt
    have c2 := hbS.cell 2
    have hltS := hbS.lt
    have HOK := hide hok
    have HB := hide hB
    have HSR := hide (And.intro hbS hbR)
    by_cases hk2 : k < rs.length
    · obtain ⟨r, hrk⟩ : ∃ r, rs[k]? = some r := ⟨_, List.getElem?_eq_getElem hk2⟩
      obtain ⟨bb, off, hA, hbn, hcs⟩ := HROW.out.1 (by omega)
      subst hA
      have hbs : bb < W0.heap.size := by have := h0.2.2.1.size; omega
      have e1 := (hB.cell (p := ⟨bb, off + k * 2, none⟩) hbs).trans ((h0.2.2.1.cell (p := ⟨bb, off + k * 2, none⟩) hbn).trans (hcs k r hrk).1)
      have e2 := (hB.cell (p := ⟨bb, off + k * 2 + 1, none⟩) hbs).trans ((h0.2.2.1.cell (p := ⟨bb, off + k * 2 + 1, none⟩) hbn).trans (hcs k r hrk).2)
      have n1 : (k : Int) < (rs.length : Int) := by omega
      have n2 : (0 : Int) ≤ (k : Int) := by omega
      have hr := HROW.out.2 r (List.mem_of_getElem? hrk)
      have HRK := hide hrk
      clear hrk hcs hbs h0 hB hok hbS hbR
      obtain ⟨⟨r1, r2⟩, r3, r4⟩ := hr
      have cR := HSR.out.2.cell 0
      have fR := HSR.out.2.frozen 0
      have ltR := HSR.out.2.lt
      have fin : ∀ (tmps : Array Value) (X : Obj), ¬ okRun d r → tmps.getD 4 undef = .pointer (some ⟨w.heap.size + 1, 0, none⟩) → bodyPostM Fence.wide 5 Try.prog Try.f52 (MadeQ l a d rs w) .ret { tmps := tmps, defers := [] } ((wr.setCell ⟨w.heap.size + 1, 0, none⟩ (.pointer none)).alloc X) := by
        intro tmps X hno h4
        refine made_fin h4 (((HSR.out.2.set_ 0 (.pointer none)).alloc X).cell 0) ⟨?_, .inr ⟨rfl, fun h => hno (h.2.1 r (List.mem_of_getElem? HRK.out))⟩⟩
        exact ((H0.out.2.2.1.next HB.out).setCell (p := ⟨w.heap.size + 1, 0, none⟩) (by show w.heap.size ≤ w.heap.size + 1; omega) _).al X
      have FIN := hide fin
      have ud := u64_pos d (by omega) (by omega)
      clear fin
      by_cases q1 : r.1 < 0
      · have u1 := u64_neg r.1 r1 q1
        have q2 : d ≤ r.1 + 18446744073709551616 := by omega
        go_wp2
        refine FIN.out _ _ (fun h => by have := h.1; omega) ?_
        rfl
      · have u1 := u64_pos r.1 (by omega) (by omega)
        by_cases q2 : d ≤ r.1
        · go_wp2
          refine FIN.out _ _ (fun h => by have := h.2.1; omega) ?_
          rfl
        · by_cases q3 : r.2 < 1
          · go_wp2
            refine FIN.out _ _ (fun h => by have := h.2.2.1; omega) ?_
            rfl
          · by_cases q4 : d - r.1 < r.2
            · go_wp2
              refine FIN.out _ _ (fun h => by have := h.2.2.2; omega) ?_
              rfl
            · go_wp2
              refine ⟨⟨k + 1, by omega, by go_num, fun j q hj hq => ?_, HB.out.al _⟩, by simp [intOf]; omega⟩
              by_cases hjk : j = k
              · subst hjk
                rw [HRK.out] at hq
                injection hq with hq
                subst hq
                exact ⟨by omega, by omega, by omega, by omega⟩
              · exact HOK.out j q (by omega) hq
    · obtain rfl : k = rs.length := by omega
      clear hbS hbR hok h0 hB
      go_wp2_with fail
      refine (each_any _ _ _ _).mono ?_
      rintro e w2 ⟨rfl, hw2⟩
      have hb1 : Below wr.heap.size wr w2 := by rw [hw2]; exact (Below.refl _ wr).alloc (Nat.le_refl _) _
      have hBd : Blk w2 wr.heap.size 24 #[.slice A rs.length cp] := by rw [hw2]; exact Blk.new _ _ _
      have hF : FieldAt w2 (s + 1) s d.toNat 0 none := (H0.out.2.2.2.1.below HB.out).below hb1
      have h5 : Blk w2 (s + 1 + 1) 84 #[.pointer (some ⟨s + 1, 0, none⟩)] := (H0.out.2.2.2.2.1.below HB.out H0.out.2.2.2.2.1.lt).below hb1 ((H0.out.2.2.2.2.1.below HB.out H0.out.2.2.2.2.1.lt)).lt
      have h4 : Blk w2 (w.heap.size + 1) 84 #[.pointer none] := HSR.out.2.below hb1 HSR.out.2.lt
      have hBw : Below w.heap.size w w2 := (H0.out.2.2.1.next HB.out).next hb1
      have hsz : s + 1 + 1 < w2.heap.size := h5.lt
      have hall : ∀ r ∈ rs, okRun d r := fun r hr => by
        obtain ⟨j, hj, e⟩ := List.getElem_of_mem hr
        exact HOK.out j r hj (by rw [List.getElem?_eq_getElem hj, e])
      have hws : wr.heap.size < w2.heap.size := hBd.lt
      have hge : w.heap.size + 1 < s := H0.out.2.2.2.2.2
      have hI0 : ∃ m, FieldAt w2 (s + 1) s d.toNat ([] : List Nat).length m ∧ Bits (m.getD 0) (([] : List Nat).map (secF rs)) ∧ (([] : List Nat).map (secF rs)).Nodup ∧ w2.cell? ⟨s + 1 + 1, 0, none⟩ = some (.pointer (some ⟨s + 1, 0, none⟩)) ∧ (w2.cell? ⟨w.heap.size + 1, 0, none⟩ = some (.pointer none) ∧ w2.frozen? ⟨w.heap.size + 1, 0, none⟩ = false) :=
        ⟨none, hF, Bits.nil, List.nodup_nil, h5.cell 0, h4.cell 0, h4.frozen 0⟩
      have cells : 0 < rs.length → ∃ b off, A = some ⟨b, off, none⟩ ∧ b < w2.heap.size ∧ ¬ b = s + 1 ∧ ∀ j r, rs[j]? = some r → w2.cell? ⟨b, off + j * 2, none⟩ = some (.int .i64 r.1) ∧ w2.cell? ⟨b, off + j * 2 + 1, none⟩ = some (.int .i64 r.2) := by
        intro h
        obtain ⟨b, off, e1, e2, e3⟩ := HROW.out.1 h
        exact ⟨b, off, e1, by omega, by omega, fun j r hj => ⟨(hBw.cell (p := ⟨b, off + j * 2, none⟩) e2).trans (e3 j r hj).1, (hBw.cell (p := ⟨b, off + j * 2 + 1, none⟩) e2).trans (e3 j r hj).2⟩⟩
      have HI := hide (And.intro hI0 hBw)
      have HC := hide (And.intro cells (And.intro hall (hBd.cell 0)))
      have HZ := hide (And.intro hsz (And.intro hws hge))
      clear hb1 hBd hF h5 h4 hBw hsz hall hws hge hI0 cells HB HSR HOK HROW hw2
      dsimp only
      go_wp2_with fail
      refine (wpIn_wide (n := 5)).1 ?_
      refine wpIn_rangeFunc_ownG (F := Fence.wide) (n := 5) (α := Nat) rfl (by omega) (gf := 84) (lb := #[.pointer (some ⟨wr.heap.size, 0, none⟩)]) rfl trivial (enters_of Try.func84 (by kernel_rfl) rfl)
        (each_stops (n₀ := w2.heap.size) (S := fun k => k = s + 1) Fence.wide 4 trivial rfl (by omega) wr.heap.size cp A rs hlen (fun r hr => by have := HC.out.2.1 r hr; unfold okRun at this; omega) w2 (Nat.le_refl _) HZ.out.2.1 HC.out.2.2 HC.out.1) KeepsI.trans (KeepsI.putObj (Nat.le_refl _)) (Below.refl _ _) (fun _ => rfl)
        (fun pre W => (∃ m, FieldAt W (s + 1) s d.toNat pre.length m ∧ Bits (m.getD 0) (pre.map (secF rs)) ∧ (pre.map (secF rs)).Nodup ∧ W.cell? ⟨s + 1 + 1, 0, none⟩ = some (.pointer (some ⟨s + 1, 0, none⟩)) ∧ (W.cell? ⟨w.heap.size + 1, 0, none⟩ = some (.pointer none) ∧ W.frozen? ⟨w.heap.size + 1, 0, none⟩ = false)) ∧ Below w.heap.size w W)
        (fun c pre W => (c = .ret ∧ ¬ (pre.map (secF rs)).Nodup ∧ W.cell? ⟨w.heap.size + 1, 0, none⟩ = some (.pointer none)) ∧ Below w.heap.size w W)
        (OwnFrom.and (fun pre X Y row hs hg hr => by
          obtain ⟨m, h1, h2, h3, h4, h5, h6⟩ := hs
          have hr' : ∀ r, row = some r → ∃ o : Obj, X.heap[r]? = some o ∧ o.isCells = false := fun r e => (hr r e).2
          exact ⟨m, h1.up (hg.block _ h1.lt.1 fun e => by have := (hr _ e.symm).1; have := HZ.out.1; omega) (hg.block _ h1.lt.2 fun e => by have := (hr _ e.symm).1; have := HZ.out.1; omega), h2, h3, cell_kept h4 hg hr', cell_kept h5 hg hr', (frozen_kept h5 hg hr').trans h6⟩) (ownFrom_below (Nat.le_refl _) (by have := HZ.out; omega)))
        (fun c => OwnFrom.and (Own.from (fun s A B row hs hg hr => ⟨hs.1, hs.2.1, cell_kept hs.2.2 hg hr⟩) _) (ownFrom_below (Nat.le_refl _) (by have := HZ.out; omega)))
        HI.out
        (fun x => { tmps := #[Value.agg #[Value.int .i64 l, Value.int .i64 a, Value.int .i64 d], Value.slice A rs.length cp, Value.pointer (some ⟨w.heap.size, 0, none⟩), undef, Value.pointer (some ⟨w.heap.size + 1, 0, none⟩), Value.pointer (some ⟨s + 1 + 1, 0, none⟩), undef, u7, Value.int .i64 ((secF rs x : Nat) : Int), Value.agg #[Value.int .i64 l, Value.int .i64 a, Value.int .i64 d], Value.bool true, Value.bool false, Value.map (some s), Value.pointer (some ⟨w.heap.size, 2, none⟩), Value.int .i64 d, Value.agg #[Value.map (some s), Value.int .i64 d, Value.int .i64 0], Value.pointer (some ⟨s + 1, 0, none⟩), Value.slice A rs.length cp, Value.int .i64 (rs.length : Int), Value.int .i64 (rs.length : Int), Value.bool false, u21, u22, u23, u24, u25, u26, u27, u28, u29, u30, u31, u32, u33, u34, u35, u36, u37, u38, u39, u40, u41, u42, u43, u44, u45, Value.slice A rs.length cp, Value.func (.func 84) #[] #[.pointer (some ⟨wr.heap.size, 0, none⟩)], Value.int .i64 ((secF rs x : Nat) : Int), undef, undef, undef, undef, undef], defers := [] }) ?assign ?body ?done ?stop
      case assign =>
        intro l y W K hK
        dsimp only [posE]
        gi_wp2
        exact hK
      case body =>
        rintro l0 pre x W ⟨⟨m, hF, hBt, hN, h5, h4, f4⟩, hB⟩ hlen2
        have hx := secF_lt HC.out.2.1 h64 x
        have hne := hF.ne
        have HW := hide (And.intro hF (And.intro hBt (And.intro hN (And.intro h5 (And.intro h4 (And.intro f4 hB))))))
        clear hF hBt hN hB f4
        by_cases ht : (m.getD 0).testBit (secF rs x) = true
        · have hdup : ¬ ((pre ++ [x]).map (secF rs)).Nodup := by
            have h := HW.out.2.1.2 _ hx
            rw [ht] at h
            have hmem := List.contains_iff_mem.1 h.symm
            rw [List.map_append, List.nodup_append]
            intro hn
            exact hn.2.2 _ hmem _ (by simp) rfl
          gi_wp2_with fail
          refine ⟨trivial, (CallsIn.inRound l0 (callsIn_wide.2 (hold_no (secF rs x) hx W HW.out.1 HW.out.2.1.1 ht))).mono ?_⟩
          rintro e W1 ⟨rfl, rfl⟩
          have h4 := HW.out.2.2.2.2.1
          have f4 := HW.out.2.2.2.2.2.1
          dsimp only
          gi_wp2_with fail
          refine ⟨(KeepsOthers.setCell _ _ _).from _, ⟨rfl, hdup, World.cell?_setCell_same' _ _ _ (by rw [h4]; rfl)⟩, ?_⟩
          exact HW.out.2.2.2.2.2.2.setCell (p := ⟨w.heap.size + 1, 0, none⟩) (by show w.heap.size ≤ w.heap.size + 1; omega) _
        · have ht : (m.getD 0).testBit (secF rs x) = false := by simpa using ht
          have hnd : ((pre ++ [x]).map (secF rs)).Nodup := by
            have h := HW.out.2.1.2 _ hx
            rw [ht] at h
            rw [List.map_append, List.nodup_append]
            refine ⟨HW.out.2.2.1, by simp, fun u hu v hv e => ?_⟩
            subst e
            have hv : u = secF rs x := by simpa using hv
            subst hv
            rw [List.contains_iff_mem.2 hu] at h
            cases h
          have hpl : pre.length ≤ 64 := by
            have := nodup_short (n := 64) HW.out.2.2.1 (fun y hy => by obtain ⟨z, _, rfl⟩ := List.mem_map.1 hy; exact secF_lt HC.out.2.1 h64 z)
            rwa [List.length_map] at this
          gi_wp2_with fail
          refine ⟨trivial, (CallsIn.inRound l0 (callsIn_wide.2 (hold_yes (secF rs x) hx W HW.out.1 HW.out.2.1.1 (by omega) ht))).mono ?_⟩
          rintro e W1 ⟨rfl, hF1, hs1, ho1, hbel⟩
          have H1 := hide (And.intro hF1 (And.intro hs1 (And.intro ho1 hbel)))
          clear hF1 hs1 ho1 hbel
          dsimp only
          gi_wp2_with fail
          obtain ⟨hF1, hs1, ho1, hbel⟩ := H1.out
          obtain ⟨hF, hBt, hN, h5, h4, f4, hB⟩ := HW.out
          have hz := HZ.out
          have e5 : W1.heap[s + 1 + 1]? = W.heap[s + 1 + 1]? := ho1 _ (by omega) (by omega)
          have e4 : W1.heap[w.heap.size + 1]? = W.heap[w.heap.size + 1]? := ho1 _ (by omega) (by omega)
          have hm : (mapObj m).isCells = false := by cases m <;> rfl
          refine ⟨⟨by omega, fun k o hk ho _ => (ho1 k (by omega) (by omega)).trans ho⟩, ⟨by omega, fun k o hk hS ho hc => ?_, fun k cs fr hk ho => (ho1 k (by omega) (by omega)).trans ho⟩, ⟨some (setBit (m.getD 0) (secF rs x)), ?_, ?_, hnd, (World.cell?_of_block e5).trans h5, (World.cell?_of_block e4).trans h4, (World.frozen?_of_block e4).trans f4⟩, ?_⟩
          · by_cases hks : k = s
            · subst hks
              rw [hF.map] at ho
              injection ho with ho
              subst ho
              rw [hm] at hc
              cases hc
            · exact (ho1 k hS hks).trans ho
          · rw [List.length_append]
            exact hF1
          · rw [List.map_append]
            exact hBt.add hx
          · exact ⟨hbel.os.trans hB.os, hbel.tape.trans hB.tape, hbel.output.trans hB.output, by have := hB.size; omega, fun k hk => (ho1 k (by omega) (by omega)).trans (hB.block k hk)⟩
      case done =>
        rintro D ys W hD rfl ⟨⟨m, hF, hBt, hN, h5, h4, f4⟩, hB⟩ hK
        rw [secF_range rs _ (Nat.le_refl _), List.take_length] at hBt hN
        rw [List.length_range] at hF
        have HW := hide (And.intro hF (And.intro hBt (And.intro hN hB)))
        have hz := HZ.out
        have hlt4 := World.block_lt_of_cell? W _ h4
        clear hF hBt hN hB
        go_wp2_with fail
        obtain ⟨hF, hBt, hN, hB⟩ := HW.out
        have hDW : D < W.heap.size := (Array.getElem?_eq_some_iff.1 hK).1
        have hK5 : (W.setCell ⟨w.heap.size + 1, 0, none⟩ (.pointer (some ⟨s + 1, 0, none⟩))).heap[D]? = some (.deferred (some [])) := (KeepsOthers.setCell _ _ _).same D _ hK rfl
        have hk : ∀ k, k ≠ w.heap.size + 1 → k ≠ D → ((W.setCell ⟨w.heap.size + 1, 0, none⟩ (.pointer (some ⟨s + 1, 0, none⟩))).putObj D (.deferred none)).heap[k]? = W.heap[k]? := fun k h1 h2 =>
          (World.putObj_heap_other h2).trans (Below.heap_setCell W ⟨w.heap.size + 1, 0, none⟩ _ k h1)
        refine made_finD ?hg (World.cell?_setCell_same' _ _ _ (by rw [h4]; rfl)) hK5 ⟨?_, .inl ⟨s + 1, s, m, rfl, by omega, by omega, hF.up (hk _ (by omega) (by omega)) (hk _ (by omega) (by omega)), hBt, HR.out, HC.out.2.1, hN⟩⟩
        case hg => rfl
        exact (hB.setCell (p := ⟨w.heap.size + 1, 0, none⟩) (by show w.heap.size ≤ w.heap.size + 1; omega) _).grown (grownBy_putObj' _ D (.deferred none)) (by have := hB.size; simp; omega) (fun k e => by cases e; omega)
      case stop =>
        rintro D c' pre W hD ⟨k, hk, rfl⟩ ⟨⟨rfl, hdup, h4⟩, hB⟩ hK
        refine wpIn_wide.2 ?_
        have HW := hide (And.intro hdup hB)
        have hz := HZ.out
        clear hdup hB
        go_wp2_with fail
        refine made_finD ?hg h4 hK ⟨?_, .inr ⟨rfl, fun h => HW.out.1 ?_⟩⟩
        case hg => rfl
        · exact HW.out.2.grown (grownBy_putObj' _ D (.deferred none)) HW.out.2.size (fun k e => by cases e; omega)
        · rw [secF_range rs _ (by omega)]
          exact List.Pairwise.sublist (List.take_sublist _ _) h.2.2
theorem made_all (l a d : Int) (h64 : rightP l a d → d ≤ 64) (v : Value) (rs : List Run) (hlen : rs.length ≤ 1000000) (w : World) (hrs : RunsM w w.heap.size v rs) :
    Calls Try.prog 52 #[.agg #[.int .i64 l, .int .i64 a, .int .i64 d], v] w (MadeQ l a d rs w) := by
  by_cases hR : rightP l a d
  · obtain ⟨A, cp, rfl, h⟩ := hrs
    exact made_any l a d hR (h64 hR) A cp rs hlen w ⟨A, cp, rfl, h⟩
  · refine (made_not l a d hR v w).mono ?_
    rintro e w' ⟨rfl, hb⟩
    exact ⟨hb, .inr ⟨rfl, fun h => hR h.1⟩⟩
end Go.Proofs.Ytajeohmmobgcjaa
