/- spencekit.ApartBytes: rows of bytes that lie apart are told to. spencelaw24: PickLeast: the walk. small cases in memory: what of them stays while rows and cases are written. slices of slices, of things of many cells. small cases: the case under way, its rows: how each step leaves them. spencelaw24: PickSmall: the walk. spencelaw24.PickSmall is true, and leaves all as it was. No condition. -/
import Derived.Test.YtfppddnfdinipaaMX8
import Derived.Test.YtfppddnfdinipaaExec
import Derived.Test.YtfppddnfdinipaaBase2
import Derived.Test.YtfppddnfdinipaaMX1
import Derived.Test.YtfppddnfdinipaaRows
section
namespace Go.Proofs.Ytfppddnfdinipaa.ApI
open Go Go.RowKit
set_option maxRecDepth 100000 in
set_option maxHeartbeats 1000000 in
theorem putInts_any (g R n n1 c1 : Nat) (A1 : Option Addr) (v : Value) (us : List Value) (hn : n ≤ 100000) (w : World) (hR : R ≤ w.heap.size) (hg : R ≤ g) (hb : Blk w g 130 (bagOf v)) (ho : w.ownsRow R 33 1 v n us) :
    Calls Try.prog 52 #[.pointer (some ⟨g, 0, none⟩), .slice A1 n1 c1] w fun e w' => e = .returned (.tuple #[]) ∧ ∃ v', Blk w' g 130 (bagOf v') ∧ w'.ownsRow R 33 1 v' (n + 1) (us ++ [.slice A1 n1 c1]) ∧ Below R w w' := by
  obtain ⟨ir, hir, rz0, rz1, rz2⟩ := info_parts info_rowI
  have c5 := (hb.cell 2).trans (bag_five v)
  have hlt := hb.lt
  have hne := owned_ne ho hb (by decide)
  have H := hide (And.intro hb (And.intro ho hne))
  clear hb ho hne
  go_enter Try.func52, Try.ntmps52
  go_wp2_with (at_builtin; (refine wpList_app (o := ⟨some 11, _, _, _, _, _⟩) rfl (.tmp 8) (.tmp 10) 44 rfl R 33 ir (.slice none 0 0) 24 Try.underlying44 hir rz0 rz1 rz2 rfl v n us (H.out.2.1.alloc _) _ 1 1 [.slice A1 n1 c1] (src_one _ _ _ rfl) ?h1 ?h2 ?h3 rfl rfl ?_))
  case h1 => simp only [maxLen]; omega
  case h2 => omega
  case h3 => rw [size_alloc]; omega
  intro v2 w2 own2 gr2 _ _
  have hb2 := (H.out.1.alloc (.cells #[.slice A1 n1 c1] 33)).grown gr2 (fun e => H.out.2.2 e.symm)
  have hbel : Below R w w2 := ((Below.refl R w).alloc hR _).grown gr2 (by rw [size_alloc]; omega) (fun q hq => (owned_lt H.out.2.1 hq).1)
  obtain ⟨A2, k2, rfl⟩ := owned_slice own2
  have c2 := (hb2.cell 2).trans (bag_five v)
  have f2 := hb2.frozen 2
  have hlt2 := hb2.lt
  have H2 := hide (And.intro hb2 (And.intro own2 hbel))
  clear hb2 own2 gr2 hbel c5
  go_wp2_with fail
  go_end0
  refine ⟨rfl, .slice A2 (n + 1) k2, ?_, ?_, H2.out.2.2.setCell (by exact hg) _⟩
  · have h1 := H2.out.1.set_ 2 (.slice A2 (n + 1) k2)
    rwa [bag_set] at h1
  · exact owned_keep H2.out.2.1 fun q hq _ => Below.heap_setCell w2 _ _ q (by rintro rfl; exact owned_ne H2.out.2.1 H2.out.1 (by decide) hq)
theorem range_get (us : Nat → Value) (m j : Nat) (h : j < m) : ((List.range m).map us)[j]? = some (us j) := by simp [h]
set_option maxRecDepth 100000 in
set_option maxHeartbeats 1000000 in
theorem apartInts_any (R q m cap : Nat) (us : Nat → Value) (ns : Nat → Nat) (L0 : Nat → List Int) (hm0 : 0 < m) (hm : m ≤ 1000) (w : World) (hR : R ≤ w.heap.size) (hq : q < w.heap.size) (hr0 : Rows8 w R q m us ns L0) (hp : Parted q m us ns) :
    Calls Try.prog 17 #[.slice (some ⟨q, 0, none⟩) m cap] w fun e w' => e = .returned (.bool true) ∧ Turned (RS m us) w w' := by
  obtain ⟨g, hg⟩ : ∃ g, g = w.heap.size := ⟨_, rfl⟩
  have HG := hide hg
  have HX := hide (And.intro hr0 hp)
  obtain ⟨w0, hw0⟩ : ∃ w0, w0 = w.alloc (.cells (bagOf (.slice none 0 0)) 130) := ⟨_, rfl⟩
  have hb0 : Blk w0 g 130 (bagOf (.slice none 0 0)) := by rw [hw0, hg]; exact Blk.new _ _ _
  have hbel0 : Below g w w0 := by rw [hw0, hg]; exact (Below.refl _ _).alloc (Nat.le_refl _) _
  have HW := hide hw0
  have H0 := hide (And.intro hb0 hbel0)
  clear hg hr0 hp hw0 hb0 hbel0
  go_enter Try.func17, Try.ntmps17
  go_wp2_with fail
  rw [← HG.out]
  go_loopw [4] (fun v wr => ∃ (k : Nat) (vb : Value), k ≤ m ∧ v = .int .i64 (k : Int) ∧ Blk wr g 130 (bagOf vb) ∧ wr.ownsRow g 33 1 vb k ((List.range k).map us) ∧ Below g w wr) (fun v _ => m - (intOf v).toNat)
  case atStart =>
    have h := H0.out; rw [HW.out] at h
    exact ⟨0, .slice none 0 0, by omega, rfl, h.1, ⟨rfl, .inl ⟨rfl, rfl⟩⟩, h.2⟩
  case round =>
    obtain ⟨k, vb, hk, rfl, hb, ho, hbel⟩ := hrel; have hgs : g ≤ wr.heap.size := by have := hbel.size; have := HG.out; omega
    have HY := hide (And.intro hb (And.intro ho hbel)); clear hb ho hbel H0 HW; by_cases hkm : k < m
    · have n1 : (0 : Int) ≤ (k : Int) := by omega
      have n2 : (k : Int) < (m : Int) := by omega
      obtain ⟨A, c, hu⟩ := owned_slice (HX.out.1.own k hkm); have cq := (HY.out.2.2.cell (p := ⟨q, k, none⟩) (by show q < g; have := HG.out; omega)).trans (HX.out.1.cell k hkm)
      rw [hu] at cq
      have HU := hide hu; clear hu; go_wp2_with (go_at_call 52; refine (putInts_any g g k (ns k) c A vb ((List.range k).map us) (by omega) _ hgs (Nat.le_refl _) HY.out.1 HY.out.2.1).mono ?_; rintro e w1 ⟨rfl, v1, hb1, ho1, hbel1⟩; have H1 := hide (And.intro hb1 (And.intro ho1 hbel1)); clear hb1 ho1 hbel1); go_roundw
      case rel =>
        refine ⟨k + 1, v1, by omega, by go_num, H1.out.1, ?_, HY.out.2.2.trans H1.out.2.2⟩
        rw [List.range_succ, List.map_append, List.map_cons, List.map_nil, HU.out]; exact H1.out.2.1
      case measure => simp [intOf]; omega
    · obtain rfl : m = k := by omega
      obtain ⟨q2, cap2, hvb, _⟩ := own_place HY.out.2.1 hm0; have ho := HY.out.2.1; rw [hvb] at ho
      have hwg : w.heap.size ≤ wr.heap.size := HY.out.2.2.size; have hr2 : Rows8 wr R q2 m us ns L0 := ⟨fun j hj => owned_keep (HX.out.1.own j hj) fun b _ hlt => HY.out.2.2.block b (by have := HG.out; omega), fun j hj => (own_cell ho j hj).1.trans (range_get us m j hj)⟩
      have hp2 : Parted q2 m us ns := ⟨HX.out.2.dis, by
        rintro ⟨j, hj, hg⟩
        have h1 := (owned_lt (HX.out.1.own j hj) hg).2; have h2 : g ≤ q2 := (owned_lt ho rfl).1; have := HG.out; omega, HX.out.2.small⟩
      have hb2 := HY.out.1; rw [hvb] at hb2
      have HZ := hide (And.intro hr2 (And.intro hp2 hb2)); have hRw : R ≤ wr.heap.size := by omega
      clear ho hr2 hp2 hb2 hvb; go_wp2_with (go_at_call 53; refine (bagApart_any R q2 m cap2 g us ns L0 hm0 hm _ hRw HZ.out.1 HZ.out.2.1 HZ.out.2.2).mono ?_; rintro e w1 ⟨rfl, ht1⟩; have H1 := hide ht1; clear ht1); go_ret
      have hbw : Below w.heap.size w wr := by rw [← HG.out]; exact HY.out.2.2
      exact ⟨rfl, (Turned.of_below hbw (RS m us)).trans H1.out⟩
end Go.Proofs.Ytfppddnfdinipaa.ApI
end
section
namespace Go.Proofs.Ytfppddnfdinipaa
open Go Go.RowKit Go.Maps
set_option maxRecDepth 100000
theorem OwnI.slice_ {N : Nat} {w : World} {u : Value} {l : List Nat} (h : OwnI N w u l) : ∃ A c, u = .slice A l.length c := by
  rcases owned_formN h with ⟨rfl, h0, _⟩ | ⟨g, cap, cur, rfl, _⟩
  · exact ⟨none, 0, by rw [h0]⟩
  · exact ⟨_, _, rfl⟩
theorem OwnI.ivz_ {N : Nat} {w : World} {u : Value} {l : List Nat} (h : OwnI N w u l) : w.ownsRow N 3 1 u l.length (ivz (l.map fun k => ((k : Nat) : Int))) := by
  have e : ivz (l.map fun k => ((k : Nat) : Int)) = iv l := by simp [ivz, iv]
  rw [e]
  exact h
set_option maxHeartbeats 8000000 in
theorem pickLeast_any (w : World) (v : Cvs) (c : CaseP) (hl : LightC c) (hC : CaseAt w.heap.size w v c) (f : Int) (hf9 : -9223372036854775808 ≤ f ∧ f ≤ 9223372036854775807) :
    Calls Try.prog 3 #[.agg (caseC v).toArray, .int .i64 f] w fun e w' => e = .returned (.bool true) ∧ Below w.heap.size w w' := by
  have ho : okH v.own := by rw [hC.own]; exact hC.okO
  have hsz0 := csz ho
  obtain ⟨w1, hw1⟩ : ∃ w1, w1 = w.alloc (.cells (caseC v).toArray 29) := ⟨_, rfl⟩
  have hb1 : Below w.heap.size w w1 := by rw [hw1]; exact (Below.refl _ w).alloc (Nat.le_refl _) _
  have hk1 : Blk w1 w.heap.size 29 (caseC v).toArray := by rw [hw1]; exact Blk.new _ _ _
  have HC1 := hide (And.intro (show CaseAt w1.heap.size w1 v c from (hC.alike hb1.block).widen hb1.size) (And.intro hk1 hb1))
  have HW1 := hide hw1
  clear hb1 hk1 hC hw1
  go_enter Try.func3, Try.ntmps3
  go_wp2_with (first | (refine wpList_value (o := ⟨some 2, _, _, _, _, _⟩) rfl (.pointer (some ⟨w.heap.size, 0, none⟩)) w1 (by rw [HW1.out]; kernel_rfl) ?_) | (refine wpList_value (o := ⟨some 15, _, _, _, _, _⟩) rfl (.agg (caseC v).toArray) w1 (exec_load_blk (o := ⟨some 15, _, _, _, _, _⟩) 29 (.tmp 2) rfl w.heap.size rfl 29 _ _ w1 HC1.out.2.1 Try.underlying29 rfl hsz0) ?_))
  refine (great_any w1 v c hl HC1.out.1).mono ?_
  rintro e w2 ⟨rfl, hb⟩
  have HC2 := hide (And.intro (show CaseAt w2.heap.size w2 v c from (HC1.out.1.alike hb.block).widen hb.size) (And.intro (show Blk w2 w.heap.size 29 (caseC v).toArray from HC1.out.2.1.below hb HC1.out.2.1.lt) (show Below w.heap.size w w2 from HC1.out.2.2.trans (Below.mono hb HC1.out.2.2.size))))
  clear hb
  dsimp only
  by_cases hg : 120 < c.size
  · have hd : decide (120 < c.size) = true := decide_eq_true hg
    rw [hd]; go_wp2_with fail; refine (awake24_any w2).mono ?_; rintro e w9 ⟨rfl, hb⟩; dsimp only; have HE := hide (show Below w.heap.size w w9 from HC2.out.2.2.trans (Below.mono hb HC2.out.2.2.size)); clear hb; go_wp2_with fail; go_ret
    exact ⟨rfl, HE.out⟩
  · have hd : decide (120 < c.size) = false := decide_eq_false hg
    rw [hd]; have hc : c.size ≤ 120 := by omega
    clear hd hg; by_cases hk : f > 300
    · go_wp2_with fail
      refine (awake24_any w2).mono ?_; rintro e w9 ⟨rfl, hb⟩; dsimp only; have HE := hide (show Below w.heap.size w w9 from HC2.out.2.2.trans (Below.mono hb HC2.out.2.2.size)); clear hb; go_wp2_with fail; go_ret
      exact ⟨rfl, HE.out⟩
    · go_wp2_with (refine wpList_value (o := ⟨some 22, _, _, _, _, _⟩) rfl (.agg (caseC v).toArray) w2 (exec_load_blk (o := ⟨some 22, _, _, _, _, _⟩) 29 (.tmp 2) rfl w.heap.size rfl 29 _ _ w2 HC2.out.2.1 Try.underlying29 rfl hsz0) ?_)
      refine (lent_any w2 v c hc HC2.out.1).mono ?_; rintro e w3 ⟨v', rfl, hc', hl', hb⟩; have HC3 := hide (And.intro (show CaseAt w3.heap.size w3 v c from (HC2.out.1.alike hb.block).widen hb.size) (And.intro (show Blk w3 w.heap.size 29 (caseC v).toArray from HC2.out.2.1.below hb HC2.out.2.1.lt) (show Below w.heap.size w w3 from HC2.out.2.2.trans (Below.mono hb HC2.out.2.2.size)))); have HV3 := hide (And.intro hc' hl'); clear hb hc' hl'; dsimp only; have hov : okH v'.own := by rw [HV3.out.1.own]; exact HV3.out.1.okO
      have hszv := csz hov; have hallv := case_all HV3.out.1; go_wp2_with (first | ((with_reducible refine wpList_box (o1 := ⟨some 5, _, _, _, _, _⟩) (o2 := ⟨none, _, _, _, _, _⟩) rfl rfl 29 (.tmp 5) (.tmp 23) ?_ zcL.toArray (caseC v').toArray ?_ hszv ?_ ?_ ?_ ?_ ?_); rfl; kernel_rfl; (simp only [List.size_toArray, caseC_len hov]; kernel_rfl); exact hallv; rfl; rfl; intro w4 hm4 hb4; have H4 := hide (And.intro hm4 hb4); clear hm4 hb4; simp only [Act.put, List.setIfInBounds_toArray, List.set_cons_zero, List.set_cons_succ]) | (refine wpList_value (o := ⟨some 25, _, _, _, _, _⟩) rfl (.agg (caseC v').toArray) w4 (exec_load_blk (o := ⟨some 25, _, _, _, _, _⟩) 29 (.tmp 5) rfl w3.heap.size rfl 29 _ _ w4 H4.out.1 Try.underlying29 rfl hszv) ?_))
      have HC4 := hide (And.intro (show CaseAt w4.heap.size w4 v c from (HC3.out.1.alike H4.out.2.block).widen H4.out.2.size) (And.intro (show Blk w4 w.heap.size 29 (caseC v).toArray from HC3.out.2.1.below H4.out.2 HC3.out.2.1.lt) (show Below w.heap.size w w4 from HC3.out.2.2.trans (Below.mono H4.out.2 HC3.out.2.2.size)))); have HV4 := hide (And.intro (show CaseAt w4.heap.size w4 v' c from (HV3.out.1.alike H4.out.2.block).widen H4.out.2.size) (And.intro (show LentAt w4 v' c from HV3.out.2.below H4.out.2) (show Blk w4 w3.heap.size 29 (caseC v').toArray from H4.out.1))); have HB4 := hide (Below.refl w4.heap.size w4); clear H4 HV3 hallv; obtain ⟨R, hR⟩ : ∃ R, R = leastB c f := ⟨_, rfl⟩; obtain ⟨L, N, E⟩ := R
      have hL9 : L.length ≤ 1000000 := by
        have h := congrArg (fun r => r.1) hR
        have h : L = (leastB c f).1 := h; rw [h]; exact least_len hc f
      have HQ := hide hR; clear hR; refine (least_any w4 v' c hc ((HV4.out.1.alike HB4.out.block).widen HB4.out.size) f hf9).mono ?_; rintro e w5 ⟨u6, rfl, ho6, hb⟩; rw [← HQ.out] at ho6 ⊢
      have HB5 := hide (show Below w4.heap.size w4 w5 from HB4.out.trans (Below.mono hb HB4.out.size)); obtain ⟨A6, c6, rfl⟩ := OwnI.slice_ ho6; have HO6 := hide (show OwnI w4.heap.size w5 (.slice A6 L.length c6) L from ho6); clear hb ho6; dsimp only; go_wp2_with (refine wpList_value (o := ⟨some 32, _, _, _, _, _⟩) rfl (.agg (caseC v).toArray) w5 (exec_load_blk (o := ⟨some 32, _, _, _, _, _⟩) 29 (.tmp 2) rfl w.heap.size rfl 29 _ _ w5 (HC4.out.2.1.below HB5.out HC4.out.2.1.lt) Try.underlying29 rfl hsz0) ?_)
      refine (rcase_any w5 v c hc ((HC4.out.1.alike HB5.out.block).widen HB5.out.size)).mono ?_; rintro e w6 ⟨v2, rfl, h2, hb⟩; have HB6 := hide (show Below w4.heap.size w4 w6 from HB5.out.trans (Below.mono hb HB5.out.size)); have HB56 := hide hb; have HR6 := hide h2; clear hb h2; dsimp only; go_wp2_with fail; refine (rleast_any w6 v2 c hc HR6.out f hf9).mono ?_; rintro e w7 ⟨u9, rfl, ho9, hb⟩; rw [← HQ.out] at ho9 ⊢
      have HB7 := hide (show Below w4.heap.size w4 w7 from HB6.out.trans (Below.mono hb HB6.out.size)); have HB67 := hide hb; obtain ⟨A9, c9, rfl⟩ := OwnI.slice_ ho9; have HO9 := hide (show OwnI 0 w7 (.slice A9 L.length c9) L from ho9); clear hb ho9; dsimp only; go_wp2_with (refine wpList_value (o := ⟨some 40, _, _, _, _, _⟩) rfl (.agg (caseC v').toArray) w7 (exec_load_blk (o := ⟨some 40, _, _, _, _, _⟩) 29 (.tmp 5) rfl w3.heap.size rfl 29 _ _ w7 (HV4.out.2.2.below HB7.out HV4.out.2.2.lt) Try.underlying29 rfl hszv) ?_)
      refine (least_any w7 v' c hc ((HV4.out.1.alike HB7.out.block).widen HB7.out.size) f hf9).mono ?_; rintro e w8 ⟨u12, rfl, ho12, hb⟩; rw [← HQ.out] at ho12 ⊢
      have HB8 := hide (show Below w4.heap.size w4 w8 from HB7.out.trans (Below.mono hb HB7.out.size)); obtain ⟨A12, c12, rfl⟩ := OwnI.slice_ ho12; have HO12 := hide (show OwnI w7.heap.size w8 (.slice A12 L.length c12) L from ho12); have H78 := hide hb; clear hb ho12; dsimp only; go_wp2_with fail; have H57 := hide (show w5.heap.size ≤ w7.heap.size by have := HB56.out.size; have := HB67.out.size; omega)
      have HO68 := hide (show OwnI w4.heap.size w8 (.slice A6 L.length c6) L from owned_keepN (owned_keepN (owned_keepN HO6.out fun g _ hl => HB56.out.block g hl) fun g _ hl => HB67.out.block g hl) fun g _ hl => H78.out.block g hl)
      have HO98 := hide (show OwnI 0 w8 (.slice A9 L.length c9) L from owned_keepN HO9.out fun g _ hl => H78.out.block g hl)
      refine (sameInts_any (L.map fun k => ((k : Nat) : Int)) (L.map fun k => ((k : Nat) : Int)) (by rw [List.length_map]; exact hL9) (by rw [List.length_map]; exact hL9) (.slice A6 L.length c6) (.slice A9 L.length c9) w8 (OwnI.ints HO68.out) (OwnI.ints HO98.out)).mono ?_
      rintro e w9 ⟨rfl, hb⟩; rw [decide_eq_true rfl]; have HB9 := hide (show Below w4.heap.size w4 w9 from HB8.out.trans (Below.mono hb HB8.out.size)); have H89 := hide hb; clear hb; dsimp only; obtain ⟨w10, hw10⟩ : ∃ w10, w10 = w9.alloc (.cells #[.slice A6 L.length c6, .slice A12 L.length c12] 33) := ⟨_, rfl⟩; have hb : Below w9.heap.size w9 w10 := by rw [hw10]; exact (Below.refl _ w9).alloc (Nat.le_refl _) _
      have hk10 : Blk w10 w9.heap.size 33 #[.slice A6 L.length c6, .slice A12 L.length c12] := by rw [hw10]; exact Blk.new _ _ _
      have HB10 := hide (show Below w4.heap.size w4 w10 from HB9.out.trans (Below.mono hb HB9.out.size)); have HO6X := hide (show OwnI w4.heap.size w10 (.slice A6 L.length c6) L from owned_keepN (owned_keepN HO68.out fun g _ hl => H89.out.block g hl) fun g _ hl => hb.block g hl)
      have HO12X := hide (show OwnI w7.heap.size w10 (.slice A12 L.length c12) L from owned_keepN (owned_keepN HO12.out fun g _ hl => H89.out.block g hl) fun g _ hl => hb.block g hl)
      have H10 := hide (And.intro hk10 hb); have HW10 := hide hw10; clear hk10 hb hw10; go_wp2_with fail; rw [← HW10.out]; obtain ⟨us, hus⟩ : ∃ us : Nat → Value, us = fun j => if j = 0 then .slice A6 L.length c6 else .slice A12 L.length c12 := ⟨_, rfl⟩
      have u0 : us 0 = .slice A6 L.length c6 := by rw [hus]; rfl
      have u1 : us 1 = .slice A12 L.length c12 := by rw [hus]; rfl
      have h2 : ∀ j, j < 2 → j = 0 ∨ j = 1 := fun j hj => by omega
      have hrows : ApI.Rows8 w10 w4.heap.size w9.heap.size 2 us (fun _ => L.length) (fun _ => L.map fun k => ((k : Nat) : Int)) := by
        refine ⟨fun j hj => ?_, fun j hj => ?_⟩
        · rcases h2 j hj with rfl | rfl
          · rw [u0]; exact OwnI.ivz_ HO6X.out
          · rw [u1]; exact owned_baseN (OwnI.ivz_ HO12X.out) fun g hg => by have := (owned_ltN HO12X.out hg).1; have := HB7.out.size; omega
        · rcases h2 j hj with rfl | rfl
          · rw [u0, H10.out.1.cell]; rfl
          · rw [u1, H10.out.1.cell]; rfl
      have h05 : ∀ g, (us 0).ownBlock = some g → w4.heap.size ≤ g ∧ g < w7.heap.size := fun g hg => by
        rw [u0] at hg
        exact ⟨(owned_ltN HO6X.out hg).1, by have := (owned_ltN HO6.out hg).2; have := H57.out; omega⟩
      have h15 : ∀ g, (us 1).ownBlock = some g → w7.heap.size ≤ g ∧ g < w9.heap.size := fun g hg => by
        rw [u1] at hg
        exact ⟨(owned_ltN HO12X.out hg).1, by have := (owned_ltN HO12.out hg).2; have := H89.out.size; omega⟩
      have h79 : w7.heap.size ≤ w9.heap.size := by have := H78.out.size; have := H89.out.size; omega
      have hpart : ApI.Parted w9.heap.size 2 us (fun _ => L.length) := by
        refine ⟨fun i j hi hj hij g hg hg2 => ?_, ?_, fun j hj => hL9⟩
        · rcases h2 i hi with rfl | rfl <;> rcases h2 j hj with rfl | rfl
          · exact hij rfl
          · have := h05 g hg; have := h15 g hg2; omega
          · have := h15 g hg; have := h05 g hg2; omega
          · exact hij rfl
        · rintro ⟨j, hj, hg⟩
          rcases h2 j hj with rfl | rfl
          · have := h05 _ hg; omega
          · have := h15 _ hg; omega
      have hRS : ∀ g, ApI.RS 2 us g → w4.heap.size ≤ g := by
        rintro g ⟨j, hj, hg⟩
        have := HB7.out.size; rcases h2 j hj with rfl | rfl
        · exact (h05 g hg).1
        · have := (h15 g hg).1; omega
      refine (ApI.apartInts_any w4.heap.size w9.heap.size 2 2 us (fun _ => L.length) (fun _ => L.map fun k => ((k : Nat) : Int)) (by decide) (by decide) w10 HB10.out.size H10.out.1.lt hrows hpart).mono ?_
      rintro e w11 ⟨rfl, ht⟩; have HB11 := hide (show Below w4.heap.size w4 w11 from HB10.out.trans ⟨ht.os, ht.tape, ht.output, ht.size, fun k hk => ht.block k (by have := HB10.out.size; omega) fun hs => by have := hRS k hs; omega⟩)
      clear ht hrows hpart h05 h15 hRS h2 u0 u1 hus h79; dsimp only; go_wp2_with (first | (refine wpList_value_w (o := ⟨some 66, _, _, _, _, _⟩) (by kernel_rfl) (.agg (caseC v').toArray) w11 (exec_load_blk (o := ⟨some 66, _, _, _, _, _⟩) 29 (.tmp 5) rfl w3.heap.size rfl 29 _ _ w11 (HV4.out.2.2.below HB11.out HV4.out.2.2.lt) Try.underlying29 rfl hszv) ?_) | (refine wpList_value_w (o := ⟨some 67, _, _, _, _, _⟩) (by kernel_rfl) (.agg (caseC v).toArray) w11 (exec_load_blk (o := ⟨some 67, _, _, _, _, _⟩) 29 (.tmp 2) rfl w.heap.size rfl 29 _ _ w11 (HC4.out.2.1.below HB11.out HC4.out.2.1.lt) Try.underlying29 rfl hsz0) ?_))
      refine (kept_any w11 v' v c hc ((HV4.out.1.alike HB11.out.block).widen HB11.out.size) (HV4.out.2.1.below HB11.out) ((HC4.out.1.alike HB11.out.block).widen HB11.out.size)).mono ?_; rintro e w12 ⟨rfl, hb⟩; have HB12 := hide (show Below w4.heap.size w4 w12 from HB11.out.trans (Below.mono hb HB11.out.size)); clear hb; dsimp only; go_wp2_with fail; refine (awake24_any w12).mono ?_; rintro e w13 ⟨rfl, hb⟩; have HB13 := hide (show Below w4.heap.size w4 w13 from HB12.out.trans (Below.mono hb HB12.out.size)); clear hb; dsimp only; go_wp2_with fail; go_ret
      exact ⟨rfl, HC4.out.2.2.trans (Below.mono HB13.out HC4.out.2.2.size)⟩
end Go.Proofs.Ytfppddnfdinipaa
end
section
namespace Go.Proofs.Ytfppddnfdinipaa
open Go Go.RowKit Go.Maps
set_option maxRecDepth 100000
def PQ (w : World) (v : Value) (ps : List Pth) : Prop := ∃ R, OwnP R w v ps
theorem pq_ok (w0 : World) : QOk w0 PQ pathsLay where
  n1 := rfl
  keep h hk := by
    obtain ⟨R, h1, h2⟩ := h; refine ⟨R, ?_, h2⟩; rcases owned_formN h1 with ⟨rfl, h4, h5⟩ | ⟨g, cap, cur, rfl, hbg, hnc, hcm, hg, hcs, htake, _⟩
    · exact ⟨h1.1, .inl ⟨rfl, h4⟩⟩
    · exact ⟨h1.1, .inr ⟨g, cap, cur, rfl, hbg, hk.typ g cur _ (.inl rfl) hg, hnc, hcm, hcs, htake⟩⟩
  at_ h _ := by
    obtain ⟨R, h⟩ := h; exact h.at_
  one h := by
    obtain ⟨R, h1, _⟩ := h; rcases owned_formN h1 with ⟨rfl, _⟩ | ⟨g, cap, cur, rfl, _⟩
    · exact ⟨_, _, _, rfl⟩
    · exact ⟨_, _, _, rfl⟩
/-- blocks of all types stay, but of cases and of rows of rows -/
structure Keep4 (w w' : World) : Prop where
  size : w.heap.size ≤ w'.heap.size
  typ : ∀ k cs e, e ≠ 29 → e ≠ 57 → Blk w k e cs → Blk w' k e cs
theorem Keep4.trans {w w' w'' : World} (h1 : Keep4 w w') (h2 : Keep4 w' w'') : Keep4 w w'' := ⟨Nat.le_trans h1.size h2.size, fun k cs e a b h => h2.typ k cs e a b (h1.typ k cs e a b h)⟩
theorem Keep4.of_below {w w' : World} (h : Below w.heap.size w w') : Keep4 w w' := ⟨h.size, fun _ _ _ _ _ hb => hb.below h hb.lt⟩
theorem Keep4.of_one {w w' : World} {e0 : TypeId} {b : Nat} {c0 : Array Value} (hs : w.heap.size ≤ w'.heap.size) (hw : ∀ k, k ≠ b → k < w.heap.size → w'.heap[k]? = w.heap[k]?) (hb : Blk w b e0 c0) (he : e0 = 29 ∨ e0 = 57) : Keep4 w w' := by
  refine ⟨hs, fun k cs e h1 h2 h3 => ?_⟩
  refine (hw k (fun e9 => ?_) h3.lt).trans h3
  subst e9
  have h3 : w.heap[k]? = some (.cells cs e (0, 0)) := h3
  have h4 : w.heap[k]? = some (.cells c0 e0 (0, 0)) := hb
  rw [h3] at h4
  injection h4 with h4
  injection h4 with _ h4
  subst h4
  exact he.elim h1 h2
theorem Keep4.of_grown {w w' : World} {R n m : Nat} {xs : List Value} {v : Value} (hown : w.ownsRow R 57 n v m xs) (hg : w.grownBy w' v.ownBlock) : Keep4 w w' := by
  rcases owned_formN hown with ⟨rfl, _⟩ | ⟨g, cap, cur, rfl, hbg, _, _, hb, _⟩
  · exact ⟨hg.size, fun k _ _ _ _ hb => (hg.block k hb.lt (fun e => by cases e)).trans hb⟩
  · exact Keep4.of_one (b := g) hg.size (fun k hk hl => hg.block k hl fun e => hk (Option.some.inj (show some k = some g from e))) hb (.inr rfl)
theorem Keep4.o {w w' : World} (h : Keep4 w w') : KeepO { w with heap := #[] } 55 w w' :=
  ⟨h.size, fun k hk => by simp at hk, fun k cs e he hb => h.typ k cs e (by rcases he with rfl | rfl <;> decide) (by rcases he with rfl | rfl <;> decide) hb⟩
theorem rowQ_nil (t : TypeId) (Q : World → Value → List Pth → Prop) (w : World) : RowQ t Q w (.slice none 0 0) [] := ⟨[], rfl, ⟨0, World.ownsRow_nil _ _ _ _⟩, fun x hx => by cases hx⟩
theorem rowQ_two {w : World} {g : Nat} {p1 p2 : Pth} {u1 u2 : Value} {c1 c2 : List Pth} (hb : Blk w g 55 ((Value.agg (oC p1 u1).toArray).cells ++ (Value.agg (oC p2 u2).toArray).cells)) (h1 : okP p1) (h2 : okP p2) (q1 : PQ w u1 c1) (q2 : PQ w u2 c2) : RowQ 55 PQ w (.slice (some ⟨g, 0, none⟩) 2 2) [(p1, c1), (p2, c2)] := by
  have e : (Value.agg (oC p1 u1).toArray).cells ++ (Value.agg (oC p2 u2).toArray).cells = (flO [((p1, c1), u1), ((p2, c2), u2)]).toArray := by simp [Value.cells, flO, oF]
  rw [e] at hb
  have hl : (flO [((p1, c1), u1), ((p2, c2), u2)]).length = 44 := by simp [flO, oF, oC_len h2, pC_len h1]
  refine ⟨[((p1, c1), u1), ((p2, c2), u2)], rfl, ⟨0, ?_, .inr ⟨g, 2, _, rfl, Nat.zero_le _, hb, Nat.le_refl _, of_decide_eq_true (by kernel_rfl), ?_, ?_⟩⟩, fun x hx => ?_⟩
  · rw [hl]; rfl
  · simp [hl]
  · rw [List.take_of_length_le]
    simp [hl]
  · simp only [List.mem_cons, List.not_mem_nil, or_false] at hx
    rcases hx with rfl | rfl
    · exact ⟨h1, q1⟩
    · exact ⟨h2, q2⟩
/-- rows of a case -/
structure RQ (R : Nat) (w : World) (vo : Value) (rs : List (List Opt × Value)) : Prop where
  own : w.ownsRow R 57 1 vo rs.length (flR rs)
  row : ∀ x ∈ rs, RowQ 55 PQ w x.2 x.1 ∧ x.1.length ≤ 2 ∧ ∀ o ∈ x.1, o.2.length ≤ 2
theorem RQ.nil (R : Nat) (w : World) : RQ R w (.slice none 0 0) [] := ⟨World.ownsRow_nil _ _ _ _, fun x hx => by cases hx⟩
theorem RQ.keep {R : Nat} {w w' : World} {vo : Value} {rs : List (List Opt × Value)} (h : RQ R w vo rs) (hk : Keep4 w w') (ho : ∀ g, vo.ownBlock = some g → g < w.heap.size → w'.heap[g]? = w.heap[g]?) : RQ R w' vo rs :=
  ⟨owned_keepN h.own ho, fun x hx => ⟨(h.row x hx).1.keep (pq_ok _) hk.o, (h.row x hx).2⟩⟩
theorem RQ.at_ {R : Nat} {w : World} {vo : Value} {rs : List (List Opt × Value)} (h : RQ R w vo rs) : rowsLay.At w w.heap.size [vo] (rs.map (·.1)) :=
  rowsQ_at (pq_ok { w with heap := #[] }) rfl h.own (fun x hx => (h.row x hx).1) (Nat.zero_le _)
/-- a row of things that stand in one block -/
def TQ {α : Type} (t e : TypeId) (L : Lay α) (w : World) (v : Value) : Prop := v = .slice none 0 0 ∨ ∃ g cs, Blk w g e cs ∧ ∀ w' : World, Blk w' g e cs → ∃ l : List α, l.length ≤ 3 ∧ (Lay.slice t L).At w' w'.heap.size [v] l
theorem TQ.keep {α : Type} {t e : TypeId} {L : Lay α} {w w' : World} {v : Value} (h : TQ t e L w v) (hk : Keep4 w w') (h1 : e ≠ 29) (h2 : e ≠ 57) : TQ t e L w' v := by
  rcases h with h | ⟨g, cs, hb, h⟩
  · exact .inl h
  · exact .inr ⟨g, cs, hk.typ g cs e h1 h2 hb, h⟩
theorem TQ.at_ {α : Type} {t e : TypeId} {L : Lay α} {w : World} {v : Value} (h : TQ t e L w v) : ∃ l : List α, l.length ≤ 3 ∧ (Lay.slice t L).At w w.heap.size [v] l := by
  rcases h with rfl | ⟨g, cs, hb, h⟩
  · exact ⟨[], by simp, none, 0, rfl, Nat.le_refl _, Nat.zero_le _, fun _ => rfl, fun h => absurd h (by simp)⟩
  · exact h w hb
structure CQ (w : World) (v : Cvs) : Prop where
  own : okH v.own
  cls : TQ 25 23 hashLay w v.classes
  fix : TQ 24 53 pathLay w v.fixed
  of : TQ 27 60 madeLay w v.of
theorem CQ.keep {w w' : World} {v : Cvs} (h : CQ w v) (hk : Keep4 w w') : CQ w' v := ⟨h.own, h.cls.keep hk (by decide) (by decide), h.fix.keep hk (by decide) (by decide), h.of.keep hk (by decide) (by decide)⟩
theorem case_of {R : Nat} {w : World} {v : Cvs} {rs : List (List Opt × Value)} (h : CQ w v) (hr : RQ R w v.opts rs) (h2 : rs.length ≤ 2) : ∃ c, CaseAt w.heap.size w v c ∧ LightC c := by
  obtain ⟨k, k1, k2⟩ := h.cls.at_
  obtain ⟨f, f1, f2⟩ := h.fix.at_
  obtain ⟨m, m1, m2⟩ := h.of.at_
  refine ⟨⟨v.own, f, k, rs.map (·.1), m⟩, ⟨rfl, h.own, f2, k2, hr.at_, m2⟩, ⟨?_, ?_, ?_, ?_, ?_⟩⟩
  · show f.length ≤ _; omega
  · show m.length ≤ _; omega
  · show k.length ≤ _; omega
  · show (rs.map (·.1)).length ≤ _; rw [List.length_map]; omega
  · intro os hos
    obtain ⟨x, hx, rfl⟩ := List.mem_map.1 hos; obtain ⟨_, q1, q2⟩ := hr.row x hx; exact ⟨by omega, fun o ho => by have := q2 o ho; omega⟩
/-! slices of slices -/
theorem slice_head {α : Type} {t : TypeId} {L : Lay α} {w : World} {B n cap m : Nat} {A : Option Addr} {l : List α} (h : (Lay.slice t L).At w B [.slice A n cap] l) (hm : m ≤ n) : (Lay.slice t L).At w B [.slice A m cap] (l.take m) := by
  obtain ⟨A', cap', e, h1, h2, h3, h4⟩ := h
  simp only [List.cons.injEq, Value.slice.injEq, and_true] at e
  obtain ⟨rfl, rfl, rfl⟩ := e
  have hl : (l.take m).length = m := by rw [List.length_take]; omega
  refine ⟨A, cap, by rw [hl], by rw [hl]; omega, h2, h3, fun h0 => ?_⟩
  obtain ⟨b, off, e, hb, hE⟩ := h4 (by rw [hl] at h0; omega)
  refine ⟨b, off, e, hb, fun j x hj => hE j x ?_⟩
  have hjm : j < m := by have := (List.getElem?_eq_some_iff.1 hj).1; omega
  rwa [List.getElem?_take_of_lt hjm] at hj
theorem slice_tail {α : Type} {t : TypeId} {L : Lay α} {w : World} {B n cap a g off : Nat} {l : List α} (h : (Lay.slice t L).At w B [.slice (some ⟨g, off, none⟩) n cap] l) (ha : a ≤ n) : (Lay.slice t L).At w B [.slice (some ⟨g, off + a * L.n, none⟩) (n - a) (cap - a)] (l.drop a) := by
  obtain ⟨A', cap', e, h1, h2, h3, h4⟩ := h
  simp only [List.cons.injEq, Value.slice.injEq, and_true] at e
  obtain ⟨rfl, rfl, rfl⟩ := e
  refine ⟨_, cap - a, by rw [List.length_drop], by rw [List.length_drop]; omega, by omega, (fun h => by cases h), fun h0 => ?_⟩
  obtain ⟨b, o, e, hb, hE⟩ := h4 (by rw [List.length_drop] at h0; omega)
  injection e with e
  injection e with e1 e2
  subst e1 e2
  refine ⟨g, off + a * L.n, rfl, hb, fun j x hj => ?_⟩
  rw [List.getElem?_drop] at hj
  obtain ⟨cs, q1, q2⟩ := hE (a + j) x hj
  refine ⟨cs, ?_, q2⟩
  rwa [Nat.add_mul, ← Nat.add_assoc] at q1
end Go.Proofs.Ytfppddnfdinipaa
end
section
namespace Go.Proofs.Ytfppddnfdinipaa
open Go Go.RowKit
theorem run_slice_toN {P : Program} {t e s : TypeId} (ht : P.underlying t = some (.slice e)) (hs : (P.info? e).map (·.size) = some s) (A : Option Addr) (len cap n : Nat) (hn : n ≤ cap) (w : World) :
    (Instr.sliceAt t (.slice A len cap) none (some (.int .i64 (n : Int))) none).run P w = .ok (.slice A n cap) w := by
  have e2 : P.elem t = e := by simp [Program.elem, ht]
  rw [run_sliceAt_slice w t _ _ _ _ (by rw [e2]; exact ht)]
  have h := run_slice_h (P := P) w t A len cap (by rw [e2]; exact ht) .i64 (n : Int) (by omega) (by omega)
  rw [h, e2]
  cases hi : P.info? e with
  | none => simp [hi] at hs
  | some i =>
    have e0 : A.map (fun a => a.add 0) = A := by cases A <;> simp [Addr.add]
    simp [sizeOf, typeInfo, hi, sliced, e0]
theorem run_slice_fromN {P : Program} {t e s : Nat} (ht : P.underlying t = some (.slice e)) (hs : (P.info? e).map (·.size) = some s) (b off len cap n : Nat) (hn : n ≤ len) (hc : n < cap) (w : World) :
    (Instr.sliceAt t (.slice (some ⟨b, off, none⟩) len cap) (some (.int .i64 (n : Int))) none none).run P w = .ok (.slice (some ⟨b, off + n * s, none⟩) (len - n) (cap - n)) w := by
  have e2 : P.elem t = e := by simp [Program.elem, ht]
  rw [run_sliceAt_slice w t _ _ _ _ (by rw [e2]; exact ht)]
  have h := run_slice_l (P := P) w t (some ⟨b, off, none⟩) len cap (by rw [e2]; exact ht) .i64 (n : Int) (by omega) (by omega)
  rw [h, e2]
  cases hi : P.info? e with
  | none => simp [hi] at hs
  | some i =>
    have h1 : i.size = s := by simpa [hi] using hs
    have h2 : ¬ cap = n := by omega
    simp [sizeOf, typeInfo, hi, h1, sliced, h2, Addr.add_mid]
theorem exec_slice_toN {P : Program} {ρ : Operand → Value} {o : Oper} (t : TypeId) (x y : Operand) (ho : o.op = .slice t x none (some y) none) {e s : Nat} (ht : P.underlying t = some (.slice e)) (hs : (P.info? e).map (·.size) = some s) (A : Option Addr) (len cap n : Nat) (hx : ρ x = .slice A len cap) (hy : ρ y = .int .i64 (n : Int)) (hn : n ≤ cap) (w : World) : (execOp ρ o).run P w = .ok (.value (.slice A n cap)) w := by
  refine exec_slice t x none (some y) none ho _ (fun W => ?_) w
  simp only [Option.map_none, Option.map_some, hx, hy]
  exact run_slice_toN ht hs A len cap n hn W
theorem exec_slice_fromN {P : Program} {ρ : Operand → Value} {o : Oper} (t : TypeId) (x y : Operand) (ho : o.op = .slice t x (some y) none none) {e s : Nat} (ht : P.underlying t = some (.slice e)) (hs : (P.info? e).map (·.size) = some s) (b off len cap n : Nat) (hx : ρ x = .slice (some ⟨b, off, none⟩) len cap) (hy : ρ y = .int .i64 (n : Int)) (hn : n ≤ len) (hc : n < cap) (w : World) : (execOp ρ o).run P w = .ok (.value (.slice (some ⟨b, off + n * s, none⟩) (len - n) (cap - n))) w := by
  refine exec_slice t x (some y) none none ho _ (fun W => ?_) w
  simp only [Option.map_none, Option.map_some, hx, hy]
  exact run_slice_fromN ht hs b off len cap n hn hc W
end Go.Proofs.Ytfppddnfdinipaa
end
section
namespace Go.Proofs.Ytfppddnfdinipaa
open Go Go.RowKit Go.Maps
set_option maxRecDepth 100000
structure SmS (B : Nat) (w0 w : World) (cb : Nat) (v : Cvs) (vo : Value) (rs : List (List Opt × Value)) : Prop where
  blk : Blk w cb 29 (caseC v).toArray
  cq : CQ w v
  rq : RQ (cb + 1) w vo rs
  below : Below B w0 w
  cb_ : B ≤ cb
variable {B cb : Nat} {w0 w w' : World} {v : Cvs} {vo : Value} {rs : List (List Opt × Value)}
theorem SmS.size (h : SmS B w0 w cb v vo rs) : cb < w.heap.size := h.blk.lt
theorem SmS.grow (h : SmS B w0 w cb v vo rs) (hb : Below w.heap.size w w') : SmS B w0 w' cb v vo rs :=
  ⟨h.blk.below hb h.blk.lt, h.cq.keep (.of_below hb), h.rq.keep (.of_below hb) fun g _ hl => hb.block g hl, h.below.trans (Below.mono hb (by have := h.cb_; have := h.size; omega)), h.cb_⟩
theorem caseC_set20 {v : Cvs} (ho : okH v.own) (u : Value) : (caseC v).toArray.setIfInBounds 20 u = (caseC { v with fixed := u }).toArray := by
  unfold caseC
  rw [List.setIfInBounds_toArray, List.set_append_right _ _ (by rw [bvL, show v.own.length = 20 from ho]; decide), bvL, show v.own.length = 20 from ho]
  rfl
theorem caseC_set23 {v : Cvs} (ho : okH v.own) (u : Value) : (caseC v).toArray.setIfInBounds 23 u = (caseC { v with of := u }).toArray := by
  unfold caseC
  rw [List.setIfInBounds_toArray, List.set_append_right _ _ (by rw [bvL, show v.own.length = 20 from ho]; decide), bvL, show v.own.length = 20 from ho]
  rfl
theorem set_keep {e : TypeId} {c0 : Array Value} (hb : Blk w cb e c0) (he : e = 29 ∨ e = 57) (i : Nat) (u : Value) : Keep4 w (w.setCell ⟨cb, i, none⟩ u) :=
  Keep4.of_one (b := cb) (by simp [World.setCell]) (fun k hk _ => Below.heap_setCell w _ _ k (fun e => hk e)) hb he
theorem SmS.setF (h : SmS B w0 w cb v vo rs) (u : Value) (hu : TQ 24 53 pathLay w u) : SmS B w0 (w.setCell ⟨cb, 20, none⟩ u) cb { v with fixed := u } vo rs := by
  have hk := set_keep h.blk (.inl rfl) 20 u
  have hb := h.blk.set_ 20 u
  rw [caseC_set20 h.cq.own] at hb
  exact ⟨hb, ⟨h.cq.own, h.cq.cls.keep hk (by decide) (by decide), hu.keep hk (by decide) (by decide), h.cq.of.keep hk (by decide) (by decide)⟩, h.rq.keep hk fun g hg _ => Below.heap_setCell w _ _ g (fun e => by have := (owned_ltN h.rq.own hg).1; have e : g = cb := e; omega), h.below.setCell h.cb_ u, h.cb_⟩
theorem SmS.setM (h : SmS B w0 w cb v vo rs) (u : Value) (hu : TQ 27 60 madeLay w u) : SmS B w0 (w.setCell ⟨cb, 23, none⟩ u) cb { v with of := u } vo rs := by
  have hk := set_keep h.blk (.inl rfl) 23 u
  have hb := h.blk.set_ 23 u
  rw [caseC_set23 h.cq.own] at hb
  exact ⟨hb, ⟨h.cq.own, h.cq.cls.keep hk (by decide) (by decide), h.cq.fix.keep hk (by decide) (by decide), hu.keep hk (by decide) (by decide)⟩, h.rq.keep hk fun g hg _ => Below.heap_setCell w _ _ g (fun e => by have := (owned_ltN h.rq.own hg).1; have e : g = cb := e; omega), h.below.setCell h.cb_ u, h.cb_⟩
theorem SmS.setO (h : SmS B w0 w cb v vo rs) (u : Value) : SmS B w0 (w.setCell ⟨cb, 22, none⟩ u) cb { v with opts := u } vo rs := by
  have hk := set_keep h.blk (.inl rfl) 22 u
  have hb := h.blk.set_ 22 u
  rw [caseC_set h.cq.own] at hb
  exact ⟨hb, ⟨h.cq.own, h.cq.cls.keep hk (by decide) (by decide), h.cq.fix.keep hk (by decide) (by decide), h.cq.of.keep hk (by decide) (by decide)⟩, h.rq.keep hk fun g hg _ => Below.heap_setCell w _ _ g (fun e => by have := (owned_ltN h.rq.own hg).1; have e : g = cb := e; omega), h.below.setCell h.cb_ u, h.cb_⟩
/-- a row is put behind the others -/
theorem SmS.app (h : SmS B w0 w cb v vo rs) {vo' : Value} {x : List Opt × Value} (hown : w'.ownsRow (cb + 1) 57 1 vo' (rs.length + 1) (flR rs ++ [x.2])) (hg : w.grownBy w' vo.ownBlock) (hx : RowQ 55 PQ w x.2 x.1) (h2 : x.1.length ≤ 2 ∧ ∀ o ∈ x.1, o.2.length ≤ 2) : SmS B w0 w' cb v vo' (rs ++ [x]) := by
  have hk : Keep4 w w' := .of_grown h.rq.own hg
  refine ⟨(hg.block cb h.size (fun e => by have := (owned_ltN h.rq.own e.symm).1; omega)).trans h.blk, h.cq.keep hk, ⟨?_, fun y hy => ?_⟩, ?_, h.cb_⟩
  · rw [List.length_append, flR_snoc]; exact hown
  · rcases List.mem_append.1 hy with hy | hy
    · exact ⟨(h.rq.row y hy).1.keep (pq_ok _) hk.o, (h.rq.row y hy).2⟩
    · rw [List.mem_singleton.1 hy]
      exact ⟨hx.keep (pq_ok _) hk.o, h2⟩
  · exact h.below.grown hg (by have := h.size; have := h.cb_; omega) fun g hg9 => by have := (owned_ltN h.rq.own hg9).1; have := h.cb_; omega
theorem flR_len (rs : List (List Opt × Value)) : (flR rs).length = rs.length := by
  induction rs with
  | nil => rfl
  | cons x rs ih => show (rF x ++ flR rs).length = _; rw [List.length_append, ih]; simp [rF]; omega
theorem flR_set (rs : List (List Opt × Value)) (j : Nat) (x : List Opt × Value) : (flR rs).set j x.2 = flR (rs.set j x) := by
  induction rs generalizing j with
  | nil => rfl
  | cons y rs ih =>
    cases j with
    | zero => rfl
    | succ j => show y.2 :: (flR rs).set j x.2 = y.2 :: flR (rs.set j x); rw [ih]
theorem flR_take (rs : List (List Opt × Value)) (j : Nat) : (flR rs).take j = flR (rs.take j) := by
  induction rs generalizing j with
  | nil => simp [flR]
  | cons y rs ih =>
    cases j with
    | zero => rfl
    | succ j => show y.2 :: (flR rs).take j = y.2 :: flR (rs.take j); rw [ih]
/-- one row is taken away -/
theorem SmS.nilrow {g n cap : Nat} (h : SmS B w0 w cb v (.slice (some ⟨g, 0, none⟩) n cap) rs) (hn : n = rs.length) (j : Nat) : SmS B w0 (w.setCell ⟨g, j, none⟩ (.slice none 0 0)) cb v (.slice (some ⟨g, 0, none⟩) n cap) (rs.set j ([], .slice none 0 0)) := by
  subst hn
  obtain ⟨g', cap', cur, e, hbg, hb⟩ : ∃ g' cap' cur, Value.slice (some ⟨g, 0, none⟩) rs.length cap = .slice (some ⟨g', 0, none⟩) rs.length cap' ∧ cb + 1 ≤ g' ∧ Blk w g' 57 cur := by
    rcases owned_formN h.rq.own with ⟨e, _⟩ | ⟨g', cap', cur, e, hbg, _, _, hb, _⟩
    · cases e
    · exact ⟨g', cap', cur, e, hbg, hb⟩
  injection e with e1 _ e3
  injection e1 with e1
  injection e1 with e1
  subst e1 e3
  have hk := set_keep hb (.inr rfl) j (.slice none 0 0)
  have hne : ∀ k, k ≠ g → (w.setCell ⟨g, j, none⟩ (.slice none 0 0)).heap[k]? = w.heap[k]? := fun k hk => Below.heap_setCell w _ _ k (fun e => hk e)
  refine ⟨(hne cb (by omega)).trans h.blk, h.cq.keep hk, ⟨?_, fun y hy => ?_⟩, h.below.setCell (by show B ≤ g; have := h.cb_; omega) _, h.cb_⟩
  · rw [List.length_set, ← flR_set]
    exact own_set h.rq.own
  · rcases List.mem_or_eq_of_mem_set hy with hy | rfl
    · exact ⟨(h.rq.row y hy).1.keep (pq_ok _) hk.o, (h.rq.row y hy).2⟩
    · exact ⟨rowQ_nil _ _ _, by simp, fun o ho => by cases ho⟩
/-- the first rows -/
theorem RQ.cut {R g n cap m : Nat} (h : RQ R w (.slice (some ⟨g, 0, none⟩) n cap) rs) (hn : n = rs.length) (hm : m ≤ n) : RQ R w (.slice (some ⟨g, 0, none⟩) m cap) (rs.take m) := by
  subst hn
  refine ⟨?_, fun x hx => h.row x (List.mem_of_mem_take hx)⟩
  have h2 := own_cut h.own hm
  rw [flR_take] at h2
  rwa [List.length_take, Nat.min_eq_left hm]
theorem int_wf {a : Int} (h : -1000 ≤ a ∧ a ≤ 1000) : (Lit.int .i64 a).wf = true := by
  simp [Lit.wf, IntKind.min, IntKind.max, IntKind.signed, IntKind.bits]
  omega
theorem intLay_nil {w : World} {B : Nat} : intLay.At w B [.slice none 0 0] [] := ⟨none, 0, rfl, Nat.le_refl _, Nat.zero_le _, fun _ => rfl, fun h => absurd h (by simp)⟩
theorem intLay_one {w : World} {g : Nat} {a : Int} (hb : Blk w g 3 #[.int .i64 a]) (h : -1000 ≤ a ∧ a ≤ 1000) : intLay.At w w.heap.size [.slice (some ⟨g, 0, none⟩) 1 1] [a] := by
  refine slice_cells (L := Lay.int 3 .i64) (cells := [[.int .i64 a]]) (l := [a]) (by decide) hb hb.lt rfl (of_decide_eq_true (by kernel_rfl)) fun j x cs hx hcs => ?_
  match j, hx, hcs with
  | 0, hx, hcs => injection hx with hx; injection hcs with hcs; subst hx hcs; exact ⟨rfl, int_wf h⟩
theorem intLay_two {w : World} {g : Nat} {a b : Int} (hb : Blk w g 3 #[.int .i64 a, .int .i64 b]) (h : -1000 ≤ a ∧ a ≤ 1000) (h2 : -1000 ≤ b ∧ b ≤ 1000) : intLay.At w w.heap.size [.slice (some ⟨g, 0, none⟩) 2 2] [a, b] := by
  refine slice_cells (L := Lay.int 3 .i64) (cells := [[.int .i64 a], [.int .i64 b]]) (l := [a, b]) (by decide) hb hb.lt rfl (of_decide_eq_true (by kernel_rfl)) fun j x cs hx hcs => ?_
  match j, hx, hcs with
  | 0, hx, hcs => injection hx with hx; injection hcs with hcs; subst hx hcs; exact ⟨rfl, int_wf h⟩
  | 1, hx, hcs => injection hx with hx; injection hcs with hcs; subst hx hcs; exact ⟨rfl, int_wf h2⟩
theorem own_le {w : World} {R : Nat} {g n cap : Nat} {e : TypeId} {xs : List Value} (h : w.ownsRow R e 1 (.slice (some ⟨g, 0, none⟩) n cap) n xs) : n ≤ cap ∧ g < w.heap.size := by
  rcases owned_formN h with ⟨e, _⟩ | ⟨g', cap', cur, e, _, hnc, _, hb, _⟩
  · cases e
  · injection e with e1 _ e3
    injection e1 with e1
    injection e1 with e1
    subst e1 e3; exact ⟨hnc, hb.lt⟩
/-- three parts of a slice, in one block -/
theorem slice_three {α : Type} {t e : TypeId} {L : Lay α} (h0 : 0 < L.n) {w : World} {B g : Nat} {c1 c2 c3 : List Value} {x1 x2 x3 : α} (hb : Blk w g e ((Value.agg c1.toArray).cells ++ (Value.agg c2.toArray).cells ++ (Value.agg c3.toArray).cells)) (hg : g < B) (h1 : L.At w B c1 x1) (h2 : L.At w B c2 x2) (h3 : L.At w B c3 x3) : (Lay.slice t L).At w B [.slice (some ⟨g, 0, none⟩) 3 3] [x1, x2, x3] := by
  have e : (Value.agg c1.toArray).cells ++ (Value.agg c2.toArray).cells ++ (Value.agg c3.toArray).cells = [c1, c2, c3].flatten.toArray := by simp [Value.cells]
  rw [e] at hb
  refine slice_cells (l := [x1, x2, x3]) h0 hb hg rfl (of_decide_eq_true (by kernel_rfl)) fun j x cs hx hcs => ?_
  match j, hx, hcs with
  | 0, hx, hcs => injection hx with hx; injection hcs with hcs; subst hx hcs; exact h1
  | 1, hx, hcs => injection hx with hx; injection hcs with hcs; subst hx hcs; exact h2
  | 2, hx, hcs => injection hx with hx; injection hcs with hcs; subst hx hcs; exact h3
end Go.Proofs.Ytfppddnfdinipaa
end
section
namespace Go.Proofs.Ytfppddnfdinipaa
open Go Go.RowKit Go.Maps
set_option maxRecDepth 100000
def vZ : Cvs := ⟨List.replicate 20 0, .slice none 0 0, .slice none 0 0, .slice none 0 0, .slice none 0 0⟩
set_option maxHeartbeats 16000000 in
theorem pickSmall_any (w : World) :
    Calls Try.prog 5 #[] w fun e w' => e = .returned (.bool true) ∧ Below w.heap.size w w' := by
  go_enter Try.func5, Try.ntmps5
  go_wp2_with fail
  go_loopw [1] (fun x wr => ∃ n : Nat, n ≤ 4096 ∧ x = .int .i64 ((n : Nat) : Int) ∧ Below w.heap.size w wr) (fun x _ => 4096 - (intOf x).toNat)
  case atStart => exact ⟨0, by omega, rfl, Below.refl _ _⟩
  case round =>
    obtain ⟨w0, rfl⟩ : ∃ w0, w0 = wr := ⟨_, rfl⟩; obtain ⟨n, hn, rfl, hb⟩ := hrel; have HB := hide hb; clear hb; have n0 : (0 : Int) ≤ (n : Int) := by omega
    by_cases hn2 : n < 4096
    · have n1 : (n : Int) < 4096 := by omega
      go_wp2_with fail; obtain ⟨a1, ha1, la1⟩ : ∃ a : Nat, ((n : Int) % 5 : Int) = (a : Int) ∧ a < 5 := ⟨(((n : Int) % 5 : Int)).toNat, by omega, by omega⟩
      rw [ha1]; refine (class_any a1 (by omega) w0).mono ?_
      rintro e w1 ⟨rfl, hbw1⟩; have HBw1 := hide (show Below w0.heap.size w0 w1 from hbw1); clear hbw1; dsimp only; go_wp2_with fail; refine (class_any 1 (by omega) w1).mono ?_
      rintro e w2 ⟨rfl, hbw2⟩; have HBw2 := hide (show Below w1.heap.size w1 w2 from hbw2); clear hbw2; dsimp only; go_wp2_with fail; obtain ⟨a2, ha2, la2⟩ : ∃ a : Nat, (1 + (n : Int) % 7 / 3 : Int) = (a : Int) ∧ a < 5 := ⟨((1 + (n : Int) % 7 / 3 : Int)).toNat, by omega, by omega⟩
      rw [ha2]; refine (class_any a2 (by omega) w2).mono ?_
      rintro e w3 ⟨rfl, hbw3⟩; have HBw3 := hide (show Below w2.heap.size w2 w3 from hbw3); clear hbw3; dsimp only; obtain ⟨w4, hww4⟩ : ∃ w4, w4 = w3.alloc (.cells ((Value.agg (bv (hN 1)).toArray).cells ++ (Value.agg (bv (hN a2)).toArray).cells) 23) := ⟨_, rfl⟩; have HBw4 := hide (show Below w3.heap.size w3 w4 from by rw [hww4]; exact (Below.refl _ w3).alloc (Nat.le_refl _) _)
      have HKw4 := hide (show Blk w4 w3.heap.size 23 ((Value.agg (bv (hN 1)).toArray).cells ++ (Value.agg (bv (hN a2)).toArray).cells) from by rw [hww4]; exact Blk.new _ _ _)
      have HWw4 := hide hww4; clear hww4; obtain ⟨v0, hv0⟩ : ∃ v0 : Cvs, v0 = ⟨hN a1, .slice none 0 0, .slice (some ⟨w3.heap.size, 0, none⟩) 2 2, .slice none 0 0, .slice none 0 0⟩ := ⟨_, rfl⟩; have ho0 : okH v0.own := by rw [hv0]; exact hN_ok a1
      have hsz0 := csz ho0; have hone0 : (caseC v0).toArray.all (·.oneCell') = true := by rw [hv0]; exact all_oneCell_toArray (caseC_one rfl rfl rfl rfl)
      have HV := hide hv0; clear hv0; go_wp2_with (first | (refine wpList_value (o := ⟨some 19, _, _, _, _, _⟩) rfl (.slice (some ⟨w3.heap.size, 0, none⟩) 2 2) w4 (by rw [HWw4.out]; exact exec_buildSlice2 (o := ⟨some 19, _, _, _, _, _⟩) (v := .agg (bv (hN 1)).toArray) (u := .agg (bv (hN a2)).toArray) 25 (.tmp 13) (.tmp 18) rfl rfl rfl Try.underlying25 sz_hash (by omega) (z := .agg zcH) (fun w => by kernel_rfl) rfl rfl w3) ?_) | (refine wpList_value (o := ⟨some 20, _, _, _, _, _⟩) rfl (.agg (caseC v0).toArray) w4 (by rw [HV.out]; kernel_rfl) ?_) | ((with_reducible refine wpList_box (o1 := ⟨some 2, _, _, _, _, _⟩) (o2 := ⟨none, _, _, _, _, _⟩) rfl rfl 29 (.tmp 2) (.tmp 20) ?_ zcL.toArray (caseC v0).toArray ?_ hsz0 ?_ hone0 ?_ ?_ ?_); rfl; kernel_rfl; (simp only [List.size_toArray, caseC_len ho0]; kernel_rfl); rfl; rfl; intro w5 hmm hbb; have H5 := hide (And.intro hmm hbb); clear hmm hbb; simp only [Act.put, List.setIfInBounds_toArray, List.set_cons_zero, List.set_cons_succ]))
      obtain ⟨cb, hcb⟩ : ∃ cb, cb = w4.heap.size := ⟨_, rfl⟩; rw [← hcb]
      have hS : SmS w0.heap.size w0 w5 cb v0 (.slice none 0 0) [] := by
        have b3 := (HBw1.out.trans (Below.mono (HBw2.out.trans (Below.mono HBw3.out HBw2.out.size)) HBw1.out.size)); have b4 := b3.trans (Below.mono HBw4.out b3.size); have b5 := b4.trans (Below.mono H5.out.2 b4.size); refine ⟨by rw [hcb]; exact H5.out.1, ⟨ho0, .inr ⟨w3.heap.size, _, HKw4.out.below H5.out.2 HKw4.out.lt, fun w' hb' => ⟨[hN 1, hN a2], by simp, ?_⟩⟩, .inl (by rw [HV.out]), .inl (by rw [HV.out])⟩, RQ.nil _ _, b5, by rw [hcb]; exact b4.size⟩
        rw [HV.out]; exact slice_two (L := hashLay) (by decide) hb' hb'.lt ⟨rfl, hN_ok 1⟩ ⟨rfl, hN_ok a2⟩
      have HS5 := hide hS; clear hS hcb; clear HBw1 HBw2 HBw3 HBw4 HKw4 HWw4 H5 hone0; obtain ⟨ir, hir, hz0, hz1, hz2⟩ := info_parts (show (Try.prog.info? 57).map (fun i => (i.zero, i.size, i.bytes)) = some (some (.slice none 0 0), 1, 24) by kernel_rfl)
      have HJ := hide (And.intro hir (And.intro hz0 (And.intro hz1 hz2))); clear hir hz0 hz1 hz2; go_loopw [3, 4, 5] (fun x3 x4 x5 wr => ∃ (i kk : Nat) (vo : Value) (rs : List (List Opt × Value)), i ≤ 2 ∧ kk < 4096 ∧ x4 = .int .i64 ((i : Nat) : Int) ∧ x5 = .int .i64 ((kk : Nat) : Int) ∧ vo = x3 ∧ rs.length = i ∧ SmS w0.heap.size w0 wr cb v0 vo rs) (fun _ x4 _ _ => 2 - (intOf x4).toNat)
      case atStart => exact ⟨0, n, .slice none 0 0, [], by omega, hn2, rfl, rfl, rfl, rfl, HS5.out⟩
      case round =>
        obtain ⟨y0, rfl⟩ : ∃ y0, y0 = wr := ⟨_, rfl⟩; obtain ⟨i, kk, vo, rs, hi, hkk, rfl, rfl, rfl, hrs, hS⟩ := hrel; have HSY := hide (And.intro hrs hS); clear hrs hS; have i0 : (0 : Int) ≤ (i : Int) := by omega
        by_cases hi2 : i < 2
        · have i1 : (i : Int) < 2 := by omega
          obtain ⟨c1, hc1, lc1⟩ : ∃ a : Nat, (1 + (kk : Int) % 2 + (i : Int) : Int) = (a : Int) ∧ a < 9 := ⟨((1 + (kk : Int) % 2 + (i : Int) : Int)).toNat, by omega, by omega⟩
          obtain ⟨b1, hb1, lb1⟩ : ∃ a : Nat, (3 + (kk : Int) / 2 % 3 : Int) = (a : Int) ∧ a < 9 := ⟨((3 + (kk : Int) / 2 % 3 : Int)).toNat, by omega, by omega⟩
          obtain ⟨c2, hc2, lc2⟩ : ∃ a : Nat, (2 + (i : Int) * 2 : Int) = (a : Int) ∧ a < 9 := ⟨((2 + (i : Int) * 2 : Int)).toNat, by omega, by omega⟩
          obtain ⟨b2, hb2, lb2⟩ : ∃ a : Nat, (3 + (kk : Int) / 8 % 3 : Int) = (a : Int) ∧ a < 9 := ⟨((3 + (kk : Int) / 8 % 3 : Int)).toNat, by omega, by omega⟩
          obtain ⟨k2, hk2, lk2⟩ : ∃ a : Nat, ((kk : Int) / 16 : Int) = (a : Int) ∧ a < 4096 := ⟨(((kk : Int) / 16 : Int)).toNat, by omega, by omega⟩
          obtain ⟨y1, hwy1⟩ : ∃ y1, y1 = y0.alloc (.cells (#[.int .i64 (b1 : Int)]) 3) := ⟨_, rfl⟩; have HBy1 := hide (show Below y0.heap.size y0 y1 from by rw [hwy1]; exact (Below.refl _ y0).alloc (Nat.le_refl _) _)
          have HKy1 := hide (show Blk y1 y0.heap.size 3 (#[.int .i64 (b1 : Int)]) from by rw [hwy1]; exact Blk.new _ _ _)
          have HWy1 := hide hwy1; clear hwy1; go_wp2_with fail; rw [← HWy1.out]; refine (option_any c1 (by omega) [b1] (by simp; omega) (by simp) (.slice (some ⟨y0.heap.size, 0, none⟩) 1 1) y1 (ints_one HKy1.out)).mono ?_
          rintro e y2 ⟨u37, rfl, hu37, hby2⟩; have HBy2 := hide hby2; have HU37 := hide hu37; clear hby2 hu37; dsimp only; obtain ⟨y3, hwy3⟩ : ∃ y3, y3 = y2.alloc (.cells (#[.int .i64 (b2 : Int), .int .i64 4]) 3) := ⟨_, rfl⟩; have HBy3 := hide (show Below y2.heap.size y2 y3 from by rw [hwy3]; exact (Below.refl _ y2).alloc (Nat.le_refl _) _)
          have HKy3 := hide (show Blk y3 y2.heap.size 3 (#[.int .i64 (b2 : Int), .int .i64 4]) from by rw [hwy3]; exact Blk.new _ _ _)
          have HWy3 := hide hwy3; clear hwy3; go_wp2_with fail; rw [← HWy3.out]; refine (option_any c2 (by omega) [b2, 4] (by simp; omega) (by simp) (.slice (some ⟨y2.heap.size, 0, none⟩) 2 2) y3 (ints_two (b2 : Int) 4 HKy3.out)).mono ?_
          rintro e y4 ⟨u46, rfl, hu46, hby4⟩; have HBy4 := hide hby4; have HU46 := hide hu46; clear hby4 hu46; dsimp only; obtain ⟨y5, hwy5⟩ : ∃ y5, y5 = y4.alloc (.cells ((Value.agg (oC (pN c1) u37).toArray).cells ++ (Value.agg (oC (pN c2) u46).toArray).cells) 55) := ⟨_, rfl⟩; have HBy5 := hide (show Below y4.heap.size y4 y5 from by rw [hwy5]; exact (Below.refl _ y4).alloc (Nat.le_refl _) _)
          have HKy5 := hide (show Blk y5 y4.heap.size 55 ((Value.agg (oC (pN c1) u37).toArray).cells ++ (Value.agg (oC (pN c2) u46).toArray).cells) from by rw [hwy5]; exact Blk.new _ _ _)
          have HWy5 := hide hwy5; clear hwy5; obtain ⟨y6, hwy6⟩ : ∃ y6, y6 = y5.alloc (.cells (#[.slice (some ⟨y4.heap.size, 0, none⟩) 2 2]) 57) := ⟨_, rfl⟩; have HBy6 := hide (show Below y5.heap.size y5 y6 from by rw [hwy6]; exact (Below.refl _ y5).alloc (Nat.le_refl _) _)
          have HKy6 := hide (show Blk y6 y5.heap.size 57 (#[.slice (some ⟨y4.heap.size, 0, none⟩) 2 2]) from by rw [hwy6]; exact Blk.new _ _ _)
          have HWy6 := hide hwy6; clear hwy6; have hb26 : Below y2.heap.size y2 y6 := HBy3.out.trans (Below.mono (HBy4.out.trans (Below.mono (HBy5.out.trans (Below.mono HBy6.out HBy5.out.size)) HBy4.out.size)) HBy3.out.size); have hb46 : Below y4.heap.size y4 y6 := HBy5.out.trans (Below.mono HBy6.out HBy5.out.size); have hb06 : Below y0.heap.size y0 y6 := HBy1.out.trans (Below.mono (HBy2.out.trans (Below.mono hb26 HBy2.out.size)) HBy1.out.size); have hs6 := HSY.out.2.grow hb06; have hrow : RowQ 55 PQ y6 (.slice (some ⟨y4.heap.size, 0, none⟩) 2 2) [(pN c1, [b1].map pN), (pN c2, [b2, 4].map pN)] := rowQ_two (HKy5.out.below HBy6.out HKy5.out.lt) (pN_ok c1) (pN_ok c2) ⟨_, OwnP.below HU37.out hb26⟩ ⟨_, OwnP.below HU46.out hb46⟩; have hsrc : SrcN y6 1 (some ⟨y5.heap.size, 0, none⟩) 1 1 [.slice (some ⟨y4.heap.size, 0, none⟩) 2 2] := box_src (cs := [.slice (some ⟨y4.heap.size, 0, none⟩) 2 2]) HKy6.out (fun u hu => by rw [List.mem_singleton.1 hu]; rfl)
          have hown : y6.ownsRow (cb + 1) 57 1 vo i (flR rs) := by have h := hs6.rq.own; rwa [HSY.out.1] at h
          have H6 := hide (And.intro hs6 (And.intro hrow (And.intro hsrc hown))); clear hb26 hb46 hb06 hs6 hrow hsrc hown HBy1 HBy2 HBy3 HBy4 HBy5 HBy6 HKy1 HKy3 HKy5 HKy6 HU37 HU46 HWy1 HWy3; go_wp2_with (first | (refine wpList_value (o := ⟨some 47, _, _, _, _, _⟩) rfl (.slice (some ⟨y4.heap.size, 0, none⟩) 2 2) y5 (by rw [HWy5.out]; exact exec_buildSlice2 (o := ⟨some 47, _, _, _, _, _⟩) (v := .agg (oC (pN c1) u37).toArray) (u := .agg (oC (pN c2) u46).toArray) 57 (.tmp 37) (.tmp 46) rfl rfl rfl Try.underlying57 sz_opt (by omega) (z := .agg zcO) (fun w => by kernel_rfl) (by rw [Value.cells, List.size_toArray]; exact oC_len (pN_ok c1) _) (by rw [Value.cells, List.size_toArray]; exact oC_len (pN_ok c2) _) y4) ?_) | (refine wpList_value (o := ⟨some 48, _, _, _, _, _⟩) rfl (.slice (some ⟨y5.heap.size, 0, none⟩) 1 1) y6 (by rw [HWy6.out]; kernel_rfl) ?_) | (at_builtin; (refine wpList_appS (o := ⟨some 49, _, _, _, _, _⟩) rfl _ _ 26 rfl (cb + 1) 57 ir _ 1 24 Try.underlying26 HJ.out.1 HJ.out.2.1 HJ.out.2.2.1 HJ.out.2.2.2 rfl (by decide) _ i (flR rs) H6.out.2.2.2 (some ⟨y5.heap.size, 0, none⟩) 1 1 [.slice (some ⟨y4.heap.size, 0, none⟩) 2 2] H6.out.2.2.1 ?hm2 ?hb2 ?hz2 rfl rfl ?_)))
          case hm2 => simp only [maxLen]; omega
          case hb2 => omega
          case hz2 => have := H6.out.1.size; omega
          intro vo' y7 own7 gr7 _; have hs7 := H6.out.1.app (x := ([(pN c1, [b1].map pN), (pN c2, [b2, 4].map pN)], .slice (some ⟨y4.heap.size, 0, none⟩) 2 2)) (by rw [HSY.out.1]; exact own7) gr7 H6.out.2.1 ⟨by simp, by simp⟩
          have H7 := hide hs7; clear own7 gr7 hs7; go_wp2_with fail; go_roundw
          case rel => exact ⟨i + 1, k2, vo', _, by omega, lk2, by go_num, by go_num, rfl, by rw [List.length_append, HSY.out.1]; rfl, H7.out⟩
          case measure => simp [intOf]; omega
        · obtain rfl : i = 2 := by omega
          obtain ⟨gr, capr, hvo, _⟩ := own_place HSY.out.2.rq.own (by rw [HSY.out.1]; omega)
          rw [HSY.out.1] at hvo
          subst hvo; have HSy0 := hide HSY.out.2; have HRL := hide HSY.out.1; clear HSY HS5 hi2; obtain ⟨hcap, hgl⟩ : 2 ≤ capr ∧ gr < y0.heap.size := by have h := HSy0.out.rq.own; rw [HRL.out] at h; exact own_le h
          have c9 := (case_cellsT HSy0.out.cq.own HSy0.out.blk).2.2.1; have f9 := HSy0.out.blk.frozen 22; have l9 := HSy0.out.blk.lt; obtain ⟨z1, hwz1⟩ : ∃ z1, z1 = y0.setCell ⟨cb, 22, none⟩ (.slice (some ⟨gr, 0, none⟩) 2 capr) := ⟨_, rfl⟩; obtain ⟨v1, hvv1⟩ : ∃ v1 : Cvs, v1 = { v0 with opts := .slice (some ⟨gr, 0, none⟩) 2 capr } := ⟨_, rfl⟩; have ho1 : okH v1.own := by rw [hvv1]; exact ho0
          have HSz1 := hide (show SmS w0.heap.size w0 z1 cb v1 (.slice (some ⟨gr, 0, none⟩) 2 capr) rs by rw [hwz1, hvv1]; exact HSy0.out.setO _)
          have HXz1 := hide (show Blk (y0.setCell ⟨cb, 22, none⟩ (.slice (some ⟨gr, 0, none⟩) 2 capr)) cb 29 (caseC v1).toArray by rw [← hwz1]; exact HSz1.out.blk)
          have HWz1 := hide hwz1; have HVv1 := hide hvv1; clear hwz1 hvv1; go_wp2_with fail; rw [← HWz1.out]; clear c9 f9 l9; obtain ⟨p1, hp1, lp1⟩ : ∃ a : Nat, ((n : Int) / 64 % 8 : Int) = (a : Int) ∧ a < 9 := ⟨(((n : Int) / 64 % 8 : Int)).toNat, by omega, by omega⟩
          rw [hp1]; refine (path_any p1 (by omega) z1).mono ?_
          rintro e z2 ⟨rfl, hbz2⟩; have HBz2 := hide (show Below z1.heap.size z1 z2 from hbz2); clear hbz2; dsimp only; have HSz2 := hide (HSz1.out.grow HBz2.out); obtain ⟨z3, hwz3⟩ : ∃ z3, z3 = z2.alloc (.cells ((Value.agg (pC (pN p1)).toArray).cells) 53) := ⟨_, rfl⟩; have HBz3 := hide (show Below z2.heap.size z2 z3 from by rw [hwz3]; exact (Below.refl _ z2).alloc (Nat.le_refl _) _)
          have HKz3 := hide (show Blk z3 z2.heap.size 53 ((Value.agg (pC (pN p1)).toArray).cells) from by rw [hwz3]; exact Blk.new _ _ _)
          have HWz3 := hide hwz3; clear hwz3; have HSz3 := hide (HSz2.out.grow HBz3.out); obtain ⟨m1, hm1, lm1⟩ : ∃ a : Nat, ((n : Int) / 512 % 2 : Int) = (a : Int) ∧ a < 2 := ⟨(((n : Int) / 512 % 2 : Int)).toNat, by omega, by omega⟩
          have c9 := (case_cellsT HSz3.out.cq.own HSz3.out.blk).1; have f9 := HSz3.out.blk.frozen 20; have l9 := HSz3.out.blk.lt; obtain ⟨z4, hwz4⟩ : ∃ z4, z4 = z3.setCell ⟨cb, 20, none⟩ (.slice (some ⟨z2.heap.size, 0, none⟩) m1 1) := ⟨_, rfl⟩; obtain ⟨v2, hvv2⟩ : ∃ v2 : Cvs, v2 = { v1 with fixed := .slice (some ⟨z2.heap.size, 0, none⟩) m1 1 } := ⟨_, rfl⟩; have ho2 : okH v2.own := by rw [hvv2]; exact ho1
          have HSz4 := hide (show SmS w0.heap.size w0 z4 cb v2 (.slice (some ⟨gr, 0, none⟩) 2 capr) rs by rw [hwz4, hvv2]; exact HSz3.out.setF _ (.inr ⟨z2.heap.size, _, HKz3.out, fun w' hb' => ⟨[pN p1].take m1, by simp; omega, slice_head (slice_one (L := pathLay) (by decide) hb' hb'.lt (pathLay_at.2 ⟨rfl, pN_ok p1⟩)) (by omega)⟩⟩))
          have HXz4 := hide (show Blk (z3.setCell ⟨cb, 20, none⟩ (.slice (some ⟨z2.heap.size, 0, none⟩) m1 1)) cb 29 (caseC v2).toArray by rw [← hwz4]; exact HSz4.out.blk)
          have HWz4 := hide hwz4; have HVv2 := hide hvv2; clear hwz4 hvv2; go_wp2_with (first | (refine wpList_value (o := ⟨some 58, _, _, _, _, _⟩) rfl (.slice (some ⟨z2.heap.size, 0, none⟩) 1 1) z3 (by rw [HWz3.out]; exact exec_buildSliceP (o := ⟨some 58, _, _, _, _, _⟩) (v := .agg (pC (pN p1)).toArray) 24 (.tmp 57) rfl rfl Try.underlying24 sz_path (by omega) (by omega) (z := .agg zcP) (fun w => by kernel_rfl) (by rw [Value.cells, List.size_toArray, pC_len (pN_ok p1)]) z2) ?_) | (refine wpList_value (o := ⟨some 62, _, _, _, _, _⟩) rfl (.slice (some ⟨z2.heap.size, 0, none⟩) m1 1) z3 (exec_slice_toN (o := ⟨some 62, _, _, _, _, _⟩) 24 (.tmp 58) (.tmp 61) rfl Try.underlying24 sz_path _ 1 1 m1 rfl rfl (by omega) z3) ?_))
          rw [← HWz4.out]; clear c9 f9 l9; obtain ⟨q1, hq1, lq1⟩ : ∃ a : Nat, (2 + (n : Int) % 3 : Int) = (a : Int) ∧ a < 9 := ⟨((2 + (n : Int) % 3 : Int)).toNat, by omega, by omega⟩
          rw [hq1]; refine (class_any q1 (by omega) z4).mono ?_
          rintro e z5 ⟨rfl, hbz5⟩; have HBz5 := hide (show Below z4.heap.size z4 z5 from hbz5); clear hbz5; dsimp only; have HSz5 := hide (HSz4.out.grow HBz5.out); go_wp2_with fail; refine (path_any 3 (by omega) z5).mono ?_
          rintro e z6 ⟨rfl, hbz6⟩; have HBz6 := hide (show Below z5.heap.size z5 z6 from hbz6); clear hbz6; dsimp only; have HSz6 := hide (HSz5.out.grow HBz6.out); go_wp2_with (refine wpList_value (o := ⟨some 69, _, _, _, _, _⟩) rfl (.agg (mC (hN q1) (pN 3)).toArray) z6 (exec_made2 (o := ⟨some 69, _, _, _, _, _⟩) (hN q1) (pN 3) (hN_ok _) (pN_ok _) (.tmp 67) (.tmp 68) rfl rfl rfl z6) ?_)
          obtain ⟨q2, hq2, lq2⟩ : ∃ a : Nat, (2 + (n : Int) / 16 % 3 : Int) = (a : Int) ∧ a < 9 := ⟨((2 + (n : Int) / 16 % 3 : Int)).toNat, by omega, by omega⟩
          rw [hq2]; refine (class_any q2 (by omega) z6).mono ?_
          rintro e z7 ⟨rfl, hbz7⟩; have HBz7 := hide (show Below z6.heap.size z6 z7 from hbz7); clear hbz7; dsimp only; have HSz7 := hide (HSz6.out.grow HBz7.out); go_wp2_with fail; refine (path_any 4 (by omega) z7).mono ?_
          rintro e z8 ⟨rfl, hbz8⟩; have HBz8 := hide (show Below z7.heap.size z7 z8 from hbz8); clear hbz8; dsimp only; have HSz8 := hide (HSz7.out.grow HBz8.out); go_wp2_with (refine wpList_value (o := ⟨some 76, _, _, _, _, _⟩) rfl (.agg (mC (hN q2) (pN 4)).toArray) z8 (exec_made2 (o := ⟨some 76, _, _, _, _, _⟩) (hN q2) (pN 4) (hN_ok _) (pN_ok _) (.tmp 74) (.tmp 75) rfl rfl rfl z8) ?_)
          obtain ⟨q3, hq3, lq3⟩ : ∃ a : Nat, (3 - (n : Int) / 256 % 2 : Int) = (a : Int) ∧ a < 9 := ⟨((3 - (n : Int) / 256 % 2 : Int)).toNat, by omega, by omega⟩
          rw [hq3]; refine (class_any q3 (by omega) z8).mono ?_
          rintro e z9 ⟨rfl, hbz9⟩; have HBz9 := hide (show Below z8.heap.size z8 z9 from hbz9); clear hbz9; dsimp only; have HSz9 := hide (HSz8.out.grow HBz9.out); go_wp2_with fail; refine (path_any 5 (by omega) z9).mono ?_
          rintro e z10 ⟨rfl, hbz10⟩; have HBz10 := hide (show Below z9.heap.size z9 z10 from hbz10); clear hbz10; dsimp only; have HSz10 := hide (HSz9.out.grow HBz10.out); obtain ⟨z11, hwz11⟩ : ∃ z11, z11 = z10.alloc (.cells ((Value.agg (mC (hN q1) (pN 3)).toArray).cells ++ (Value.agg (mC (hN q2) (pN 4)).toArray).cells ++ (Value.agg (mC (hN q3) (pN 5)).toArray).cells) 60) := ⟨_, rfl⟩; have HBz11 := hide (show Below z10.heap.size z10 z11 from by rw [hwz11]; exact (Below.refl _ z10).alloc (Nat.le_refl _) _)
          have HKz11 := hide (show Blk z11 z10.heap.size 60 ((Value.agg (mC (hN q1) (pN 3)).toArray).cells ++ (Value.agg (mC (hN q2) (pN 4)).toArray).cells ++ (Value.agg (mC (hN q3) (pN 5)).toArray).cells) from by rw [hwz11]; exact Blk.new _ _ _)
          have HWz11 := hide hwz11; clear hwz11; have HSz11 := hide (HSz10.out.grow HBz11.out); obtain ⟨m2, hm2, lm2⟩ : ∃ a : Nat, ((n : Int) % 11 / 9 : Int) = (a : Int) ∧ a < 2 := ⟨(((n : Int) % 11 / 9 : Int)).toNat, by omega, by omega⟩
          have c9 := (case_cellsT HSz11.out.cq.own HSz11.out.blk).2.2.2; have f9 := HSz11.out.blk.frozen 23; have l9 := HSz11.out.blk.lt; obtain ⟨z12, hwz12⟩ : ∃ z12, z12 = z11.setCell ⟨cb, 23, none⟩ (.slice (some ⟨z10.heap.size, m2 * 41, none⟩) (3 - m2) (3 - m2)) := ⟨_, rfl⟩; obtain ⟨v3, hvv3⟩ : ∃ v3 : Cvs, v3 = { v2 with of := .slice (some ⟨z10.heap.size, m2 * 41, none⟩) (3 - m2) (3 - m2) } := ⟨_, rfl⟩; have ho3 : okH v3.own := by rw [hvv3]; exact ho2
          have HSz12 := hide (show SmS w0.heap.size w0 z12 cb v3 (.slice (some ⟨gr, 0, none⟩) 2 capr) rs by rw [hwz12, hvv3]; exact HSz11.out.setM _ (.inr ⟨z10.heap.size, _, HKz11.out, fun w' hb' => ⟨[(hN q1, pN 3), (hN q2, pN 4), (hN q3, pN 5)].drop m2, by simp, by have h := slice_tail (a := m2) (slice_three (t := 27) (L := madeLay) (x1 := (hN q1, pN 3)) (x2 := (hN q2, pN 4)) (x3 := (hN q3, pN 5)) (by decide) hb' hb'.lt (madeLay_at.2 ⟨rfl, hN_ok q1, pN_ok 3⟩) (madeLay_at.2 ⟨rfl, hN_ok q2, pN_ok 4⟩) (madeLay_at.2 ⟨rfl, hN_ok q3, pN_ok 5⟩)) (by omega); rwa [Nat.zero_add] at h⟩⟩))
          have HXz12 := hide (show Blk (z11.setCell ⟨cb, 23, none⟩ (.slice (some ⟨z10.heap.size, m2 * 41, none⟩) (3 - m2) (3 - m2))) cb 29 (caseC v3).toArray by rw [← hwz12]; exact HSz12.out.blk)
          have HWz12 := hide hwz12; have HVv3 := hide hvv3; clear hwz12 hvv3; obtain ⟨f1, hf1, lf1⟩ : ∃ a : Nat, (6 + (n : Int) % 3 * 5 : Int) = (a : Int) ∧ a < 30 := ⟨((6 + (n : Int) % 3 * 5 : Int)).toNat, by omega, by omega⟩
          go_wp2_with (first | (refine wpList_value (o := ⟨some 83, _, _, _, _, _⟩) rfl (.agg (mC (hN q3) (pN 5)).toArray) z10 (exec_made2 (o := ⟨some 83, _, _, _, _, _⟩) (hN q3) (pN 5) (hN_ok _) (pN_ok _) (.tmp 81) (.tmp 82) rfl rfl rfl z10) ?_) | (refine wpList_value (o := ⟨some 84, _, _, _, _, _⟩) rfl (.slice (some ⟨z10.heap.size, 0, none⟩) 3 3) z11 (by rw [HWz11.out]; kernel_rfl) ?_) | (refine wpList_value (o := ⟨some 88, _, _, _, _, _⟩) rfl (.slice (some ⟨z10.heap.size, m2 * 41, none⟩) (3 - m2) (3 - m2)) z11 (by have h := exec_slice_fromN (o := ⟨some 88, _, _, _, _, _⟩) 27 (.tmp 84) (.tmp 87) rfl Try.underlying27 sz_made z10.heap.size 0 3 3 m2 rfl rfl (by omega) (by omega) z11; rwa [Nat.zero_add] at h) ?_) | (refine wpList_value (o := ⟨some 90, _, _, _, _, _⟩) rfl (.agg (caseC v3).toArray) _ (exec_load_blk (o := ⟨some 90, _, _, _, _, _⟩) 29 (.tmp 2) rfl cb rfl 29 _ _ _ HXz12.out Try.underlying29 rfl (csz ho3)) ?_))
          rw [← HWz12.out]; clear c9 f9 l9; have ho3o : v3.opts = .slice (some ⟨gr, 0, none⟩) 2 capr := by rw [HVv3.out, HVv2.out, HVv1.out]
          obtain ⟨c1x, hc, hl⟩ := case_of HSz12.out.cq (R := cb + 1) (rs := rs) (by rw [ho3o]; exact HSz12.out.rq) (Nat.le_of_eq HRL.out)
          have HCc1x := hide (And.intro hc hl); clear hc hl; refine (pickLeast_any z12 v3 c1x HCc1x.out.2 HCc1x.out.1 (f1 : Int) (by omega)).mono ?_
          rintro e z13 ⟨rfl, hb⟩; have HBz13 := hide (show Below z12.heap.size z12 z13 from hb); clear hb; dsimp only; have HSz13 := hide (HSz12.out.grow HBz13.out); obtain ⟨d1, hd1, ld1⟩ : ∃ a : Nat, ((n : Int) % 2 : Int) = (a : Int) ∧ a < 2 := ⟨(((n : Int) % 2 : Int)).toNat, by omega, by omega⟩
          obtain ⟨d2, hd2, ld2⟩ : ∃ a : Nat, ((n : Int) / 2 % 2 : Int) = (a : Int) ∧ a < 2 := ⟨(((n : Int) / 2 % 2 : Int)).toNat, by omega, by omega⟩
          obtain ⟨z14, hwz14⟩ : ∃ z14, z14 = z13.alloc (.cells (#[.int .i64 (d1 : Int), .int .i64 (d2 : Int)]) 3) := ⟨_, rfl⟩; have HBz14 := hide (show Below z13.heap.size z13 z14 from by rw [hwz14]; exact (Below.refl _ z13).alloc (Nat.le_refl _) _)
          have HKz14 := hide (show Blk z14 z13.heap.size 3 (#[.int .i64 (d1 : Int), .int .i64 (d2 : Int)]) from by rw [hwz14]; exact Blk.new _ _ _)
          have HWz14 := hide hwz14; clear hwz14; have HSz14 := hide (HSz13.out.grow HBz14.out); go_wp2_with (refine wpList_value_w (o := ⟨some 98, _, _, _, _, _⟩) (by kernel_rfl) (.agg (caseC v3).toArray) _ (exec_load_blk (o := ⟨some 98, _, _, _, _, _⟩) 29 (.tmp 2) rfl cb rfl 29 _ _ _ HSz13.out.blk Try.underlying29 rfl (csz ho3)) ?_)
          rw [← HWz14.out]; have HDc1x := hide (HBz13.out.trans (Below.mono HBz14.out HBz13.out.size)); refine (pickFree_any z14 v3 c1x HCc1x.out.2 ((HCc1x.out.1.alike (HDc1x.out).block).widen (HDc1x.out).size) [(d1 : Int), (d2 : Int)] _ (intLay_two HKz14.out (by omega) (by omega))).mono ?_
          rintro e z15 ⟨rfl, hb⟩; have HBz15 := hide (show Below z14.heap.size z14 z15 from hb); clear hb; dsimp only; have HSz15 := hide (HSz14.out.grow HBz15.out); by_cases h16 : (n : Int) % 16 = 0
          · obtain ⟨j, hj, lj⟩ : ∃ a : Nat, ((n : Int) / 16 % 2 : Int) = (a : Int) ∧ a < 2 := ⟨(((n : Int) / 16 % 2 : Int)).toNat, by omega, by omega⟩
            have j0 : (0 : Int) ≤ (j : Int) := by omega
            have j1 : (j : Int) < 2 := by omega
            have c9 : z15.cell? ⟨cb, 22, none⟩ = some (.slice (some ⟨gr, 0, none⟩) 2 capr) := by rw [← ho3o]; exact (case_cellsT HSz15.out.cq.own HSz15.out.blk).2.2.1
            have hro : z15.ownsRow (cb + 1) 57 1 (.slice (some ⟨gr, 0, none⟩) 2 capr) 2 (flR rs) := by have h := HSz15.out.rq.own; rwa [HRL.out] at h
            obtain ⟨cg, fg⟩ := own_cell hro j (by omega)
            obtain ⟨ug, hug⟩ : ∃ u, (flR rs)[j]? = some u := ⟨_, List.getElem?_eq_getElem (by rw [flR_len, HRL.out]; omega)⟩
            rw [hug] at cg
            have lg := (own_le hro).2; obtain ⟨rs2, hrs2⟩ : ∃ rs2, rs2 = rs.set j ([], .slice none 0 0) := ⟨_, rfl⟩; have hrl2 : rs2.length = 2 := by rw [hrs2, List.length_set]; exact HRL.out
            obtain ⟨z16, hwz16⟩ : ∃ z16, z16 = z15.setCell ⟨gr, j, none⟩ (.slice none 0 0) := ⟨_, rfl⟩; have HSz16 := hide (show SmS w0.heap.size w0 z16 cb v3 (.slice (some ⟨gr, 0, none⟩) 2 capr) rs2 by rw [hwz16, hrs2]; exact HSz15.out.nilrow HRL.out.symm j)
            have HXz16 := hide (show Blk (z15.setCell ⟨gr, j, none⟩ (.slice none 0 0)) cb 29 (caseC v3).toArray by rw [← hwz16]; exact HSz16.out.blk)
            have HWz16 := hide hwz16; have HRL2 := hide hrl2; clear hwz16 hrs2 hrl2 hug hro; go_wp2_with (refine wpList_value (o := ⟨some 117, _, _, _, _, _⟩) rfl (.agg (caseC v3).toArray) _ (exec_load_blk (o := ⟨some 117, _, _, _, _, _⟩) 29 (.tmp 2) rfl cb rfl 29 _ _ _ HXz16.out Try.underlying29 rfl (csz ho3)) ?_)
            rw [← HWz16.out]; clear c9 cg fg lg; obtain ⟨c2x, hc, hl⟩ := case_of HSz16.out.cq (R := cb + 1) (rs := rs2) (by rw [ho3o]; exact HSz16.out.rq) (Nat.le_of_eq HRL2.out)
            have HCc2x := hide (And.intro hc hl); clear hc hl; refine (pickLeast_any z16 v3 c2x HCc2x.out.2 HCc2x.out.1 _ (by omega)).mono ?_
            rintro e z17 ⟨rfl, hb⟩; have HBz17 := hide (show Below z16.heap.size z16 z17 from hb); clear hb; dsimp only; have HSz17 := hide (HSz16.out.grow HBz17.out); obtain ⟨z18, hwz18⟩ : ∃ z18, z18 = z17.alloc (.cells (#[.int .i64 0, .int .i64 0]) 3) := ⟨_, rfl⟩; have HBz18 := hide (show Below z17.heap.size z17 z18 from by rw [hwz18]; exact (Below.refl _ z17).alloc (Nat.le_refl _) _)
            have HKz18 := hide (show Blk z18 z17.heap.size 3 (#[.int .i64 0, .int .i64 0]) from by rw [hwz18]; exact Blk.new _ _ _)
            have HWz18 := hide hwz18; clear hwz18; have HSz18 := hide (HSz17.out.grow HBz18.out); go_wp2_with (refine wpList_value_w (o := ⟨some 124, _, _, _, _, _⟩) (by kernel_rfl) (.agg (caseC v3).toArray) _ (exec_load_blk (o := ⟨some 124, _, _, _, _, _⟩) 29 (.tmp 2) rfl cb rfl 29 _ _ _ HSz17.out.blk Try.underlying29 rfl (csz ho3)) ?_)
            rw [← HWz18.out]; have HDc2x := hide (HBz17.out.trans (Below.mono HBz18.out HBz17.out.size)); refine (pickFree_any z18 v3 c2x HCc2x.out.2 ((HCc2x.out.1.alike (HDc2x.out).block).widen (HDc2x.out).size) [0, 0] _ (intLay_two HKz18.out (by omega) (by omega))).mono ?_
            rintro e z19 ⟨rfl, hb⟩; have HBz19 := hide (show Below z18.heap.size z18 z19 from hb); clear hb; dsimp only; have HSz19 := hide (HSz18.out.grow HBz19.out); obtain ⟨m3, hm3, lm3⟩ : ∃ a : Nat, ((n : Int) / 32 % 2 : Int) = (a : Int) ∧ a < 2 := ⟨(((n : Int) / 32 % 2 : Int)).toNat, by omega, by omega⟩
            have c9 := (case_cellsT HSz19.out.cq.own HSz19.out.blk).2.2.1; have f9 := HSz19.out.blk.frozen 22; have l9 := HSz19.out.blk.lt; obtain ⟨z20, hwz20⟩ : ∃ z20, z20 = z19.setCell ⟨cb, 22, none⟩ (.slice (some ⟨gr, 0, none⟩) m3 capr) := ⟨_, rfl⟩; obtain ⟨v4, hvv4⟩ : ∃ v4 : Cvs, v4 = { v3 with opts := .slice (some ⟨gr, 0, none⟩) m3 capr } := ⟨_, rfl⟩; have ho4 : okH v4.own := by rw [hvv4]; exact ho3
            have HSz20 := hide (show SmS w0.heap.size w0 z20 cb v4 (.slice (some ⟨gr, 0, none⟩) 2 capr) rs2 by rw [hwz20, hvv4]; exact HSz19.out.setO _)
            have HXz20 := hide (show Blk (z19.setCell ⟨cb, 22, none⟩ (.slice (some ⟨gr, 0, none⟩) m3 capr)) cb 29 (caseC v4).toArray by rw [← hwz20]; exact HSz20.out.blk)
            have HWz20 := hide hwz20; have HVv4 := hide hvv4; clear hwz20 hvv4; go_wp2_with (first | (refine wpList_value (o := ⟨some 133, _, _, _, _, _⟩) rfl (.slice (some ⟨gr, 0, none⟩) m3 capr) z19 (exec_slice_toN (o := ⟨some 133, _, _, _, _, _⟩) 26 (.tmp 129) (.tmp 132) rfl Try.underlying26 sz_row _ 2 capr m3 rfl rfl (by omega) z19) ?_) | (refine wpList_value (o := ⟨some 135, _, _, _, _, _⟩) rfl (.agg (caseC v4).toArray) _ (exec_load_blk (o := ⟨some 135, _, _, _, _, _⟩) 29 (.tmp 2) rfl cb rfl 29 _ _ _ HXz20.out Try.underlying29 rfl (csz ho4)) ?_))
            rw [← HWz20.out]; clear c9 f9 l9; have ho4o : v4.opts = .slice (some ⟨gr, 0, none⟩) m3 capr := by rw [HVv4.out]
            obtain ⟨c3x, hc, hl⟩ := case_of HSz20.out.cq (R := cb + 1) (rs := rs2.take m3) (by rw [ho4o]; exact HSz20.out.rq.cut HRL2.out.symm (by omega)) (by rw [List.length_take]; omega)
            have HCc3x := hide (And.intro hc hl); clear hc hl; refine (pickLeast_any z20 v4 c3x HCc3x.out.2 HCc3x.out.1 50 (by omega)).mono ?_
            rintro e z21 ⟨rfl, hb⟩; have HBz21 := hide (show Below z20.heap.size z20 z21 from hb); clear hb; dsimp only; have HSz21 := hide (HSz20.out.grow HBz21.out); obtain ⟨z22, hwz22⟩ : ∃ z22, z22 = z21.alloc (.cells (#[.int .i64 0]) 3) := ⟨_, rfl⟩; have HBz22 := hide (show Below z21.heap.size z21 z22 from by rw [hwz22]; exact (Below.refl _ z21).alloc (Nat.le_refl _) _)
            have HKz22 := hide (show Blk z22 z21.heap.size 3 (#[.int .i64 0]) from by rw [hwz22]; exact Blk.new _ _ _)
            have HWz22 := hide hwz22; clear hwz22; have HSz22 := hide (HSz21.out.grow HBz22.out); go_wp2_with (refine wpList_value_w (o := ⟨some 139, _, _, _, _, _⟩) (by kernel_rfl) (.agg (caseC v4).toArray) _ (exec_load_blk (o := ⟨some 139, _, _, _, _, _⟩) 29 (.tmp 2) rfl cb rfl 29 _ _ _ HSz21.out.blk Try.underlying29 rfl (csz ho4)) ?_)
            rw [← HWz22.out]; have HDc3x := hide (HBz21.out.trans (Below.mono HBz22.out HBz21.out.size)); refine (pickFree_any z22 v4 c3x HCc3x.out.2 ((HCc3x.out.1.alike (HDc3x.out).block).widen (HDc3x.out).size) [0] _ (intLay_one HKz22.out (by omega))).mono ?_
            rintro e z23 ⟨rfl, hb⟩; have HBz23 := hide (show Below z22.heap.size z22 z23 from hb); clear hb; dsimp only; have HSz23 := hide (HSz22.out.grow HBz23.out); have HDD := hide (HDc3x.out.trans (Below.mono HBz23.out HDc3x.out.size)); go_wp2_with (refine wpList_value_w (o := ⟨some 145, _, _, _, _, _⟩) (by kernel_rfl) (.agg (caseC v4).toArray) _ (exec_load_blk (o := ⟨some 145, _, _, _, _, _⟩) 29 (.tmp 2) rfl cb rfl 29 _ _ _ HSz23.out.blk Try.underlying29 rfl (csz ho4)) ?_)
            refine (pickFree_any z23 v4 c3x HCc3x.out.2 ((HCc3x.out.1.alike HDD.out.block).widen HDD.out.size) [] (.slice none 0 0) intLay_nil).mono ?_; rintro e z24 ⟨rfl, hb⟩; have HBz24 := hide (show Below z23.heap.size z23 z24 from hb); clear hb; dsimp only; have HSz24 := hide (HSz23.out.grow HBz24.out); go_wp2_with fail; go_roundw
            case rel => exact ⟨n + 1, by omega, by go_num, HB.out.trans (Below.mono HSz24.out.below HB.out.size)⟩
            case measure => simp [intOf]; omega
          · go_wp2_with fail
            go_roundw
            case rel => exact ⟨n + 1, by omega, by go_num, HB.out.trans (Below.mono HSz15.out.below HB.out.size)⟩
            case measure => simp [intOf]; omega
    · obtain rfl : n = 4096 := by omega
      have hsz0 := csz (v := vZ) rfl; obtain ⟨cz, hcz, hlz⟩ := case_of (w := w0) (v := vZ) (R := 0) (rs := []) ⟨rfl, .inl rfl, .inl rfl, .inl rfl⟩ (RQ.nil _ _) (by simp)
      have HCZ := hide (And.intro hcz hlz); clear hcz hlz; go_wp2_with (refine wpList_value (o := ⟨some 149, _, _, _, _, _⟩) rfl (.agg (caseC vZ).toArray) w0 (by kernel_rfl) ?_)
      refine (pickLeast_any w0 vZ cz HCZ.out.2 HCZ.out.1 0 (by omega)).mono ?_
      rintro e x1 ⟨rfl, hb⟩; have HBx1 := hide (show Below w0.heap.size w0 x1 from hb); clear hb; dsimp only; go_wp2_with fail; refine (path_any 1 (by omega) x1).mono ?_
      rintro e x2 ⟨rfl, hb⟩; have HBx2 := hide (show Below x1.heap.size x1 x2 from hb); clear hb; dsimp only; obtain ⟨x3, hwx3⟩ : ∃ x3, x3 = x2.alloc (.cells ((Value.agg (pC (pN 1)).toArray).cells) 53) := ⟨_, rfl⟩; have HBx3 := hide (show Below x2.heap.size x2 x3 from by rw [hwx3]; exact (Below.refl _ x2).alloc (Nat.le_refl _) _)
      have HKx3 := hide (show Blk x3 x2.heap.size 53 ((Value.agg (pC (pN 1)).toArray).cells) from by rw [hwx3]; exact Blk.new _ _ _)
      have HWx3 := hide hwx3; clear hwx3; go_wp2_with (refine wpList_value_w (o := ⟨some 153, _, _, _, _, _⟩) (by kernel_rfl) (.slice (some ⟨x2.heap.size, 0, none⟩) 1 1) x3 (by rw [HWx3.out]; exact exec_buildSliceP (o := ⟨some 153, _, _, _, _, _⟩) (v := .agg (pC (pN 1)).toArray) 24 (.tmp 152) rfl rfl Try.underlying24 sz_path (by omega) (by omega) (z := .agg zcP) (fun w => by kernel_rfl) (by rw [Value.cells, List.size_toArray, pC_len (pN_ok 1)]) x2) ?_)
      refine (path_any 1 (by omega) x3).mono ?_
      rintro e x4 ⟨rfl, hb⟩; have HBx4 := hide (show Below x3.heap.size x3 x4 from hb); clear hb; dsimp only; obtain ⟨x5, hwx5⟩ : ∃ x5, x5 = x4.alloc (.cells ((Value.agg (mC (List.replicate 20 0) (pN 1)).toArray).cells) 60) := ⟨_, rfl⟩; have HBx5 := hide (show Below x4.heap.size x4 x5 from by rw [hwx5]; exact (Below.refl _ x4).alloc (Nat.le_refl _) _)
      have HKx5 := hide (show Blk x5 x4.heap.size 60 ((Value.agg (mC (List.replicate 20 0) (pN 1)).toArray).cells) from by rw [hwx5]; exact Blk.new _ _ _)
      have HWx5 := hide hwx5; clear hwx5; obtain ⟨vY, hvY⟩ : ∃ vY : Cvs, vY = ⟨List.replicate 20 0, .slice (some ⟨x2.heap.size, 0, none⟩) 1 1, .slice none 0 0, .slice none 0 0, .slice (some ⟨x4.heap.size, 0, none⟩) 1 1⟩ := ⟨_, rfl⟩; have hb35 : Below x3.heap.size x3 x5 := HBx4.out.trans (Below.mono HBx5.out HBx4.out.size); obtain ⟨cy, hcy, hly⟩ := case_of (w := x5) (v := vY) (R := 0) (rs := []) (by rw [hvY]; exact ⟨rfl, .inl rfl, .inr ⟨x2.heap.size, _, HKx3.out.below hb35 HKx3.out.lt, fun w' hb' => ⟨[pN 1], by simp, slice_one (L := pathLay) (by decide) hb' hb'.lt (pathLay_at.2 ⟨rfl, pN_ok 1⟩)⟩⟩, .inr ⟨x4.heap.size, _, HKx5.out, fun w' hb' => ⟨[(List.replicate 20 0, pN 1)], by simp, slice_one (L := madeLay) (x1 := (List.replicate 20 0, pN 1)) (by decide) hb' hb'.lt (madeLay_at.2 ⟨rfl, rfl, pN_ok 1⟩)⟩⟩⟩) (by rw [hvY]; exact RQ.nil _ _) (by simp)
      have HCY := hide (And.intro hcy hly); have HVY := hide hvY; clear hcy hly hvY hb35; go_wp2_with (first | (refine wpList_value_w (o := ⟨some 155, _, _, _, _, _⟩) (by kernel_rfl) (.agg (mC (List.replicate 20 0) (pN 1)).toArray) x4 (by kernel_rfl) ?_) | (refine wpList_value_w (o := ⟨some 156, _, _, _, _, _⟩) (by kernel_rfl) (.slice (some ⟨x4.heap.size, 0, none⟩) 1 1) x5 (by rw [HWx5.out]; exact exec_buildSliceP (o := ⟨some 156, _, _, _, _, _⟩) (v := .agg (mC (List.replicate 20 0) (pN 1)).toArray) 27 (.tmp 155) rfl rfl Try.underlying27 sz_made (by omega) (by omega) (z := .agg zcM) (fun w => by kernel_rfl) (by kernel_rfl) x4) ?_) | (refine wpList_value_w (o := ⟨some 157, _, _, _, _, _⟩) (by kernel_rfl) (.agg (caseC vY).toArray) x5 (by rw [HVY.out]; kernel_rfl) ?_))
      refine (pickLeast_any x5 vY cy HCY.out.2 HCY.out.1 9 (by omega)).mono ?_
      rintro e x6 ⟨rfl, hb⟩; have HBx6 := hide (show Below x5.heap.size x5 x6 from hb); clear hb; dsimp only; obtain ⟨x7, hwx7⟩ : ∃ x7, x7 = x6.alloc (.cells (#[.int .i64 0]) 3) := ⟨_, rfl⟩; have HBx7 := hide (show Below x6.heap.size x6 x7 from by rw [hwx7]; exact (Below.refl _ x6).alloc (Nat.le_refl _) _)
      have HKx7 := hide (show Blk x7 x6.heap.size 3 (#[.int .i64 0]) from by rw [hwx7]; exact Blk.new _ _ _)
      have HWx7 := hide hwx7; clear hwx7; have hb17 : Below w0.heap.size w0 x7 := HBx1.out.trans (Below.mono (HBx2.out.trans (Below.mono (HBx3.out.trans (Below.mono (HBx4.out.trans (Below.mono (HBx5.out.trans (Below.mono (HBx6.out.trans (Below.mono HBx7.out HBx6.out.size)) HBx5.out.size)) HBx4.out.size)) HBx3.out.size)) HBx2.out.size)) HBx1.out.size); have H17 := hide hb17; clear hb17; go_wp2_with (refine wpList_value_w (o := ⟨some 161, _, _, _, _, _⟩) (by kernel_rfl) (.agg (caseC vZ).toArray) x6 (by kernel_rfl) ?_)
      rw [← HWx7.out]; refine (pickFree_any x7 vZ cz HCZ.out.2 ((HCZ.out.1.alike H17.out.block).widen H17.out.size) [0] _ (intLay_one HKx7.out (by omega))).mono ?_
      rintro e x8 ⟨rfl, hb⟩; have HBx8 := hide (show Below x7.heap.size x7 x8 from hb); clear hb; dsimp only; go_wp2_with fail; refine (awake24_any x8).mono ?_; rintro e x9 ⟨rfl, hb⟩; have HBx9 := hide (show Below x8.heap.size x8 x9 from hb); clear hb; dsimp only; go_wp2_with fail; go_ret
      exact ⟨rfl, HB.out.trans (Below.mono (H17.out.trans (Below.mono (HBx8.out.trans (Below.mono HBx9.out HBx8.out.size)) H17.out.size)) HB.out.size)⟩
end Go.Proofs.Ytfppddnfdinipaa
end
section
namespace Go.Proofs.Ytfppddnfdinipaa
open Go Go.ChangeShapes Go.WideShapes Go.ChangeAt Go.RowKit
set_option maxRecDepth 100000 in
theorem pickSmall_lifted (os : Os) (started : os.Started) (H : Type) (enc : TypeId × Value → H) :
    ReturnsInHanded {} Try.checked os 5 .any (Rows.pickSmallSpec.pre6 enc Try.prog Try.f5 Rows.pickSmallRow.domain false) (Rows.pickSmallSpec.post enc Try.prog Try.f5 false true false false) := by
  refine returnsInHanded_of_change_sized (C := Try.checked) Try.ownPF started (by kernel_rfl) Try.func5
    (ChangeSpec.witness6 (enc := enc) (C := Try.checked) false ⟨#[], #[], []⟩ 8 (by kernel_rfl) (by kernel_rfl) (by kernel_rfl) (by kernel_rfl)) ?_
  intro W base args ds gs before _ hW _ _ _
  have hW' := hW
  obtain ⟨p, q, hA0, hV, rfl, hfz, hnd⟩ := hW
  have hA : DataW.TrodAll enc Try.prog W 0 (fun _ => true) true Try.f5.params.toList args.toList ds p := hA0
  rw [Try.params5] at hA
  obtain ⟨rfl, rfl, rfl⟩ := trodAll_none hA
  obtain ⟨rfl, rfl⟩ := trodVars_none hV
  have fin : ∀ e W', e = Ending.returned (.bool true) ∧ Below W.heap.size W W' → ∃ v, e = .returned v ∧ Rows.pickSmallSpec.post enc Try.prog Try.f5 false true false false W #[] v W' := by
    rintro e W' ⟨rfl, hb⟩
    exact ⟨_, rfl, law_end laidOut hW' rfl rfl (by kernel_rfl) Try.underlying4 (by kernel_rfl) hb⟩
  exact (pickSmall_any W).mono fin

theorem pickSmall_holds : Rows.PickSmallSaid :=
  OpenClaim.holds_of_wide 5 Try.f5 rfl rfl rfl rfl rfl rfl rfl ⟨rfl, rfl, rfl, rfl, rfl⟩ rfl rfl rfl rfl rfl (by kernel_rfl) Try.func5 (by kernel_rfl)
    (of_decide_eq_true (by kernel_rfl)) (by unfold Func.isWrapper; first | (rw [if_pos (by decide +kernel)]; kernel_rfl) | (rw [if_neg (by decide +kernel)]; exact ⟨rfl, rfl⟩))
    (fun os started H enc _ => pickSmall_lifted os started H enc)
#print axioms pickSmall_holds
end Go.Proofs.Ytfppddnfdinipaa
end
