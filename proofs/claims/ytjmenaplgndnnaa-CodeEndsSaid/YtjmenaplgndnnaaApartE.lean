/- spencekit.ApartBytes: rows of bytes that lie apart are told to. -/
import Derived.Test.YtjmenaplgndnnaaApartD
namespace Go.Proofs.Ytjmenaplgndnnaa
open Go Go.RowKit
set_option maxRecDepth 100000 in
set_option maxHeartbeats 1000000 in
theorem putBytes_any (g R n n1 c1 : Nat) (A1 : Option Addr) (v : Value) (us : List Value) (hn : n ≤ 100000) (w : World) (hR : R ≤ w.heap.size) (hg : R ≤ g) (hb : Blk w g 97 (bagOf v)) (ho : w.ownsRow R 26 1 v n us) :
    Calls Try.prog 45 #[.pointer (some ⟨g, 0, none⟩), .slice A1 n1 c1] w fun e w' => e = .returned (.tuple #[]) ∧ ∃ v', Blk w' g 97 (bagOf v') ∧ w'.ownsRow R 26 1 v' (n + 1) (us ++ [.slice A1 n1 c1]) ∧ Below R w w' := by
  obtain ⟨ir, hir, rz0, rz1, rz2⟩ := info_parts info_row
  have c5 := (hb.cell 5).trans (bag_five v)
  have hlt := hb.lt
  have hne := owned_ne ho hb (by decide)
  have H := hide (And.intro hb (And.intro ho hne))
  clear hb ho hne
  go_enter Try.func45, Try.ntmps45
  go_wp2_with (at_builtin; (refine wpList_app (o := ⟨some 11, _, _, _, _, _⟩) rfl (.tmp 8) (.tmp 10) 48 rfl R 26 ir (.slice none 0 0) 24 Try.underlying48 hir rz0 rz1 rz2 rfl v n us (H.out.2.1.alloc _) _ 1 1 [.slice A1 n1 c1] (src_one _ _ _ rfl) ?h1 ?h2 ?h3 rfl rfl ?_))
  case h1 => simp only [maxLen]; omega
  case h2 => omega
  case h3 => rw [size_alloc]; omega
  intro v2 w2 own2 gr2 _ _
  have hb2 := (H.out.1.alloc (.cells #[.slice A1 n1 c1] 26)).grown gr2 (fun e => H.out.2.2 e.symm)
  have hbel : Below R w w2 := ((Below.refl R w).alloc hR _).grown gr2 (by rw [size_alloc]; omega) (fun q hq => (owned_lt H.out.2.1 hq).1)
  obtain ⟨A2, k2, rfl⟩ := owned_slice own2
  have c2 := (hb2.cell 5).trans (bag_five v)
  have f2 := hb2.frozen 5
  have hlt2 := hb2.lt
  have H2 := hide (And.intro hb2 (And.intro own2 hbel))
  clear hb2 own2 gr2 hbel c5
  go_wp2_with fail
  go_end0
  refine ⟨rfl, .slice A2 (n + 1) k2, ?_, ?_, H2.out.2.2.setCell (by exact hg) _⟩
  · have h1 := H2.out.1.set_ 5 (.slice A2 (n + 1) k2)
    rwa [bag_set] at h1
  · exact owned_keep H2.out.2.1 fun q hq _ => Below.heap_setCell w2 _ _ q (by rintro rfl; exact owned_ne H2.out.2.1 H2.out.1 (by decide) hq)
theorem range_get (us : Nat → Value) (m j : Nat) (h : j < m) : ((List.range m).map us)[j]? = some (us j) := by simp [h]
set_option maxRecDepth 100000 in
set_option maxHeartbeats 1000000 in
theorem apartBytes_any (R q m cap : Nat) (us : Nat → Value) (ns : Nat → Nat) (L0 : Nat → List UInt8) (hm0 : 0 < m) (hm : m ≤ 1000) (w : World) (hR : R ≤ w.heap.size) (hq : q < w.heap.size) (hr0 : Rows8 w R q m us ns L0) (hp : Parted q m us ns) :
    Calls Try.prog 21 #[.slice (some ⟨q, 0, none⟩) m cap] w fun e w' => e = .returned (.bool true) ∧ Turned (RS m us) w w' := by
  obtain ⟨g, hg⟩ : ∃ g, g = w.heap.size := ⟨_, rfl⟩
  have HG := hide hg
  have HX := hide (And.intro hr0 hp)
  obtain ⟨w0, hw0⟩ : ∃ w0, w0 = w.alloc (.cells (bagOf (.slice none 0 0)) 97) := ⟨_, rfl⟩
  have hb0 : Blk w0 g 97 (bagOf (.slice none 0 0)) := by rw [hw0, hg]; exact Blk.new _ _ _
  have hbel0 : Below g w w0 := by rw [hw0, hg]; exact (Below.refl _ _).alloc (Nat.le_refl _) _
  have HW := hide hw0
  have H0 := hide (And.intro hb0 hbel0)
  clear hg hr0 hp hw0 hb0 hbel0
  go_enter Try.func21, Try.ntmps21
  go_wp2_with fail
  rw [← HG.out]
  go_loopw [4] (fun v wr => ∃ (k : Nat) (vb : Value), k ≤ m ∧ v = .int .i64 (k : Int) ∧ Blk wr g 97 (bagOf vb) ∧ wr.ownsRow g 26 1 vb k ((List.range k).map us) ∧ Below g w wr) (fun v _ => m - (intOf v).toNat)
  case atStart =>
    have h := H0.out
    rw [HW.out] at h
    exact ⟨0, .slice none 0 0, by omega, rfl, h.1, ⟨rfl, .inl ⟨rfl, rfl⟩⟩, h.2⟩
  case round =>
    obtain ⟨k, vb, hk, rfl, hb, ho, hbel⟩ := hrel
    have hgs : g ≤ wr.heap.size := by have := hbel.size; have := HG.out; omega
    have HY := hide (And.intro hb (And.intro ho hbel))
    clear hb ho hbel H0 HW
    by_cases hkm : k < m
    · have n1 : (0 : Int) ≤ (k : Int) := by omega
      have n2 : (k : Int) < (m : Int) := by omega
      obtain ⟨A, c, hu⟩ := owned_slice (HX.out.1.own k hkm)
      have cq := (HY.out.2.2.cell (p := ⟨q, k, none⟩) (by show q < g; have := HG.out; omega)).trans (HX.out.1.cell k hkm)
      rw [hu] at cq
      have HU := hide hu
      clear hu
      go_wp2_with (go_at_call 45; refine (putBytes_any g g k (ns k) c A vb ((List.range k).map us) (by omega) _ hgs (Nat.le_refl _) HY.out.1 HY.out.2.1).mono ?_; rintro e w1 ⟨rfl, v1, hb1, ho1, hbel1⟩; have H1 := hide (And.intro hb1 (And.intro ho1 hbel1)); clear hb1 ho1 hbel1)
      go_roundw
      case rel =>
        refine ⟨k + 1, v1, by omega, by go_num, H1.out.1, ?_, HY.out.2.2.trans H1.out.2.2⟩
        rw [List.range_succ, List.map_append, List.map_cons, List.map_nil, HU.out]
        exact H1.out.2.1
      case measure => simp [intOf]; omega
    · obtain rfl : m = k := by omega
      obtain ⟨q2, cap2, hvb, _⟩ := own_place HY.out.2.1 hm0
      have ho := HY.out.2.1
      rw [hvb] at ho
      have hwg : w.heap.size ≤ wr.heap.size := HY.out.2.2.size
      have hr2 : Rows8 wr R q2 m us ns L0 := ⟨fun j hj => owned_keep (HX.out.1.own j hj) fun b _ hlt => HY.out.2.2.block b (by have := HG.out; omega), fun j hj => (own_cell ho j hj).1.trans (range_get us m j hj)⟩
      have hp2 : Parted q2 m us ns := ⟨HX.out.2.dis, by
        rintro ⟨j, hj, hg⟩
        have h1 := (owned_lt (HX.out.1.own j hj) hg).2
        have h2 : g ≤ q2 := (owned_lt ho rfl).1
        have := HG.out
        omega, HX.out.2.small⟩
      have hb2 := HY.out.1
      rw [hvb] at hb2
      have HZ := hide (And.intro hr2 (And.intro hp2 hb2))
      have hRw : R ≤ wr.heap.size := by omega
      clear ho hr2 hp2 hb2 hvb
      go_wp2_with (go_at_call 46; refine (bagApart_any R q2 m cap2 g us ns L0 hm0 hm _ hRw HZ.out.1 HZ.out.2.1 HZ.out.2.2).mono ?_; rintro e w1 ⟨rfl, ht1⟩; have H1 := hide ht1; clear ht1)
      go_ret
      have hbw : Below w.heap.size w wr := by rw [← HG.out]; exact HY.out.2.2
      exact ⟨rfl, (Turned.of_below hbw (RS m us)).trans H1.out⟩
end Go.Proofs.Ytjmenaplgndnnaa
