/- spencelaw07: puts in memory. spencelaw07: sameRuns, awake. -/
import Derived.Test.YtajeohmmobgcjaaMShape
import Derived.Test.YtajeohmmobgcjaaMBase
import Derived.Test.YtajeohmmobgcjaaMRBlobA
import Derived.Test.YtajeohmmobgcjaaMEqArr
section
namespace Go.Proofs.Ytajeohmmobgcjaa
open Go Go.RowKit
structure Put where
  b : List UInt8
  rs : List Run
  many : Int
  n : Int
/-- a put's four cells -/
structure PutCell (w : World) (B b o : Nat) (p : Put) : Prop where
  c0 : ∃ A c, w.cell? ⟨b, o, none⟩ = some (.slice A p.b.length c) ∧ BytesAt w B (.slice A p.b.length c) p.b ∧ (A = none → c = 0)
  c1 : ∃ A c, w.cell? ⟨b, o + 1, none⟩ = some (.slice A p.rs.length c) ∧ RunsM w B (.slice A p.rs.length c) p.rs
  c2 : w.cell? ⟨b, o + 2, none⟩ = some (.int .i64 p.many)
  c3 : w.cell? ⟨b, o + 3, none⟩ = some (.int .i64 p.n)
  k2 : -9223372036854775808 ≤ p.many ∧ p.many ≤ 9223372036854775807
  k3 : -9223372036854775808 ≤ p.n ∧ p.n ≤ 9223372036854775807
def PutsM (w : World) (B : Nat) (v : Value) (ls : List Put) : Prop :=
  ∃ A cap, v = .slice A ls.length cap ∧ ls.length ≤ cap ∧ (0 < ls.length → ∃ b off, A = some ⟨b, off, none⟩ ∧ b < B ∧ ∀ j p, ls[j]? = some p → PutCell w B b (off + j * 4) p)
theorem PutCell.alike {w w' : World} {B b o : Nat} {p : Put} (h : PutCell w B b o p) (hb : b < B) (ha : Alike B w w') : PutCell w' B b o p := by
  obtain ⟨A, c, h1, h2, h3⟩ := h.c0
  obtain ⟨A', c', k1, k2⟩ := h.c1
  have e : ∀ q, w'.cell? ⟨b, q, none⟩ = w.cell? ⟨b, q, none⟩ := fun q => ha.cell (p := ⟨b, q, none⟩) hb
  exact ⟨⟨A, c, (e _).trans h1, h2.alike ha, h3⟩, ⟨A', c', (e _).trans k1, k2.alike ha⟩, (e _).trans h.c2, (e _).trans h.c3, h.k2, h.k3⟩
theorem PutsM.alike {w w' : World} {B : Nat} {v : Value} {ls : List Put} (h : PutsM w B v ls) (ha : Alike B w w') : PutsM w' B v ls := by
  obtain ⟨A, cap, hv, hc, hA⟩ := h
  exact ⟨A, cap, hv, hc, fun h0 => by
    obtain ⟨b, off, h1, h2, h3⟩ := hA h0
    exact ⟨b, off, h1, h2, fun j p hj => (h3 j p hj).alike h2 ha⟩⟩
/-- how much some puts have -/
def load (ls : List Put) : Nat := (ls.map fun p => p.b.length + 10 * p.rs.length).sum
theorem load_take (ls : List Put) (k : Nat) (p : Put) (h : ls[k]? = some p) : load (ls.take (k + 1)) = load (ls.take k) + (p.b.length + 10 * p.rs.length) := by
  obtain ⟨hi, he⟩ := List.getElem?_eq_some_iff.1 h
  unfold load
  rw [List.take_succ_eq_append_getElem hi, he, List.map_append, List.sum_append]
  simp
theorem load_take_le (ls : List Put) (k : Nat) : load (ls.take k) ≤ load ls := by
  have h : load ls = load (ls.take k) + load (ls.drop k) := by
    unfold load
    rw [← List.sum_append, ← List.map_append, List.take_append_drop]
  omega
theorem load_get (ls : List Put) (k : Nat) (p : Put) (h : ls[k]? = some p) : p.b.length + 10 * p.rs.length ≤ load ls := by
  have h1 := load_take ls k p h
  have h2 := load_take_le ls (k + 1)
  omega
end Go.Proofs.Ytajeohmmobgcjaa
end
section
namespace Go.Proofs.Ytajeohmmobgcjaa
open Go Go.RowKit
set_option maxRecDepth 100000
theorem run_neq_same (a b : Int) (w : World) : (binOp .neq 40 (.agg #[.int .i64 a, .int .i64 b]) (.agg #[.int .i64 a, .int .i64 b])).run Try.prog w = .ok (.bool false) w := by
  have hu := Try.underlying40
  have h1 := Try.underlying3
  go_simp
theorem RunsM.range {w : World} {B : Nat} {v : Value} {l : List Run} (h : RunsM w B v l) {k : Nat} {r : Run} (hr : l[k]? = some r) : ∃ b off cap, v = .slice (some ⟨b, off, none⟩) l.length cap ∧ w.rangeAt b (off + k * 2) [.int .i64 r.1, .int .i64 r.2] := by
  obtain ⟨A, cap, rfl, _, _, hA, _⟩ := h
  have hk := (List.getElem?_eq_some_iff.1 hr).1
  obtain ⟨b, off, rfl, _, hc⟩ := hA (by omega)
  refine ⟨b, off, cap, rfl, fun j u hu => ?_⟩
  match j, hu with
  | 0, hu => injection hu with hu; subst hu; exact (hc k r hr).1
  | 1, hu => injection hu with hu; subst hu; exact (hc k r hr).2
set_option maxHeartbeats 1000000 in
theorem sameRuns_any (v1 v2 : Value) (rs : List Run) (hlen : rs.length ≤ 1000000) (w : World) (h1 : RunsM w w.heap.size v1 rs) (h2 : RunsM w w.heap.size v2 rs) :
    Calls Try.prog 22 #[v1, v2] w fun e w' => e = .returned (.bool true) ∧ Below w.heap.size w w' := by
  obtain ⟨A1, c1, rfl, h1'⟩ := id h1
  obtain ⟨A2, c2, rfl, h2'⟩ := id h2
  have H := hide (And.intro h1 h2)
  clear h1 h2 h1' h2'
  go_enter Try.func22, Try.ntmps22
  go_wp2_with fail
  go_loopw [5] (fun i wr => ∃ k : Nat, k ≤ rs.length ∧ i = .int .i64 (k : Int) ∧ Below w.heap.size w wr) (fun i _ => rs.length - (intOf i).toNat)
  case atStart => exact ⟨0, by omega, rfl, Below.refl _ _⟩
  case round =>
    obtain ⟨k, hk, rfl, hb⟩ := hrel
    have HB := hide hb
    clear hb
    have n2 : (0 : Int) ≤ (k : Int) := by omega
    by_cases hk2 : k < rs.length
    · have n1 : (k : Int) < (rs.length : Int) := by omega
      obtain ⟨r, hr⟩ : ∃ r, rs[k]? = some r := ⟨_, List.getElem?_eq_getElem hk2⟩
      obtain ⟨b1, o1, cc1, e1, q1⟩ := (H.out.1.below HB.out).range hr
      obtain ⟨b2, o2, cc2, e2, q2⟩ := (H.out.2.below HB.out).range hr
      injection e1 with e1 _ e1'
      injection e2 with e2 _ e2'
      subst e1 e2 e1' e2'
      have HQ := hide (And.intro q1 q2)
      have hneq := run_neq_same r.1 r.2
      clear q1 q2 hr
      go_wp2_with fail
      refine wp_made 8 [] (by kernel_rfl) (by kernel_rfl) (by intro p hp; cases hp) List.nodup_nil (by intro t ht; cases ht) ?_
      simp only [List.take_succ_cons, List.take_zero, List.drop_succ_cons, List.drop_zero]
      refine made_val (.slice (some ⟨b1, o1, none⟩) rs.length c1) (by kernel_rfl) (by kernel_rfl) (by kernel_rfl) (fun _ _ => by kernel_rfl) ?_
      simp only [Act.put, List.setIfInBounds_toArray, List.set_cons_zero, List.set_cons_succ]
      refine made_val (.int .i64 (k : Int)) (by kernel_rfl) (by kernel_rfl) (by kernel_rfl) (fun _ _ => by kernel_rfl) ?_
      simp only [Act.put, List.setIfInBounds_toArray, List.set_cons_zero, List.set_cons_succ]
      refine made_val (.pointer (some ⟨b1, o1 + (k : Int).toNat * 2, none⟩)) (by kernel_rfl) (by kernel_rfl) (by kernel_rfl) (fun W _ => exec_index_off (o := ⟨some 19, _, _, _, _, _⟩) 24 40 (.tmp 17) (.tmp 18) rfl b1 o1 rs.length c1 (k : Int) .i64 rfl rfl ⟨n2, n1⟩ 2 Try.underlying24 sz_run W) ?_
      simp only [Act.put, List.setIfInBounds_toArray, List.set_cons_zero, List.set_cons_succ]
      rw [show (k : Int).toNat = k from Int.toNat_natCast k]
      refine made_val (.agg #[.int .i64 r.1, .int .i64 r.2]) (by kernel_rfl) (by kernel_rfl) (by kernel_rfl) (fun W hW => exec_load_mid (o := ⟨some 20, _, _, _, _, _⟩) 40 (.tmp 19) rfl b1 (o1 + k * 2) rfl [.int .i64 r.1, .int .i64 r.2] _ W (fun j u hu => (hW.cell (p := ⟨b1, o1 + k * 2 + j, none⟩) (World.block_lt_of_cell? wr _ (HQ.out.1 j u hu))).trans (HQ.out.1 j u hu)) Try.underlying40 rfl sz_run) ?_
      simp only [Act.put, List.setIfInBounds_toArray, List.set_cons_zero, List.set_cons_succ]
      refine made_val (.slice (some ⟨b2, o2, none⟩) rs.length c2) (by kernel_rfl) (by kernel_rfl) (by kernel_rfl) (fun _ _ => by kernel_rfl) ?_
      simp only [Act.put, List.setIfInBounds_toArray, List.set_cons_zero, List.set_cons_succ]
      refine made_val (.int .i64 (k : Int)) (by kernel_rfl) (by kernel_rfl) (by kernel_rfl) (fun _ _ => by kernel_rfl) ?_
      simp only [Act.put, List.setIfInBounds_toArray, List.set_cons_zero, List.set_cons_succ]
      refine made_val (.pointer (some ⟨b2, o2 + (k : Int).toNat * 2, none⟩)) (by kernel_rfl) (by kernel_rfl) (by kernel_rfl) (fun W _ => exec_index_off (o := ⟨some 23, _, _, _, _, _⟩) 24 40 (.tmp 21) (.tmp 22) rfl b2 o2 rs.length c2 (k : Int) .i64 rfl rfl ⟨n2, n1⟩ 2 Try.underlying24 sz_run W) ?_
      simp only [Act.put, List.setIfInBounds_toArray, List.set_cons_zero, List.set_cons_succ]
      rw [show (k : Int).toNat = k from Int.toNat_natCast k]
      refine made_val (.agg #[.int .i64 r.1, .int .i64 r.2]) (by kernel_rfl) (by kernel_rfl) (by kernel_rfl) (fun W hW => exec_load_mid (o := ⟨some 24, _, _, _, _, _⟩) 40 (.tmp 23) rfl b2 (o2 + k * 2) rfl [.int .i64 r.1, .int .i64 r.2] _ W (fun j u hu => (hW.cell (p := ⟨b2, o2 + k * 2 + j, none⟩) (World.block_lt_of_cell? wr _ (HQ.out.2 j u hu))).trans (HQ.out.2 j u hu)) Try.underlying40 rfl sz_run) ?_
      simp only [Act.put, List.setIfInBounds_toArray, List.set_cons_zero, List.set_cons_succ]
      show ∀ w', _ → _
      intro w4 hb4
      simp only [ended]
      have H4 := hide (HB.out.next hb4)
      clear hb4
      go_wp2_with fail
      exact ⟨⟨k + 1, by omega, by go_num, H4.out⟩, by simp [intOf]; omega⟩
    · have n1 : ¬ (k : Int) < (rs.length : Int) := by omega
      go_wp2_with fail
      go_ret
      exact ⟨rfl, HB.out⟩
theorem find_awake : findE 1 1 5 [(1, 2)] 3 = 0 ∧ findR 1 1 5 [(1, 2)] 3 = [(0, 1), (3, 2)] ∧ needP 65 = 2 := by decide +kernel
set_option maxHeartbeats 1000000 in
theorem awake7_any (w : World) : Calls Try.prog 13 #[] w fun e w' => e = .returned (.bool true) ∧ Below w.heap.size w w' := by
  obtain ⟨f1, f2, f3⟩ := find_awake
  have hrw : RunsM ((w.alloc (.cells #[.int .i64 1, .int .i64 1, .int .i64 5] 23)).alloc (.cells #[.int .i64 1, .int .i64 2] 40)) (w.heap.size + 1 + 1) (.slice (some ⟨w.heap.size + 1, 0, none⟩) 1 1) [(1, 2)] := by
    have := runs_new (w.alloc (.cells #[.int .i64 1, .int .i64 1, .int .i64 5] 23)) [(1, 2)] (by intro r hr; obtain rfl := List.mem_singleton.1 hr; show (_ ∧ _) ∧ (_ ∧ _); omega)
    rw [size_alloc] at this
    exact this
  have HRW := hide hrw
  have hb0 : Below w.heap.size w ((w.alloc (.cells #[.int .i64 1, .int .i64 1, .int .i64 5] 23)).alloc (.cells #[.int .i64 1, .int .i64 2] 40)) := ((Below.refl _ w).alloc (Nat.le_refl _) _).al _
  have HB0 := hide hb0
  clear hrw hb0
  go_enter Try.func13, Try.ntmps13
  go_wp2_with fail
  refine (lfind_any 1 1 5 (fun _ => by omega) _ [(1, 2)] (by simp) 3 _ (by simpa using HRW.out)).mono ?_
  rintro e w1 ⟨o, rfl, ho, hb1⟩
  rw [f1]
  rw [f2] at ho
  have H1 := hide (And.intro ho (HB0.out.next hb1))
  clear ho hb1
  dsimp only
  go_wp2_with fail
  have hr1 := runs_new w1 [(0, 1), (3, 2)] (by
    intro r hr
    have : r = (0, 1) ∨ r = (3, 2) := by simpa using hr
    rcases this with rfl | rfl <;> (show (_ ∧ _) ∧ (_ ∧ _); omega))
  have hb2 : Below w1.heap.size w1 (w1.alloc (.cells #[.int .i64 0, .int .i64 1, .int .i64 3, .int .i64 2] 40)) := (Below.refl _ _).alloc (Nat.le_refl _) _
  obtain ⟨A, cap, rfl, hm⟩ := H1.out.1.m
  refine (sameRuns_any _ _ [(0, 1), (3, 2)] (by simp) _ (hm.below hb2) (by rw [size_alloc]; exact hr1)).mono ?_
  rintro e w2 ⟨rfl, hb3⟩
  have H2 := hide ((H1.out.2.next hb2).next hb3)
  clear hb2 hb3 hr1 hm
  dsimp only
  go_wp2_with fail
  refine (need_any 65 (by omega) _).mono ?_
  rintro e w3 ⟨rfl, rfl⟩
  rw [f3]
  dsimp only
  go_wp2_with fail
  go_ret
  exact ⟨rfl, H2.out⟩
end Go.Proofs.Ytajeohmmobgcjaa
end
