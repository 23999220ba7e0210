/- spencekit: lists that are lent, with marks behind them. spencekit: marks of texts, of paths. spencekit: LentPaths, LentMades. spencekit: KeptPaths. spencekit: LentInts, KeptInts. rows of options that are built anew: what the laws of pick hand to both answers. the region law of XFreMade: an operation that looks at three made slots. cases that are lent: rows with twelve marks behind; an append onto a row of no room. -/
import Derived.Test.YtfppddnfdinipaaBytes
import Derived.Test.YtfppddnfdinipaaFreshTail
import Derived.Test.YtfppddnfdinipaaBase3
import Derived.OwnWalk
import Derived.Laws.AppendOwnNone
import Derived.Test.YtfppddnfdinipaaMX4
import Derived.Test.YtfppddnfdinipaaMX1
import Derived.Test.YtfppddnfdinipaaFre2
section
namespace Go.Proofs.Ytfppddnfdinipaa
open Go.RowKit
/-- the mark of a place in a list of bytes -/
def mk (k i : Nat) : UInt8 := UInt8.ofNat ((1000003 * (k + 7) + i) * 11400714819323198485 % 18446744073709551616 / 72057594037927936)
theorem wrap_u64 (n : Nat) : IntKind.u64.wrap (n : Int) = ((n % 18446744073709551616 : Nat) : Int) := by simp [IntKind.wrap, IntKind.signed, IntKind.bits]
theorem mark_val (m : Nat) : IntKind.u64.wrap (IntKind.u64.wrap (m : Int) * 11400714819323198485) / 72057594037927936 % 256 = ((UInt8.ofNat (m * 11400714819323198485 % 18446744073709551616 / 72057594037927936)).toNat : Int) := by
  have h1 : ((m % 18446744073709551616 : Nat) : Int) * 11400714819323198485 = ((m % 18446744073709551616 * 11400714819323198485 : Nat) : Int) := by omega
  rw [wrap_u64, h1, wrap_u64]
  have h2 : ((m % 18446744073709551616 * 11400714819323198485 % 18446744073709551616 : Nat) : Int) / 72057594037927936 = ((m % 18446744073709551616 * 11400714819323198485 % 18446744073709551616 / 72057594037927936 : Nat) : Int) := by omega
  rw [h2, UInt8.toNat_ofNat', Nat.mod_mul_mod]
  rfl
set_option maxHeartbeats 400000 in
theorem mark_any (k i : Int) (hk : 0 ≤ k ∧ k ≤ 1000000000) (hi : 0 ≤ i ∧ i ≤ 1000000000) (w : World) : Calls Try.prog 56 #[.int .i64 k, .int .i64 i] w fun e w' => e = .returned (.int .i64 (1000003 * (k + 7) + i)) ∧ w' = w := by
  go_enter Try.func56, Try.ntmps56
  go_wp2
  go_ret
  exact ⟨rfl, rfl⟩
set_option maxRecDepth 100000 in
set_option maxHeartbeats 400000 in
theorem markByte_any (k i : Nat) (hk : k ≤ 1000000000) (hi : i ≤ 1000000000) (w : World) : Calls Try.prog 131 #[.int .i64 (k : Int), .int .i64 (i : Int)] w fun e w' => e = .returned (.int .u8 ((mk k i).toNat : Int)) ∧ w' = w := by
  go_enter Try.func131, Try.ntmps131
  go_wp2_with fail
  refine (mark_any (k : Int) (i : Int) (by omega) (by omega) _).mono ?_
  rintro e w' ⟨rfl, rfl⟩
  obtain ⟨m, hm⟩ : ∃ m : Nat, (m : Int) = 1000003 * ((k : Int) + 7) + i := ⟨1000003 * (k + 7) + i, by omega⟩
  rw [← hm]
  have hm2 : m = 1000003 * (k + 7) + i := by omega
  have HM := hide hm2
  clear hm hm2
  dsimp only
  repeat go_step
  go_ret
  refine ⟨ret_int ?_, rfl⟩
  rw [mark_val m, HM.out, mk]

def marks : List UInt8 := (List.range 12).map (mk 1)
theorem marks_take (i : Nat) (h : i < 12) : marks.take (i + 1) = marks.take i ++ [mk 1 i] := by
  rw [List.take_add_one, marks, List.getElem?_map, List.getElem?_range h]; rfl
theorem info5 : (Try.prog.info? 5).map (fun i => (i.zero, i.size, i.bytes)) = some (some (.int .u8 0), 1, 1) := by kernel_rfl
theorem bv_append (a b : List UInt8) : bv (a ++ b) = bv a ++ bv b := by simp [bv]
theorem bv_length (a : List UInt8) : (bv a).length = a.length := by simp [bv]
theorem bv_oneCell (a : List UInt8) : ∀ u ∈ bv a, u.oneCell' = true := by
  intro u hu
  obtain ⟨_, _, rfl⟩ := List.mem_map.1 hu
  rfl
theorem owned_blk {w : World} {base g n : Nat} {e : TypeId} {xs : List Value} (h : w.ownsRow base e 1 (.slice (some ⟨g, 0, none⟩) n n) n xs) : Blk w g e xs.toArray := by
  obtain ⟨hl, h⟩ := h
  rcases h with ⟨h, _⟩ | ⟨g', cap, cur, h, _, hb, _, _, hs, ht⟩
  · cases h
  · injection h with e1 e2 e3
    injection e1 with e1
    injection e1 with e1
    subst e1 e3
    have : cur = xs.toArray := by
      rw [← ht, List.take_of_length_le (by simp; omega)]
    rw [← this]
    exact hb
/-- the cells of bytes, as a law on append asks them -/
theorem BytesAt.cells {w : World} {B : Nat} {A : Option Addr} {n cap : Nat} {l : List UInt8} (h : BytesAt w B (.slice A n cap) l) : n = l.length ∧ l.length ≤ cap ∧ ((A = none ∨ l = []) ∨ (0 < l.length ∧ ∃ b off, A = some ⟨b, off, none⟩ ∧ b < B)) ∧ ∀ ad, A = some ad → ∀ j u, (bv l)[j]? = some u → w.cell? (ad.add j) = some u := by
  obtain ⟨A', cap', hv, hc, hA⟩ := h
  injection hv with e1 e2 e3
  subst e1 e2 e3
  refine ⟨rfl, hc, ?_, fun ad had j u hu => ?_⟩
  · rcases Nat.eq_zero_or_pos l.length with h0 | h0
    · exact .inl (.inr (List.eq_nil_of_length_eq_zero h0))
    · obtain ⟨b, off, h1, h2, _⟩ := hA h0
      exact .inr ⟨h0, b, off, h1, h2⟩
  · have hj : j < l.length := by
      have := (List.getElem?_eq_some_iff.1 hu).1
      simpa [bv] using this
    obtain ⟨b, off, h1, _, h3⟩ := hA (by omega)
    rw [h1] at had
    obtain rfl := Option.some.inj had
    have e : (⟨b, off, none⟩ : Addr).add j = ⟨b, off + j, none⟩ := by unfold Addr.add; split <;> simp_all
    rw [e, h3 j hj]
    have e2 : (bv l)[j]? = some (.int .u8 ((l.getD j 0).toNat : Int)) := by simp [bv, List.getD, hj]
    rw [e2] at hu
    exact hu

set_option maxRecDepth 100000 in
set_option maxHeartbeats 1000000 in
theorem lentBytes_any (l : List UInt8) (hl : l.length ≤ 1000000) (A : Option Addr) (n cap : Nat) (B : Nat) (w : World) (hB : B ≤ w.heap.size) (hv : BytesAt w B (.slice A n cap) l) (hnil : A = none → n = 0 ∧ cap = 0) :
    Calls Try.prog 79 #[.slice A n cap] w fun e w' => ∃ g, e = .returned (.slice (some ⟨g, 0, none⟩) l.length (l.length + 12)) ∧ w.heap.size ≤ g ∧ Blk w' g 5 (bv (l ++ marks)).toArray ∧ Below w.heap.size w w' := by
  obtain ⟨rfl, hcap, _, hcells⟩ := hv.cells
  obtain ⟨i, hi, hz0, hz1, hz2⟩ := info_parts info5
  have HV := hide hv
  have HC := hide hcells
  clear hv hcells
  go_enter Try.func79, Try.ntmps79
  go_wp2_with (at_make; refine wpList_make_own _ rfl _ _ 66 rfl w.heap.size 5 i (.int .u8 0) 1 Try.underlying66 hi hz0 hz1 _ _ _ (l.length + 12) rfl rfl ?e0 ?e1 ?e2 ?e3 ?_)
  case e0 => omega
  case e1 => rw [hz2]; omega
  case e2 => simp only [maxLen]; omega
  case e3 => exact Nat.le_refl _
  intro w1 own1 gr1
  obtain ⟨g, hg⟩ : ∃ g, g = w.heap.size := ⟨_, rfl⟩
  rw [← hg] at own1 ⊢
  have hcells1 : ∀ ad, A = some ad → ∀ j u, (bv l)[j]? = some u → w1.cell? (ad.add j) = some u := by
    intro ad had
    have hv1 : BytesAt w1 B (.slice A l.length cap) l := HV.out.alike fun k hk => gr1.block k (by omega) (by simp)
    exact hv1.cells.2.2.2 ad had
  have HC1 := hide hcells1
  have HG := hide hg
  clear hcells1 hg
  go_wp2_with (at_builtin; (refine wpList_append_fits_any w1 rfl _ _ 66 rfl g 5 i 1 Try.underlying66 hi hz1 g 0 (l.length + 12) [] rfl own1 A l.length cap (bv l) rfl ?f0 ?f1 ?f2 ?f3 ?f4 ?_))
  case f0 => simp [bv]
  case f1 => exact hnil
  case f2 => exact HC1.out
  case f3 => exact bv_oneCell l
  case f4 => omega
  intro w2 own2 gr2
  have hg := HG.out
  have hb2 : Below w.heap.size w w2 := by
    have b1 : Below w.heap.size w w1 := (Below.refl _ _).grown gr1 (Nat.le_refl _) (by simp)
    exact b1.grown gr2 b1.size (by intro k hk; injection hk with hk; omega)
  have HO := hide (And.intro own2 hb2)
  clear own1 own2 gr1 gr2 hb2 hg
  go_wp2_with fail
  go_loopw [3, 4] (fun v3 v4 wr => ∃ j : Nat, j ≤ 12 ∧ v4 = .int .i64 (j : Int) ∧ v3 = .slice (some ⟨g, 0, none⟩) (l.length + j) (l.length + 12) ∧ wr.ownsRow g 5 1 v3 (l.length + j) (bv (l ++ marks.take j)) ∧ Below w.heap.size w wr) (fun _ v4 _ => (12 - intOf v4).toNat)
  case atStart => exact ⟨0, by omega, rfl, rfl, by simpa using HO.out.1, HO.out.2⟩
  case round =>
    obtain ⟨j, hj, rfl, rfl, own3, hb3⟩ := hrel
    by_cases h12 : j < 12
    · go_wp2_with fail
      refine (markByte_any 1 j (by omega) (by omega) _).mono ?_
      rintro e w3 ⟨rfl, rfl⟩
      dsimp only
      have own4 := own3.alloc (.cells #[.int .u8 ((mk 1 j).toNat : Int)] 5)
      obtain ⟨X, hX⟩ : ∃ X, X = w3.heap.size := ⟨_, rfl⟩
      have hbx := Blk.new w3 5 #[.int .u8 ((mk 1 j).toNat : Int)]
      rw [← hX] at hbx
      have hb4 : Below w.heap.size w (w3.alloc (.cells #[.int .u8 ((mk 1 j).toNat : Int)] 5)) := hb3.alloc hb3.size _
      have HX := hide hX
      have HBX := hide hbx
      clear own3 hb3 hbx
      go_wp2_with (at_builtin; (refine wpList_append_fits _ rfl _ _ 66 rfl g 5 i 1 Try.underlying66 hi hz1 g (l.length + j) (l.length + 12) (bv (l ++ marks.take j)) rfl own4 ⟨w3.heap.size, 0, none⟩ 1 1 [.int .u8 ((mk 1 j).toNat : Int)] rfl ?h0 ?h1 ?h2 ?h3 ?_))
      case h0 => rfl
      case h1 =>
        intro q u hu
        match q, hu with
        | 0, hu =>
          have h := HBX.out.cell 0
          rw [HX.out] at h
          rw [← hu]; exact h
      case h2 =>
        intro u hu
        simp only [List.mem_singleton] at hu
        rw [hu]; rfl
      case h3 => omega
      intro w5 own5 gr5
      have HO5 := hide (And.intro own5 (And.intro gr5 hb4))
      clear own5 gr5 hb4 own4
      go_wp2_with fail
      go_roundw
      case rel =>
        obtain ⟨own5, gr5, hb4⟩ := HO5.out
        have hg := HG.out
        refine ⟨j + 1, by omega, by go_num, rfl, ?_, hb4.grown gr5 hb4.size (by intro k hk; injection hk with hk; omega)⟩
        rw [marks_take j h12, ← List.append_assoc, bv_append]
        exact own5
      case measure => simp [intOf]; omega
    · obtain rfl : j = 12 := by omega
      go_wp2_with fail
      go_ret
      refine ⟨g, rfl, by have := HG.out; omega, ?_, hb3⟩
      have h := owned_blk own3
      rwa [show marks.take 12 = marks from rfl] at h
end Go.Proofs.Ytfppddnfdinipaa
end
section
namespace Go.Proofs.Ytfppddnfdinipaa
open Go Go.RowKit Go.Maps
set_option maxRecDepth 100000
def mtB (j : Nat) : List UInt8 := [35, 1, 0, 0, 47, UInt8.ofNat j, 0, 0]
theorem exec_str {ρ : Operand → Value} {o : Oper} (src dst : TypeId) (x : Operand) (ho : o.op = .convert src dst x) (g : Nat) (hx : ρ x = .slice (some ⟨g, 0, none⟩) 8 8) (l : List UInt8) (hl : l.length = 8) (hs : Try.prog.underlying src = some (.slice 5)) (hd : Try.prog.underlying dst = some .string) (w : World) (hb : Blk w g 5 (bv l).toArray) :
    (execOp ρ o).run Try.prog w = .ok (.value (.string ⟨l.toArray⟩)) w := by
  have h := run_convert_bytes_back (P := Try.prog) w src dst 5 ⟨g, 0, none⟩ 8 l hs Try.underlying5 hd fun j hj => by
    rw [Addr.add_mid, Nat.zero_add, hb.cell]
    simp [bv, hj]
  rw [hl] at h
  unfold execOp
  simp only [ho, hx, Sem.run_bind, h, Result.andThen_ok, Sem.run_pure]
set_option maxHeartbeats 1000000 in
theorem markText_any (j : Nat) (hj : j < 12) (w : World) : Calls Try.prog 137 #[.int .i64 1, .int .i64 (j : Int)] w fun e w' => e = .returned (.string ⟨(mtB j).toArray⟩) ∧ Below w.heap.size w w' := by
  have h8 := wrap8 (n := j) (by omega)
  have j0 : (0 : Int) ≤ (j : Int) := by omega
  have j9 : (j : Int) < 12 := by omega
  have q1 : (j : Int) / 256 = 0 := by omega
  have q2 : (j : Int) / 65536 = 0 := by omega
  have e8 : ((UInt8.ofNat j).toNat : Int) = (j : Int) := by rw [UInt8.toNat_ofNat']; omega
  obtain ⟨w2, hw2⟩ : ∃ w2, w2 = w.alloc (.cells #[.int .u8 35, .int .u8 1, .int .u8 0, .int .u8 0, .int .u8 47, .int .u8 (j : Int), .int .u8 0, .int .u8 0] 5) := ⟨_, rfl⟩
  have hb2 : Below w.heap.size w w2 := by rw [hw2]; exact (Below.refl _ w).alloc (Nat.le_refl _) _
  have hk2 : Blk w2 w.heap.size 5 (bv (mtB j)).toArray := by
    rw [hw2, show (bv (mtB j)).toArray = #[.int .u8 35, .int .u8 1, .int .u8 0, .int .u8 0, .int .u8 47, .int .u8 ((UInt8.ofNat j).toNat : Int), .int .u8 0, .int .u8 0] from rfl, e8]
    exact Blk.new _ _ _
  have H2 := hide (And.intro hb2 hk2)
  have HW := hide hw2
  clear hb2 hk2 hw2 e8
  go_enter Try.func137, Try.ntmps137
  go_wp2_with (refine wpList_value (o := ⟨some 22, _, _, _, _, _⟩) rfl (.string ⟨(mtB j).toArray⟩) w2 (by rw [← HW.out]; exact exec_str (o := ⟨some 22, _, _, _, _, _⟩) 66 9 (.tmp 21) rfl w.heap.size rfl (mtB j) rfl Try.underlying66 Try.underlying9 w2 H2.out.2) ?_)
  go_ret
  exact ⟨rfl, H2.out.1⟩
/-- the mark of a place in a list of paths -/
def mp (j : Nat) : Pth := (List.replicate 20 0, ⟨(mtB j).toArray⟩)
theorem mp_ok (j : Nat) : okP (mp j) := ⟨rfl, of_decide_eq_true (by kernel_rfl)⟩
set_option maxHeartbeats 1000000 in
theorem markPath_any (j : Nat) (hj : j < 12) (w : World) : Calls Try.prog 89 #[.int .i64 1, .int .i64 (j : Int)] w fun e w' => e = .returned (.agg (pC (mp j)).toArray) ∧ Below w.heap.size w w' := by
  have hps := psz (mp_ok j)
  have hone : (pC (mp j)).toArray.all (·.oneCell') = true := all_oneCell_toArray (pC_one _)
  obtain ⟨w2, hw2⟩ : ∃ w2, w2 = w.alloc (.cells zcP 53) := ⟨_, rfl⟩
  have hb2 : Below w.heap.size w w2 := by rw [hw2]; exact (Below.refl _ w).alloc (Nat.le_refl _) _
  have hk2 : Blk w2 w.heap.size 53 zcP := by rw [hw2]; exact Blk.new _ _ _
  have H2 := hide (And.intro hb2 hk2)
  have HW := hide hw2
  clear hb2 hk2 hw2
  go_enter Try.func89, Try.ntmps89
  go_wp2_with (refine wpList_value (o := ⟨some 4, _, _, _, _, _⟩) rfl (.pointer (some ⟨w.heap.size, 0, none⟩)) w2 (by rw [HW.out]; kernel_rfl) ?_)
  refine (markText_any j hj w2).mono ?_
  rintro e w3 ⟨rfl, hb3⟩
  have H3 := hide (And.intro (H2.out.1.trans (Below.mono hb3 H2.out.1.size)) (show Blk w3 w.heap.size 53 zcP from H2.out.2.below hb3 H2.out.2.lt))
  clear hb3
  dsimp only
  go_wp2_with (first | (refine wpList_value (o := ⟨some 8, _, _, _, _, _⟩) rfl (.agg (pC (mp j)).toArray) w3 (by kernel_rfl) ?_) | (with_reducible refine wpList_store_blkA (o := ⟨none, _, _, _, _, _⟩) rfl 53 (.tmp 4) (.tmp 8) rfl w.heap.size zcP (pC (mp j)).toArray 53 H3.out.2 ?s1 ?s2 ?s3 ?s4 ?s5 ?s6))
  case s1 => exact hps
  case s2 => rfl
  case s3 => exact hone
  intro w4 hk4 hg4
  have hb4 : Below w.heap.size w w4 := H3.out.1.grown hg4 H3.out.1.size fun k hk => by injection hk with hk; omega
  have H4 := hide (And.intro hk4 hb4)
  clear hk4 hg4 hb4
  go_wp2_with fail
  refine bodyPost_ret (results_cell_row rfl _ _ w.heap.size 53 (pC (mp j)).toArray (0, 0) _ rfl H4.out.1 Try.underlying53 rfl hps) rfl ⟨rfl, H4.out.2⟩
end Go.Proofs.Ytfppddnfdinipaa
end
section
namespace Go.Proofs.Ytfppddnfdinipaa
open Go Go.RowKit Go.Maps
set_option maxRecDepth 100000
theorem owned_blkN {w : World} {base g n s : Nat} {e : TypeId} {xs : List Value} (h : w.ownsRow base e s (.slice (some ⟨g, 0, none⟩) n n) n xs) : Blk w g e xs.toArray := by
  rcases owned_formN h with ⟨h, _⟩ | ⟨g', cap, cur, h, _, _, _, hb, hs, ht, _⟩
  · cases h
  · injection h with e1 e2 e3
    injection e1 with e1
    injection e1 with e1
    subst e1 e3
    have : cur = xs.toArray := by
      rw [← ht, List.take_of_length_le (by simp; omega)]
    rw [← this]
    exact hb
def mm (j : Nat) : Mde := (List.replicate 20 0, mp j)
theorem mm_ok (j : Nat) : okH (mm j).1 ∧ okP (mm j).2 := ⟨rfl, mp_ok j⟩
def marksPath : List Pth := (List.range 12).map mp
def marksMade : List Mde := (List.range 12).map mm
theorem marksPath_take (i : Nat) (h : i < 12) : marksPath.take (i + 1) = marksPath.take i ++ [mp i] := by
  rw [List.take_add_one, marksPath, List.getElem?_map, List.getElem?_range h]; rfl
theorem marksMade_take (i : Nat) (h : i < 12) : marksMade.take (i + 1) = marksMade.take i ++ [mm i] := by
  rw [List.take_add_one, marksMade, List.getElem?_map, List.getElem?_range h]; rfl
set_option maxHeartbeats 1000000 in
theorem markMade_any (j : Nat) (hj : j < 12) (w : World) : Calls Try.prog 90 #[.int .i64 1, .int .i64 (j : Int)] w fun e w' => e = .returned (.agg (mC (mm j).1 (mm j).2).toArray) ∧ Below w.heap.size w w' := by
  have hps := msz (mm_ok j).1 (mm_ok j).2
  have hone : (mC (mm j).1 (mm j).2).toArray.all (·.oneCell') = true := all_oneCell_toArray (mC_one _ _)
  obtain ⟨w2, hw2⟩ : ∃ w2, w2 = w.alloc (.cells zcM 60) := ⟨_, rfl⟩
  have hb2 : Below w.heap.size w w2 := by rw [hw2]; exact (Below.refl _ w).alloc (Nat.le_refl _) _
  have hk2 : Blk w2 w.heap.size 60 zcM := by rw [hw2]; exact Blk.new _ _ _
  have H2 := hide (And.intro hb2 hk2)
  have HW := hide hw2
  clear hb2 hk2 hw2
  go_enter Try.func90, Try.ntmps90
  go_wp2_with (refine wpList_value (o := ⟨some 4, _, _, _, _, _⟩) rfl (.pointer (some ⟨w.heap.size, 0, none⟩)) w2 (by rw [HW.out]; kernel_rfl) ?_)
  refine (markText_any j hj w2).mono ?_
  rintro e w3 ⟨rfl, hb3⟩
  have H3 := hide (And.intro (H2.out.1.trans (Below.mono hb3 H2.out.1.size)) (show Blk w3 w.heap.size 60 zcM from H2.out.2.below hb3 H2.out.2.lt))
  clear hb3
  dsimp only
  go_wp2_with (first | (refine wpList_value (o := ⟨some 8, _, _, _, _, _⟩) rfl (.agg (pC (mp j)).toArray) w3 (by kernel_rfl) ?_) | (refine wpList_value (o := ⟨some 9, _, _, _, _, _⟩) rfl (.agg (mC (mm j).1 (mm j).2).toArray) w3 (by kernel_rfl) ?_) | (with_reducible refine wpList_store_blkA (o := ⟨none, _, _, _, _, _⟩) rfl 60 (.tmp 4) (.tmp 9) rfl w.heap.size zcM (mC (mm j).1 (mm j).2).toArray 60 H3.out.2 ?s1 ?s2 ?s3 ?s4 ?s5 ?s6))
  case s1 => exact hps
  case s2 => rfl
  case s3 => exact hone
  intro w4 hk4 hg4
  have hb4 : Below w.heap.size w w4 := H3.out.1.grown hg4 H3.out.1.size fun k hk => by injection hk with hk; omega
  have H4 := hide (And.intro hk4 hb4)
  clear hk4 hg4 hb4
  go_wp2_with fail
  refine bodyPost_ret (results_cell_row rfl _ _ w.heap.size 60 (mC (mm j).1 (mm j).2).toArray (0, 0) _ rfl H4.out.1 Try.underlying60 rfl hps) rfl ⟨rfl, H4.out.2⟩
set_option maxRecDepth 100000 in
set_option maxHeartbeats 2000000 in
theorem lentPaths_any (l : List Pth) (hl : l.length ≤ 1000000) (A : Option Addr) (n cap : Nat) (B : Nat) (w : World) (hB : B ≤ w.heap.size) (hv : pathsLay.At w B [.slice A n cap] l) :
    Calls Try.prog 44 #[.slice A n cap] w fun e w' => ∃ g, e = .returned (.slice (some ⟨g, 0, none⟩) l.length (l.length + 12)) ∧ w.heap.size ≤ g ∧ Blk w' g 53 (flP (l ++ marksPath)).toArray ∧ Below w.heap.size w w' := by
  obtain ⟨rfl, hs0⟩ := paths_src hv
  obtain ⟨i, hi, hz0, hz1, hz2⟩ := info_parts info_pathI
  have HV := hide hv
  clear hv
  go_enter Try.func44, Try.ntmps44
  go_wp2_with (at_make; refine wpList_make_own _ rfl _ _ 24 rfl w.heap.size 53 i (.agg zcP) 21 Try.underlying24 hi hz0 hz1 _ _ _ (l.length + 12) rfl rfl ?e0 ?e1 ?e2 ?e3 ?_)
  case e0 => omega
  case e1 => rw [hz2]; omega
  case e2 => simp only [maxLen]; omega
  case e3 => exact Nat.le_refl _
  intro w1 own1 gr1
  obtain ⟨g, hg⟩ : ∃ g, g = w.heap.size := ⟨_, rfl⟩
  rw [← hg] at own1 ⊢
  have hs1 : SrcN w1 21 A l.length cap (flP l) := (paths_src (pathsLay.alike HV.out fun k hk => gr1.block k (by omega) (by simp))).2
  have HC1 := hide hs1
  have HG := hide hg
  clear hs1 hg hs0
  go_wp2_with (at_builtin; (refine wpList_append_fits_any w1 rfl _ _ 24 rfl g 53 i 21 Try.underlying24 hi hz1 g 0 (l.length + 12) [] rfl own1 A l.length cap (flP l) rfl ?f0 ?f1 ?f2 ?f3 ?f4 ?_))
  case f0 => exact HC1.out.len
  case f1 => exact HC1.out.none_
  case f2 => exact HC1.out.cells
  case f3 => exact HC1.out.one
  case f4 => omega
  intro w2 own2 gr2
  have hg := HG.out
  have hb2 : Below w.heap.size w w2 := by
    have b1 : Below w.heap.size w w1 := (Below.refl _ _).grown gr1 (Nat.le_refl _) (by simp)
    exact b1.grown gr2 b1.size (by intro k hk; injection hk with hk; omega)
  have HO := hide (And.intro own2 hb2)
  clear own1 own2 gr1 gr2 hb2 hg
  go_wp2_with fail
  go_loopw [3, 4] (fun v3 v4 wr => ∃ j : Nat, j ≤ 12 ∧ v4 = .int .i64 (j : Int) ∧ v3 = .slice (some ⟨g, 0, none⟩) (l.length + j) (l.length + 12) ∧ wr.ownsRow g 53 21 v3 (l.length + j) (flP (l ++ marksPath.take j)) ∧ Below w.heap.size w wr) (fun _ v4 _ => (12 - intOf v4).toNat)
  case atStart => exact ⟨0, by omega, rfl, rfl, by simpa using HO.out.1, HO.out.2⟩
  case round =>
    obtain ⟨j, hj, rfl, rfl, own3, hb3⟩ := hrel
    have HO3 := hide (And.intro own3 hb3)
    clear own3 hb3
    by_cases h12 : j < 12
    · go_wp2_with fail
      refine (markPath_any j h12 _).mono ?_
      rintro e w3 ⟨rfl, hbm⟩
      obtain ⟨w4, hw4⟩ : ∃ w4, w4 = w3.alloc (.cells (pC (mp j)).toArray 53) := ⟨_, rfl⟩
      have hb4 : Below wr.heap.size wr w4 := by rw [hw4]; exact hbm.alloc hbm.size _
      have hk4 : Blk w4 w3.heap.size 53 (pC (mp j)).toArray := by rw [hw4]; exact Blk.new _ _ _
      have own4 := owned_keepN HO3.out.1 fun g _ hl => hb4.block g hl
      have H4 := hide (And.intro own4 (And.intro (HO3.out.2.trans (Below.mono hb4 HO3.out.2.size)) (box_src hk4 (pC_one _))))
      have HW4 := hide hw4
      clear hbm hb4 hk4 own4 hw4
      dsimp only
      go_wp2_with (first | (refine wpList_value (o := ⟨some 19, _, _, _, _, _⟩) rfl (.slice (some ⟨w3.heap.size, 0, none⟩) 1 1) w4 (by rw [HW4.out]; exact exec_buildSliceP (o := ⟨some 19, _, _, _, _, _⟩) (v := .agg (pC (mp j)).toArray) 24 (.tmp 18) rfl rfl Try.underlying24 sz_path (by omega) (by omega) (z := .agg zcP) (fun w => by kernel_rfl) (by rw [Value.cells, List.size_toArray, pC_len (mp_ok j)]) w3) ?_) | (at_builtin; (refine wpList_append_fits _ rfl _ _ 24 rfl g 53 i 21 Try.underlying24 hi hz1 g (l.length + j) (l.length + 12) (flP (l ++ marksPath.take j)) rfl H4.out.1 ⟨w3.heap.size, 0, none⟩ 1 1 (pC (mp j)) rfl ?h0 ?h1 ?h2 ?h3 ?_)))
      case h0 => rw [pC_len (mp_ok j)]
      case h1 => exact H4.out.2.2.cells _ rfl
      case h2 => exact H4.out.2.2.one
      case h3 => omega
      intro w5 own5 gr5
      have HO5 := hide (And.intro own5 gr5)
      clear own5 gr5
      go_wp2_with fail
      go_roundw
      case rel =>
        obtain ⟨own5, gr5⟩ := HO5.out
        have hg := HG.out
        refine ⟨j + 1, by omega, by go_num, rfl, ?_, H4.out.2.1.grown gr5 H4.out.2.1.size (by intro k hk; injection hk with hk; omega)⟩
        rw [marksPath_take j h12, ← List.append_assoc, flP_app]
        have e : flP [mp j] = pC (mp j) := by simp [flP]
        rw [e]
        exact own5
      case measure => simp [intOf]; omega
    · obtain rfl : j = 12 := by omega
      go_wp2_with fail
      go_ret
      refine ⟨g, rfl, by have := HG.out; omega, ?_, HO3.out.2⟩
      have h := owned_blkN HO3.out.1
      rwa [show marksPath.take 12 = marksPath from rfl] at h
set_option maxRecDepth 100000 in
set_option maxHeartbeats 2000000 in
theorem lentMades_any (l : List Mde) (hl : l.length ≤ 1000000) (A : Option Addr) (n cap : Nat) (B : Nat) (w : World) (hB : B ≤ w.heap.size) (hv : madesLay.At w B [.slice A n cap] l) :
    Calls Try.prog 45 #[.slice A n cap] w fun e w' => ∃ g, e = .returned (.slice (some ⟨g, 0, none⟩) l.length (l.length + 12)) ∧ w.heap.size ≤ g ∧ Blk w' g 60 (flM (l ++ marksMade)).toArray ∧ Below w.heap.size w w' := by
  obtain ⟨rfl, hs0⟩ := mades_src hv
  obtain ⟨i, hi, hz0, hz1, hz2⟩ := info_parts info_madeI
  have HV := hide hv
  clear hv
  go_enter Try.func45, Try.ntmps45
  go_wp2_with (at_make; refine wpList_make_own _ rfl _ _ 27 rfl w.heap.size 60 i (.agg zcM) 41 Try.underlying27 hi hz0 hz1 _ _ _ (l.length + 12) rfl rfl ?e0 ?e1 ?e2 ?e3 ?_)
  case e0 => omega
  case e1 => rw [hz2]; omega
  case e2 => simp only [maxLen]; omega
  case e3 => exact Nat.le_refl _
  intro w1 own1 gr1
  obtain ⟨g, hg⟩ : ∃ g, g = w.heap.size := ⟨_, rfl⟩
  rw [← hg] at own1 ⊢
  have hs1 : SrcN w1 41 A l.length cap (flM l) := (mades_src (madesLay.alike HV.out fun k hk => gr1.block k (by omega) (by simp))).2
  have HC1 := hide hs1
  have HG := hide hg
  clear hs1 hg hs0
  go_wp2_with (at_builtin; (refine wpList_append_fits_any w1 rfl _ _ 27 rfl g 60 i 41 Try.underlying27 hi hz1 g 0 (l.length + 12) [] rfl own1 A l.length cap (flM l) rfl ?f0 ?f1 ?f2 ?f3 ?f4 ?_))
  case f0 => exact HC1.out.len
  case f1 => exact HC1.out.none_
  case f2 => exact HC1.out.cells
  case f3 => exact HC1.out.one
  case f4 => omega
  intro w2 own2 gr2
  have hg := HG.out
  have hb2 : Below w.heap.size w w2 := by
    have b1 : Below w.heap.size w w1 := (Below.refl _ _).grown gr1 (Nat.le_refl _) (by simp)
    exact b1.grown gr2 b1.size (by intro k hk; injection hk with hk; omega)
  have HO := hide (And.intro own2 hb2)
  clear own1 own2 gr1 gr2 hb2 hg
  go_wp2_with fail
  go_loopw [3, 4] (fun v3 v4 wr => ∃ j : Nat, j ≤ 12 ∧ v4 = .int .i64 (j : Int) ∧ v3 = .slice (some ⟨g, 0, none⟩) (l.length + j) (l.length + 12) ∧ wr.ownsRow g 60 41 v3 (l.length + j) (flM (l ++ marksMade.take j)) ∧ Below w.heap.size w wr) (fun _ v4 _ => (12 - intOf v4).toNat)
  case atStart => exact ⟨0, by omega, rfl, rfl, by simpa using HO.out.1, HO.out.2⟩
  case round =>
    obtain ⟨j, hj, rfl, rfl, own3, hb3⟩ := hrel
    have HO3 := hide (And.intro own3 hb3)
    clear own3 hb3
    by_cases h12 : j < 12
    · go_wp2_with fail
      refine (markMade_any j h12 _).mono ?_
      rintro e w3 ⟨rfl, hbm⟩
      obtain ⟨w4, hw4⟩ : ∃ w4, w4 = w3.alloc (.cells (mC (mm j).1 (mm j).2).toArray 60) := ⟨_, rfl⟩
      have hb4 : Below wr.heap.size wr w4 := by rw [hw4]; exact hbm.alloc hbm.size _
      have hk4 : Blk w4 w3.heap.size 60 (mC (mm j).1 (mm j).2).toArray := by rw [hw4]; exact Blk.new _ _ _
      have own4 := owned_keepN HO3.out.1 fun g _ hl => hb4.block g hl
      have H4 := hide (And.intro own4 (And.intro (HO3.out.2.trans (Below.mono hb4 HO3.out.2.size)) (box_src hk4 (mC_one _ _))))
      have HW4 := hide hw4
      clear hbm hb4 hk4 own4 hw4
      dsimp only
      go_wp2_with (first | (refine wpList_value (o := ⟨some 19, _, _, _, _, _⟩) rfl (.slice (some ⟨w3.heap.size, 0, none⟩) 1 1) w4 (by rw [HW4.out]; exact exec_buildSliceP (o := ⟨some 19, _, _, _, _, _⟩) (v := .agg (mC (mm j).1 (mm j).2).toArray) 27 (.tmp 18) rfl rfl Try.underlying27 sz_made (by omega) (by omega) (z := .agg zcM) (fun w => by kernel_rfl) (by rw [Value.cells, List.size_toArray, mC_len (mm_ok j).1 (mm_ok j).2]) w3) ?_) | (at_builtin; (refine wpList_append_fits _ rfl _ _ 27 rfl g 60 i 41 Try.underlying27 hi hz1 g (l.length + j) (l.length + 12) (flM (l ++ marksMade.take j)) rfl H4.out.1 ⟨w3.heap.size, 0, none⟩ 1 1 (mC (mm j).1 (mm j).2) rfl ?h0 ?h1 ?h2 ?h3 ?_)))
      case h0 => rw [mC_len (mm_ok j).1 (mm_ok j).2]
      case h1 => exact H4.out.2.2.cells _ rfl
      case h2 => exact H4.out.2.2.one
      case h3 => omega
      intro w5 own5 gr5
      have HO5 := hide (And.intro own5 gr5)
      clear own5 gr5
      go_wp2_with fail
      go_roundw
      case rel =>
        obtain ⟨own5, gr5⟩ := HO5.out
        have hg := HG.out
        refine ⟨j + 1, by omega, by go_num, rfl, ?_, H4.out.2.1.grown gr5 H4.out.2.1.size (by intro k hk; injection hk with hk; omega)⟩
        rw [marksMade_take j h12, ← List.append_assoc, flM_app]
        have e : flM [mm j] = mC (mm j).1 (mm j).2 := by simp [flM]
        rw [e]
        exact own5
      case measure => simp [intOf]; omega
    · obtain rfl : j = 12 := by omega
      go_wp2_with fail
      go_ret
      refine ⟨g, rfl, by have := HG.out; omega, ?_, HO3.out.2⟩
      have h := owned_blkN HO3.out.1
      rwa [show marksMade.take 12 = marksMade from rfl] at h
end Go.Proofs.Ytfppddnfdinipaa
end
section
namespace Go.Proofs.Ytfppddnfdinipaa
open Go Go.RowKit Go.Maps
set_option maxRecDepth 100000
theorem path_lits (d : Nat) (p : Pth) (hp : okP p) : ∃ L, Try.prog.keyLits (d + 3) 53 (pC p) = some L := by
  obtain ⟨L, hL⟩ := keyLits_u8s (P := Try.prog) d Try.underlying23 Try.underlying5 cells_hash cells_u8 hp.1
  have hst : Try.prog.keyLits (d + 2) 9 [.string p.2] = some [.string p.2.data.toList] := by
    unfold Program.keyLits
    simp [Try.underlying9, hp.2]
  have e1 : ((pC p).drop 0).take (Try.prog.cellsOf 23) = bv p.1 := by
    rw [cells_hash, List.drop_zero, pC, List.take_left' (by rw [bvL]; exact hp.1)]
  have e2 : ((pC p).drop 20).take (Try.prog.cellsOf 9) = [.string p.2] := by
    rw [cells_str, pC, List.drop_left' (by rw [bvL]; exact hp.1)]
    rfl
  unfold Program.keyLits
  rw [Try.underlying53]
  simp only [cells_path, pC_len hp]
  rw [if_pos ⟨trivial, by kernel_rfl⟩]
  simp only [List.mapM_cons, List.mapM_nil, e1, e2, hL, hst]
  exact ⟨_, rfl⟩
theorem cells_made : Try.prog.cellsOf 60 = 41 := by kernel_rfl
theorem made_key (m : Mde) (h1 : okH m.1) (h2 : okP m.2) : ∃ l, keyOf Try.prog 60 (.agg (mC m.1 m.2).toArray) = some l := by
  have h0 : 3 < Try.prog.types.size := of_decide_eq_true (by kernel_rfl)
  obtain ⟨d, hd⟩ : ∃ d, Try.prog.types.size = d + 3 := ⟨Try.prog.types.size - 3, by omega⟩
  obtain ⟨L, hL⟩ := keyLits_u8s (P := Try.prog) (d + 1) Try.underlying23 Try.underlying5 cells_hash cells_u8 h1
  obtain ⟨Lp, hLp⟩ := path_lits d m.2 h2
  have hk : Try.prog.keyType 60 = true := by kernel_rfl
  have hf : (Value.agg (mC m.1 m.2).toArray).formed Try.prog 60 = true := by
    simp [Value.formed, Try.underlying60, cells_made, mC_len h1 h2]
  have e1 : ((mC m.1 m.2).drop 0).take (Try.prog.cellsOf 23) = bv m.1 := by
    rw [cells_hash, List.drop_zero, mC, List.take_left' (by rw [bvL]; exact h1)]
  have e2 : ((mC m.1 m.2).drop 20).take (Try.prog.cellsOf 53) = pC m.2 := by
    rw [cells_path, mC, List.drop_left' (by rw [bvL]; exact h1), List.take_of_length_le (by rw [pC_len h2]; decide)]
  have hpk : ∃ L, Try.prog.keyLits (Try.prog.types.size + 1) 60 (mC m.1 m.2) = some L := by
    rw [hd]
    unfold Program.keyLits
    rw [Try.underlying60]
    simp only [cells_made, mC_len h1 h2]
    rw [if_pos ⟨trivial, by kernel_rfl⟩]
    simp only [List.mapM_cons, List.mapM_nil, e1, e2, hL, hLp]
    exact ⟨_, rfl⟩
  obtain ⟨L2, hL2⟩ := hpk
  unfold keyOf
  rw [Try.underlying60]
  simp only [hk, hf, Bool.and_self, if_true]
  rw [show (Value.agg (mC m.1 m.2).toArray).cells.toList = mC m.1 m.2 by simp [Value.cells], hL2]
  exact ⟨_, rfl⟩
theorem bin_eq_made (m : Mde) (h1 : okH m.1) (h2 : okP m.2) (w : World) : (binOp .eql 60 (.agg (mC m.1 m.2).toArray) (.agg (mC m.1 m.2).toArray)).run Try.prog w = .ok (.bool true) w := by
  obtain ⟨l, hl⟩ := made_key m h1 h2
  obtain ⟨r, h3, h4⟩ := run_equal_deep (P := Try.prog) w (m := 4) (by omega) (by kernel_rfl) (by kernel_rfl) hl hl
  rw [h4.2 rfl] at h3
  simp only [binOp, Sem.run_bind, h3, Result.andThen_ok, Sem.run_pure]
set_option maxHeartbeats 4000000 in
theorem keptPaths_any (l : List Pth) (hl : l.length ≤ 1000000) (v2 : Value) (g B : Nat) (w : World) (hB : B ≤ w.heap.size) (hv : pathsLay.At w B [v2] l) (hg : Blk w g 53 (flP (l ++ marksPath)).toArray) (hok : ∀ x ∈ l, okP x) :
    Calls Try.prog 54 #[.slice (some ⟨g, 0, none⟩) l.length (l.length + 12), v2] w fun e w' => e = .returned (.bool true) ∧ Below w.heap.size w w' := by
  obtain ⟨A, cap, rfl, _, _, _, hA⟩ := slice_open hv
  have hlen : ∀ x ∈ l ++ marksPath, (pC x).length = 21 := fun x hx => by
    rcases List.mem_append.1 hx with hx | hx
    · exact pC_len (hok x hx)
    · obtain ⟨j, _, rfl⟩ := List.mem_map.1 hx
      exact pC_len (mp_ok j)
  have hat : ∀ (j : Nat) x, (l ++ marksPath)[j]? = some x → w.rangeAt g (0 + j * 21) (pC x) := fun j x hx i u hu => by
    have h2 := flatC_at (f := fun x : Pth => pC x) (by decide) _ hlen j x hx i u hu
    rw [hg.cell, Nat.zero_add]
    rw [List.getElem?_toArray]
    exact h2
  have H1 := hide (And.intro hg (And.intro hat hA))
  have l9 : (l.length : Int) ≤ 1000000 := by omega
  clear hg hat hA hv hlen
  go_enter Try.func54, Try.ntmps54
  go_wp2_with fail
  go_loopw [6] (fun x wr => ∃ j : Nat, j ≤ l.length + 12 ∧ x = .int .i64 ((j : Nat) : Int) ∧ Below w.heap.size w wr) (fun x _ => l.length + 12 - (intOf x).toNat)
  case atStart => exact ⟨0, by omega, rfl, Below.refl _ _⟩
  case round =>
    obtain ⟨wo, rfl⟩ : ∃ wo, wo = wr := ⟨_, rfl⟩
    obtain ⟨j, hj, rfl, hb⟩ := hrel
    have HB := hide hb
    clear hb
    have j0 : (0 : Int) ≤ (j : Int) := by omega
    by_cases hend : j < l.length + 12
    · have j2 : (j : Int) < ((l.length + 12 : Nat) : Int) := by omega
      have j2' : (j : Int) < (l.length : Int) + 12 := by omega
      by_cases hin : j < l.length
      · have j1 : (j : Int) < (l.length : Int) := by omega
        have j3 : ¬ (j : Int) ≥ (l.length : Int) := by omega
        obtain ⟨x, hx⟩ : ∃ x, l[j]? = some x := ⟨_, List.getElem?_eq_getElem hin⟩
        have hxo := hok x (List.mem_of_getElem? hx)
        obtain ⟨b, off, rfl, hlb, hE⟩ := H1.out.2.2 (by omega)
        obtain ⟨cs, hr, hatx⟩ := hE j x hx
        obtain ⟨rfl, _⟩ := pathLay_at.1 hatx
        have hgx := H1.out.2.1 j x (by rw [List.getElem?_append_left hin]; exact hx)
        have HX := hide (And.intro hx (And.intro (show b < w.heap.size by omega) (And.intro (rangeAt_same hgx (HB.out.block g H1.out.1.lt)) (And.intro (rangeAt_same hr (HB.out.block b (by omega))) hxo))))
        have hszx : (Try.prog.info? 53).map (·.size) = some (pC x).length := by have := psz hxo; simpa using this
        clear hx hE hr hatx hgx
        go_wp2_with fail
        refine Fre.wp_made (X := Blw) 34 [] (by kernel_rfl) (by kernel_rfl) (by simp) (by simp) (by simp) ?_
        simp only [List.take_succ_cons, List.take_zero, List.drop_succ_cons, List.drop_zero]
        refine Fre.made_val (.int .i64 (j : Int)) (by kernel_rfl) (by kernel_rfl) (by kernel_rfl) (fun _ _ => by kernel_rfl) ?_
        simp only [Act.put, List.setIfInBounds_toArray, List.set_cons_zero, List.set_cons_succ]
        refine Fre.made_val (.slice (some ⟨b, off, none⟩) l.length cap) (by kernel_rfl) (by kernel_rfl) (by kernel_rfl) (fun _ _ => by kernel_rfl) ?_
        simp only [Act.put, List.setIfInBounds_toArray, List.set_cons_zero, List.set_cons_succ]
        refine Fre.made_val (.int .i64 (l.length : Int)) (by kernel_rfl) (by kernel_rfl) (by kernel_rfl) (fun W9 hW9 => ?hs1) ?_
        case hs1 =>
          go_simp
        simp only [Act.put, List.setIfInBounds_toArray, List.set_cons_zero, List.set_cons_succ]
        refine Fre.made_val (.bool true) (by kernel_rfl) (by kernel_rfl) (by kernel_rfl) (fun W9 hW9 => ?c26) ?_
        case c26 =>
          go_simp
        simp only [Act.put, List.setIfInBounds_toArray, List.set_cons_zero, List.set_cons_succ]
        refine Fre.made_val (.bool true) (by kernel_rfl) (by kernel_rfl) (by kernel_rfl) (fun _ _ => by kernel_rfl) ?_
        simp only [Act.put, List.setIfInBounds_toArray, List.set_cons_zero, List.set_cons_succ]
        refine Fre.made_val (.slice (some ⟨g, 0, none⟩) (l.length + 12) (l.length + 12)) (by kernel_rfl) (by kernel_rfl) (by kernel_rfl) (fun _ _ => by kernel_rfl) ?_
        simp only [Act.put, List.setIfInBounds_toArray, List.set_cons_zero, List.set_cons_succ]
        refine Fre.made_val (.int .i64 (j : Int)) (by kernel_rfl) (by kernel_rfl) (by kernel_rfl) (fun _ _ => by kernel_rfl) ?_
        simp only [Act.put, List.setIfInBounds_toArray, List.set_cons_zero, List.set_cons_succ]
        refine Fre.made_val (.pointer (some ⟨g, 0 + (j : Int).toNat * 21, none⟩)) (by kernel_rfl) (by kernel_rfl) (by kernel_rfl) (fun W9 _ => exec_index_off (o := ⟨some 30, _, _, _, _, _⟩) 24 53 (.tmp 28) (.tmp 29) rfl g 0 (l.length + 12) (l.length + 12) (j : Int) .i64 rfl rfl ⟨j0, j2⟩ 21 Try.underlying24 sz_path W9) ?_
        simp only [Act.put, List.setIfInBounds_toArray, List.set_cons_zero, List.set_cons_succ]
        rw [show 0 + (j : Int).toNat * 21 = 0 + j * 21 by omega]
        refine Fre.made_val (.agg (pC x).toArray) (by kernel_rfl) (by kernel_rfl) (by kernel_rfl) (fun W9 hW9 => exec_load_mid (o := ⟨some 31, _, _, _, _, _⟩) 53 (.tmp 30) rfl g (0 + j * 21) rfl (pC x) _ W9 (rangeAt_same HX.out.2.2.1 ((blw hW9).block g (Nat.lt_of_lt_of_le H1.out.1.lt HB.out.size))) Try.underlying53 rfl hszx) ?_
        simp only [Act.put, List.setIfInBounds_toArray, List.set_cons_zero, List.set_cons_succ]
        refine Fre.made_val (.slice (some ⟨b, off, none⟩) l.length cap) (by kernel_rfl) (by kernel_rfl) (by kernel_rfl) (fun _ _ => by kernel_rfl) ?_
        simp only [Act.put, List.setIfInBounds_toArray, List.set_cons_zero, List.set_cons_succ]
        refine Fre.made_val (.int .i64 (j : Int)) (by kernel_rfl) (by kernel_rfl) (by kernel_rfl) (fun _ _ => by kernel_rfl) ?_
        simp only [Act.put, List.setIfInBounds_toArray, List.set_cons_zero, List.set_cons_succ]
        refine Fre.made_val (.pointer (some ⟨b, off + (j : Int).toNat * 21, none⟩)) (by kernel_rfl) (by kernel_rfl) (by kernel_rfl) (fun W9 _ => exec_index_off (o := ⟨some 34, _, _, _, _, _⟩) 24 53 (.tmp 32) (.tmp 33) rfl b off l.length cap (j : Int) .i64 rfl rfl ⟨j0, j1⟩ 21 Try.underlying24 sz_path W9) ?_
        simp only [Act.put, List.setIfInBounds_toArray, List.set_cons_zero, List.set_cons_succ]
        rw [show off + (j : Int).toNat * 21 = off + j * 21 by omega]
        refine Fre.made_val (.agg (pC x).toArray) (by kernel_rfl) (by kernel_rfl) (by kernel_rfl) (fun W9 hW9 => exec_load_mid (o := ⟨some 35, _, _, _, _, _⟩) 53 (.tmp 34) rfl b (off + j * 21) rfl (pC x) _ W9 (rangeAt_same HX.out.2.2.2.1 ((blw hW9).block b (Nat.lt_of_lt_of_le HX.out.2.1 HB.out.size))) Try.underlying53 rfl hszx) ?_
        simp only [Act.put, List.setIfInBounds_toArray, List.set_cons_zero, List.set_cons_succ]
        refine Fre.made_val (.bool true) (by kernel_rfl) (by kernel_rfl) (by kernel_rfl) (fun W9 hW9 => exec_binop_agg (o := ⟨some 36, _, _, _, _, _⟩) .eql 53 (.tmp 31) (.tmp 35) _ rfl (pC x).toArray (pC x).toArray rfl rfl (by kernel_rfl) _ (fun W => by have := bin_eq_path x x HX.out.2.2.2.2 HX.out.2.2.2.2 W; rw [decide_eq_true rfl] at this; exact this) W9) ?_
        simp only [Act.put, List.setIfInBounds_toArray, List.set_cons_zero, List.set_cons_succ]
        refine Fre.made_val (.bool false) (by kernel_rfl) (by kernel_rfl) (by kernel_rfl) (fun W9 hW9 => ?c37) ?_
        case c37 =>
          go_simp
        simp only [Act.put, List.setIfInBounds_toArray, List.set_cons_zero, List.set_cons_succ]
        refine Fre.made_val (.bool false) (by kernel_rfl) (by kernel_rfl) (by kernel_rfl) (fun _ _ => by kernel_rfl) ?_
        simp only [Act.put, List.setIfInBounds_toArray, List.set_cons_zero, List.set_cons_succ]
        refine Fre.made_val (.bool false) (by kernel_rfl) (by kernel_rfl) (by kernel_rfl) (fun _ _ => by kernel_rfl) ?_
        simp only [Act.put, List.setIfInBounds_toArray, List.set_cons_zero, List.set_cons_succ]
        refine Fre.made_val (.int .i64 (j : Int)) (by kernel_rfl) (by kernel_rfl) (by kernel_rfl) (fun _ _ => by kernel_rfl) ?_
        simp only [Act.put, List.setIfInBounds_toArray, List.set_cons_zero, List.set_cons_succ]
        refine Fre.made_val (.slice (some ⟨b, off, none⟩) l.length cap) (by kernel_rfl) (by kernel_rfl) (by kernel_rfl) (fun _ _ => by kernel_rfl) ?_
        simp only [Act.put, List.setIfInBounds_toArray, List.set_cons_zero, List.set_cons_succ]
        refine Fre.made_val (.int .i64 (l.length : Int)) (by kernel_rfl) (by kernel_rfl) (by kernel_rfl) (fun W9 hW9 => ?hs2) ?_
        case hs2 =>
          go_simp
        simp only [Act.put, List.setIfInBounds_toArray, List.set_cons_zero, List.set_cons_succ]
        refine Fre.made_val (.bool false) (by kernel_rfl) (by kernel_rfl) (by kernel_rfl) (fun W9 hW9 => ?c43) ?_
        case c43 =>
          go_simp
        simp only [Act.put, List.setIfInBounds_toArray, List.set_cons_zero, List.set_cons_succ]
        refine Fre.made_val (.bool false) (by kernel_rfl) (by kernel_rfl) (by kernel_rfl) (fun _ _ => by kernel_rfl) ?_
        simp only [Act.put, List.setIfInBounds_toArray, List.set_cons_zero, List.set_cons_succ]
        refine Fre.made_skip (by kernel_rfl) (by kernel_rfl) (by kernel_rfl) ?_
        refine Fre.made_skip (by kernel_rfl) (by kernel_rfl) (by kernel_rfl) ?_
        refine Fre.made_skip (by kernel_rfl) (by kernel_rfl) (by kernel_rfl) ?_
        refine Fre.made_skip (by kernel_rfl) (by kernel_rfl) (by kernel_rfl) ?_
        refine Fre.made_skip (by kernel_rfl) (by kernel_rfl) (by kernel_rfl) ?_
        refine Fre.made_skip (by kernel_rfl) (by kernel_rfl) (by kernel_rfl) ?_
        refine Fre.made_skip (by kernel_rfl) (by kernel_rfl) (by kernel_rfl) ?_
        refine Fre.made_skip (by kernel_rfl) (by kernel_rfl) (by kernel_rfl) ?_
        refine Fre.made_skip (by kernel_rfl) (by kernel_rfl) (by kernel_rfl) ?_
        refine Fre.made_skip (by kernel_rfl) (by kernel_rfl) (by kernel_rfl) ?_
        refine Fre.made_skip (by kernel_rfl) (by kernel_rfl) (by kernel_rfl) ?_
        refine Fre.made_val (.bool false) (by kernel_rfl) (by kernel_rfl) (by kernel_rfl) (fun _ _ => by kernel_rfl) ?_
        simp only [Act.put, List.setIfInBounds_toArray, List.set_cons_zero, List.set_cons_succ]
        show ∀ w', _ → _
        intro w4 hb
        simp only [Fre.ended]
        have H4 := hide (HB.out.trans (Below.mono (show Below wo.heap.size wo w4 from hb) HB.out.size))
        clear hb
        go_wp2_with fail
        go_roundw
        case rel => exact ⟨j + 1, by omega, by go_num, H4.out⟩
        case measure => simp [intOf]; omega
      · obtain ⟨q, hq2⟩ : ∃ q, j = l.length + q := ⟨j - l.length, by omega⟩
        have hq : q < 12 := by omega
        have j1 : ¬ (j : Int) < (l.length : Int) := by omega
        have j3 : (j : Int) ≥ (l.length : Int) := by omega
        have j4 : (j : Int) - (l.length : Int) = (q : Int) := by omega
        have hm : (l ++ marksPath)[j]? = some (mp q) := by
          rw [List.getElem?_append_right (by omega), show j - l.length = q by omega, marksPath, List.getElem?_map, List.getElem?_range hq]
          rfl
        have hgx := H1.out.2.1 j _ hm
        have HQ := hide (rangeAt_same hgx (HB.out.block g H1.out.1.lt))
        have hszm : (Try.prog.info? 53).map (·.size) = some (pC (mp q)).length := by have := psz (mp_ok q); simpa using this
        clear hm hgx hq2
        go_wp2_with fail
        refine Fre.wp_made (X := Blw) 34 [] (by kernel_rfl) (by kernel_rfl) (by simp) (by simp) (by simp) ?_
        simp only [List.take_succ_cons, List.take_zero, List.drop_succ_cons, List.drop_zero]
        refine Fre.made_val (.int .i64 (j : Int)) (by kernel_rfl) (by kernel_rfl) (by kernel_rfl) (fun _ _ => by kernel_rfl) ?_
        simp only [Act.put, List.setIfInBounds_toArray, List.set_cons_zero, List.set_cons_succ]
        refine Fre.made_val (.slice A l.length cap) (by kernel_rfl) (by kernel_rfl) (by kernel_rfl) (fun _ _ => by kernel_rfl) ?_
        simp only [Act.put, List.setIfInBounds_toArray, List.set_cons_zero, List.set_cons_succ]
        refine Fre.made_val (.int .i64 (l.length : Int)) (by kernel_rfl) (by kernel_rfl) (by kernel_rfl) (fun W9 hW9 => ?d25) ?_
        case d25 =>
          go_simp
        simp only [Act.put, List.setIfInBounds_toArray, List.set_cons_zero, List.set_cons_succ]
        refine Fre.made_val (.bool false) (by kernel_rfl) (by kernel_rfl) (by kernel_rfl) (fun W9 hW9 => ?d26) ?_
        case d26 =>
          go_simp
        simp only [Act.put, List.setIfInBounds_toArray, List.set_cons_zero, List.set_cons_succ]
        refine Fre.made_val (.bool false) (by kernel_rfl) (by kernel_rfl) (by kernel_rfl) (fun _ _ => by kernel_rfl) ?_
        simp only [Act.put, List.setIfInBounds_toArray, List.set_cons_zero, List.set_cons_succ]
        refine Fre.made_skip (by kernel_rfl) (by kernel_rfl) (by kernel_rfl) ?_
        refine Fre.made_skip (by kernel_rfl) (by kernel_rfl) (by kernel_rfl) ?_
        refine Fre.made_skip (by kernel_rfl) (by kernel_rfl) (by kernel_rfl) ?_
        refine Fre.made_skip (by kernel_rfl) (by kernel_rfl) (by kernel_rfl) ?_
        refine Fre.made_skip (by kernel_rfl) (by kernel_rfl) (by kernel_rfl) ?_
        refine Fre.made_skip (by kernel_rfl) (by kernel_rfl) (by kernel_rfl) ?_
        refine Fre.made_skip (by kernel_rfl) (by kernel_rfl) (by kernel_rfl) ?_
        refine Fre.made_skip (by kernel_rfl) (by kernel_rfl) (by kernel_rfl) ?_
        refine Fre.made_skip (by kernel_rfl) (by kernel_rfl) (by kernel_rfl) ?_
        refine Fre.made_skip (by kernel_rfl) (by kernel_rfl) (by kernel_rfl) ?_
        refine Fre.made_val (.bool false) (by kernel_rfl) (by kernel_rfl) (by kernel_rfl) (fun _ _ => by kernel_rfl) ?_
        simp only [Act.put, List.setIfInBounds_toArray, List.set_cons_zero, List.set_cons_succ]
        refine Fre.made_val (.bool false) (by kernel_rfl) (by kernel_rfl) (by kernel_rfl) (fun _ _ => by kernel_rfl) ?_
        simp only [Act.put, List.setIfInBounds_toArray, List.set_cons_zero, List.set_cons_succ]
        refine Fre.made_val (.int .i64 (j : Int)) (by kernel_rfl) (by kernel_rfl) (by kernel_rfl) (fun _ _ => by kernel_rfl) ?_
        simp only [Act.put, List.setIfInBounds_toArray, List.set_cons_zero, List.set_cons_succ]
        refine Fre.made_val (.slice A l.length cap) (by kernel_rfl) (by kernel_rfl) (by kernel_rfl) (fun _ _ => by kernel_rfl) ?_
        simp only [Act.put, List.setIfInBounds_toArray, List.set_cons_zero, List.set_cons_succ]
        refine Fre.made_val (.int .i64 (l.length : Int)) (by kernel_rfl) (by kernel_rfl) (by kernel_rfl) (fun W9 hW9 => ?d42) ?_
        case d42 =>
          go_simp
        simp only [Act.put, List.setIfInBounds_toArray, List.set_cons_zero, List.set_cons_succ]
        refine Fre.made_val (.bool true) (by kernel_rfl) (by kernel_rfl) (by kernel_rfl) (fun W9 hW9 => ?d43) ?_
        case d43 =>
          go_simp
        simp only [Act.put, List.setIfInBounds_toArray, List.set_cons_zero, List.set_cons_succ]
        refine Fre.made_val (.bool true) (by kernel_rfl) (by kernel_rfl) (by kernel_rfl) (fun _ _ => by kernel_rfl) ?_
        simp only [Act.put, List.setIfInBounds_toArray, List.set_cons_zero, List.set_cons_succ]
        refine Fre.made_val (.slice (some ⟨g, 0, none⟩) (l.length + 12) (l.length + 12)) (by kernel_rfl) (by kernel_rfl) (by kernel_rfl) (fun _ _ => by kernel_rfl) ?_
        simp only [Act.put, List.setIfInBounds_toArray, List.set_cons_zero, List.set_cons_succ]
        refine Fre.made_val (.int .i64 (j : Int)) (by kernel_rfl) (by kernel_rfl) (by kernel_rfl) (fun _ _ => by kernel_rfl) ?_
        simp only [Act.put, List.setIfInBounds_toArray, List.set_cons_zero, List.set_cons_succ]
        refine Fre.made_val (.pointer (some ⟨g, 0 + (j : Int).toNat * 21, none⟩)) (by kernel_rfl) (by kernel_rfl) (by kernel_rfl) (fun W9 _ => exec_index_off (o := ⟨some 47, _, _, _, _, _⟩) 24 53 (.tmp 45) (.tmp 46) rfl g 0 (l.length + 12) (l.length + 12) (j : Int) .i64 rfl rfl ⟨j0, j2⟩ 21 Try.underlying24 sz_path W9) ?_
        simp only [Act.put, List.setIfInBounds_toArray, List.set_cons_zero, List.set_cons_succ]
        rw [show 0 + (j : Int).toNat * 21 = 0 + j * 21 by omega]
        refine Fre.made_val (.agg (pC (mp q)).toArray) (by kernel_rfl) (by kernel_rfl) (by kernel_rfl) (fun W9 hW9 => exec_load_mid (o := ⟨some 48, _, _, _, _, _⟩) 53 (.tmp 47) rfl g (0 + j * 21) rfl (pC (mp q)) _ W9 (rangeAt_same HQ.out ((blw hW9).block g (Nat.lt_of_lt_of_le H1.out.1.lt HB.out.size))) Try.underlying53 rfl hszm) ?_
        simp only [Act.put, List.setIfInBounds_toArray, List.set_cons_zero, List.set_cons_succ]
        refine Fre.made_val (.int .i64 (j : Int)) (by kernel_rfl) (by kernel_rfl) (by kernel_rfl) (fun _ _ => by kernel_rfl) ?_
        simp only [Act.put, List.setIfInBounds_toArray, List.set_cons_zero, List.set_cons_succ]
        refine Fre.made_val (.slice A l.length cap) (by kernel_rfl) (by kernel_rfl) (by kernel_rfl) (fun _ _ => by kernel_rfl) ?_
        simp only [Act.put, List.setIfInBounds_toArray, List.set_cons_zero, List.set_cons_succ]
        refine Fre.made_val (.int .i64 (l.length : Int)) (by kernel_rfl) (by kernel_rfl) (by kernel_rfl) (fun W9 hW9 => ?d51) ?_
        case d51 =>
          go_simp
        simp only [Act.put, List.setIfInBounds_toArray, List.set_cons_zero, List.set_cons_succ]
        refine Fre.made_val (.int .i64 (q : Int)) (by kernel_rfl) (by kernel_rfl) (by kernel_rfl) (fun W9 hW9 => ?d52) ?_
        case d52 =>
          go_simp
          exact wrapI9 _ (by omega)
        simp only [Act.put, List.setIfInBounds_toArray, List.set_cons_zero, List.set_cons_succ]
        refine Fre.made_call (.agg (pC (mp q)).toArray) 89 #[.int .i64 1, .int .i64 (q : Int)] (by kernel_rfl) (by kernel_rfl) (by kernel_rfl) (fun W9 => by kernel_rfl) (fun W9 hW9 => (markPath_any q hq W9).mono fun e w' ⟨h1, h2⟩ => ⟨h1, h2⟩) ?_
        simp only [Act.put, List.setIfInBounds_toArray, List.set_cons_zero, List.set_cons_succ]
        refine Fre.made_val (.bool true) (by kernel_rfl) (by kernel_rfl) (by kernel_rfl) (fun W9 hW9 => exec_binop_agg (o := ⟨some 54, _, _, _, _, _⟩) .eql 53 (.tmp 48) (.tmp 53) _ rfl (pC (mp q)).toArray (pC (mp q)).toArray rfl rfl (by kernel_rfl) _ (fun W => by have := bin_eq_path (mp q) (mp q) (mp_ok q) (mp_ok q) W; rw [decide_eq_true rfl] at this; exact this) W9) ?_
        simp only [Act.put, List.setIfInBounds_toArray, List.set_cons_zero, List.set_cons_succ]
        refine Fre.made_val (.bool false) (by kernel_rfl) (by kernel_rfl) (by kernel_rfl) (fun W9 hW9 => ?d55) ?_
        case d55 =>
          go_simp
        simp only [Act.put, List.setIfInBounds_toArray, List.set_cons_zero, List.set_cons_succ]
        refine Fre.made_val (.bool false) (by kernel_rfl) (by kernel_rfl) (by kernel_rfl) (fun _ _ => by kernel_rfl) ?_
        simp only [Act.put, List.setIfInBounds_toArray, List.set_cons_zero, List.set_cons_succ]
        show ∀ w', _ → _
        intro w4 hb
        simp only [Fre.ended]
        have H4 := hide (HB.out.trans (Below.mono (show Below wo.heap.size wo w4 from hb) HB.out.size))
        clear hb
        go_wp2_with fail
        go_roundw
        case rel => exact ⟨j + 1, by omega, by go_num, H4.out⟩
        case measure => simp [intOf]; omega
    · obtain rfl : j = l.length + 12 := by omega
      go_wp2_with fail
      go_ret
      exact ⟨rfl, HB.out⟩
set_option maxHeartbeats 4000000 in
theorem keptMades_any (l : List Mde) (hl : l.length ≤ 1000000) (v2 : Value) (g B : Nat) (w : World) (hB : B ≤ w.heap.size) (hv : madesLay.At w B [v2] l) (hg : Blk w g 60 (flM (l ++ marksMade)).toArray) (hok : ∀ x ∈ l, okH x.1 ∧ okP x.2) :
    Calls Try.prog 55 #[.slice (some ⟨g, 0, none⟩) l.length (l.length + 12), v2] w fun e w' => e = .returned (.bool true) ∧ Below w.heap.size w w' := by
  obtain ⟨A, cap, rfl, _, _, _, hA⟩ := slice_open hv
  have hlen : ∀ x ∈ l ++ marksMade, (mC x.1 x.2).length = 41 := fun x hx => by
    rcases List.mem_append.1 hx with hx | hx
    · exact mC_len (hok x hx).1 (hok x hx).2
    · obtain ⟨j, _, rfl⟩ := List.mem_map.1 hx
      exact mC_len (mm_ok j).1 (mm_ok j).2
  have hat : ∀ (j : Nat) x, (l ++ marksMade)[j]? = some x → w.rangeAt g (0 + j * 41) (mC x.1 x.2) := fun j x hx i u hu => by
    have h2 := flatC_at (f := fun x : Mde => mC x.1 x.2) (by decide) _ hlen j x hx i u hu
    rw [hg.cell, Nat.zero_add]
    rw [List.getElem?_toArray]
    exact h2
  have H1 := hide (And.intro hg (And.intro hat hA))
  have l9 : (l.length : Int) ≤ 1000000 := by omega
  clear hg hat hA hv hlen
  go_enter Try.func55, Try.ntmps55
  go_wp2_with fail
  go_loopw [6] (fun x wr => ∃ j : Nat, j ≤ l.length + 12 ∧ x = .int .i64 ((j : Nat) : Int) ∧ Below w.heap.size w wr) (fun x _ => l.length + 12 - (intOf x).toNat)
  case atStart => exact ⟨0, by omega, rfl, Below.refl _ _⟩
  case round =>
    obtain ⟨wo, rfl⟩ : ∃ wo, wo = wr := ⟨_, rfl⟩
    obtain ⟨j, hj, rfl, hb⟩ := hrel
    have HB := hide hb
    clear hb
    have j0 : (0 : Int) ≤ (j : Int) := by omega
    by_cases hend : j < l.length + 12
    · have j2 : (j : Int) < ((l.length + 12 : Nat) : Int) := by omega
      have j2' : (j : Int) < (l.length : Int) + 12 := by omega
      by_cases hin : j < l.length
      · have j1 : (j : Int) < (l.length : Int) := by omega
        have j3 : ¬ (j : Int) ≥ (l.length : Int) := by omega
        obtain ⟨x, hx⟩ : ∃ x, l[j]? = some x := ⟨_, List.getElem?_eq_getElem hin⟩
        have hxo := hok x (List.mem_of_getElem? hx)
        obtain ⟨b, off, rfl, hlb, hE⟩ := H1.out.2.2 (by omega)
        obtain ⟨cs, hr, hatx⟩ := hE j x hx
        obtain ⟨rfl, _⟩ := madeLay_at.1 hatx
        have hgx := H1.out.2.1 j x (by rw [List.getElem?_append_left hin]; exact hx)
        have HX := hide (And.intro hx (And.intro (show b < w.heap.size by omega) (And.intro (rangeAt_same hgx (HB.out.block g H1.out.1.lt)) (And.intro (rangeAt_same hr (HB.out.block b (by omega))) hxo))))
        have hszx : (Try.prog.info? 60).map (·.size) = some (mC x.1 x.2).length := by have := msz hxo.1 hxo.2; simpa using this
        clear hx hE hr hatx hgx
        go_wp2_with fail
        refine Fre.wp_made (X := Blw) 34 [] (by kernel_rfl) (by kernel_rfl) (by simp) (by simp) (by simp) ?_
        simp only [List.take_succ_cons, List.take_zero, List.drop_succ_cons, List.drop_zero]
        refine Fre.made_val (.int .i64 (j : Int)) (by kernel_rfl) (by kernel_rfl) (by kernel_rfl) (fun _ _ => by kernel_rfl) ?_
        simp only [Act.put, List.setIfInBounds_toArray, List.set_cons_zero, List.set_cons_succ]
        refine Fre.made_val (.slice (some ⟨b, off, none⟩) l.length cap) (by kernel_rfl) (by kernel_rfl) (by kernel_rfl) (fun _ _ => by kernel_rfl) ?_
        simp only [Act.put, List.setIfInBounds_toArray, List.set_cons_zero, List.set_cons_succ]
        refine Fre.made_val (.int .i64 (l.length : Int)) (by kernel_rfl) (by kernel_rfl) (by kernel_rfl) (fun W9 hW9 => ?hs3) ?_
        case hs3 =>
          go_simp
        simp only [Act.put, List.setIfInBounds_toArray, List.set_cons_zero, List.set_cons_succ]
        refine Fre.made_val (.bool true) (by kernel_rfl) (by kernel_rfl) (by kernel_rfl) (fun W9 hW9 => ?c26) ?_
        case c26 =>
          go_simp
        simp only [Act.put, List.setIfInBounds_toArray, List.set_cons_zero, List.set_cons_succ]
        refine Fre.made_val (.bool true) (by kernel_rfl) (by kernel_rfl) (by kernel_rfl) (fun _ _ => by kernel_rfl) ?_
        simp only [Act.put, List.setIfInBounds_toArray, List.set_cons_zero, List.set_cons_succ]
        refine Fre.made_val (.slice (some ⟨g, 0, none⟩) (l.length + 12) (l.length + 12)) (by kernel_rfl) (by kernel_rfl) (by kernel_rfl) (fun _ _ => by kernel_rfl) ?_
        simp only [Act.put, List.setIfInBounds_toArray, List.set_cons_zero, List.set_cons_succ]
        refine Fre.made_val (.int .i64 (j : Int)) (by kernel_rfl) (by kernel_rfl) (by kernel_rfl) (fun _ _ => by kernel_rfl) ?_
        simp only [Act.put, List.setIfInBounds_toArray, List.set_cons_zero, List.set_cons_succ]
        refine Fre.made_val (.pointer (some ⟨g, 0 + (j : Int).toNat * 41, none⟩)) (by kernel_rfl) (by kernel_rfl) (by kernel_rfl) (fun W9 _ => exec_index_off (o := ⟨some 30, _, _, _, _, _⟩) 27 60 (.tmp 28) (.tmp 29) rfl g 0 (l.length + 12) (l.length + 12) (j : Int) .i64 rfl rfl ⟨j0, j2⟩ 41 Try.underlying27 sz_made W9) ?_
        simp only [Act.put, List.setIfInBounds_toArray, List.set_cons_zero, List.set_cons_succ]
        rw [show 0 + (j : Int).toNat * 41 = 0 + j * 41 by omega]
        refine Fre.made_val (.agg (mC x.1 x.2).toArray) (by kernel_rfl) (by kernel_rfl) (by kernel_rfl) (fun W9 hW9 => exec_load_mid (o := ⟨some 31, _, _, _, _, _⟩) 60 (.tmp 30) rfl g (0 + j * 41) rfl (mC x.1 x.2) _ W9 (rangeAt_same HX.out.2.2.1 ((blw hW9).block g (Nat.lt_of_lt_of_le H1.out.1.lt HB.out.size))) Try.underlying60 rfl hszx) ?_
        simp only [Act.put, List.setIfInBounds_toArray, List.set_cons_zero, List.set_cons_succ]
        refine Fre.made_val (.slice (some ⟨b, off, none⟩) l.length cap) (by kernel_rfl) (by kernel_rfl) (by kernel_rfl) (fun _ _ => by kernel_rfl) ?_
        simp only [Act.put, List.setIfInBounds_toArray, List.set_cons_zero, List.set_cons_succ]
        refine Fre.made_val (.int .i64 (j : Int)) (by kernel_rfl) (by kernel_rfl) (by kernel_rfl) (fun _ _ => by kernel_rfl) ?_
        simp only [Act.put, List.setIfInBounds_toArray, List.set_cons_zero, List.set_cons_succ]
        refine Fre.made_val (.pointer (some ⟨b, off + (j : Int).toNat * 41, none⟩)) (by kernel_rfl) (by kernel_rfl) (by kernel_rfl) (fun W9 _ => exec_index_off (o := ⟨some 34, _, _, _, _, _⟩) 27 60 (.tmp 32) (.tmp 33) rfl b off l.length cap (j : Int) .i64 rfl rfl ⟨j0, j1⟩ 41 Try.underlying27 sz_made W9) ?_
        simp only [Act.put, List.setIfInBounds_toArray, List.set_cons_zero, List.set_cons_succ]
        rw [show off + (j : Int).toNat * 41 = off + j * 41 by omega]
        refine Fre.made_val (.agg (mC x.1 x.2).toArray) (by kernel_rfl) (by kernel_rfl) (by kernel_rfl) (fun W9 hW9 => exec_load_mid (o := ⟨some 35, _, _, _, _, _⟩) 60 (.tmp 34) rfl b (off + j * 41) rfl (mC x.1 x.2) _ W9 (rangeAt_same HX.out.2.2.2.1 ((blw hW9).block b (Nat.lt_of_lt_of_le HX.out.2.1 HB.out.size))) Try.underlying60 rfl hszx) ?_
        simp only [Act.put, List.setIfInBounds_toArray, List.set_cons_zero, List.set_cons_succ]
        refine Fre.made_val (.bool true) (by kernel_rfl) (by kernel_rfl) (by kernel_rfl) (fun W9 hW9 => exec_binop_agg (o := ⟨some 36, _, _, _, _, _⟩) .eql 60 (.tmp 31) (.tmp 35) _ rfl (mC x.1 x.2).toArray (mC x.1 x.2).toArray rfl rfl (by kernel_rfl) _ (fun W => bin_eq_made x HX.out.2.2.2.2.1 HX.out.2.2.2.2.2 W) W9) ?_
        simp only [Act.put, List.setIfInBounds_toArray, List.set_cons_zero, List.set_cons_succ]
        refine Fre.made_val (.bool false) (by kernel_rfl) (by kernel_rfl) (by kernel_rfl) (fun W9 hW9 => ?c37) ?_
        case c37 =>
          go_simp
        simp only [Act.put, List.setIfInBounds_toArray, List.set_cons_zero, List.set_cons_succ]
        refine Fre.made_val (.bool false) (by kernel_rfl) (by kernel_rfl) (by kernel_rfl) (fun _ _ => by kernel_rfl) ?_
        simp only [Act.put, List.setIfInBounds_toArray, List.set_cons_zero, List.set_cons_succ]
        refine Fre.made_val (.bool false) (by kernel_rfl) (by kernel_rfl) (by kernel_rfl) (fun _ _ => by kernel_rfl) ?_
        simp only [Act.put, List.setIfInBounds_toArray, List.set_cons_zero, List.set_cons_succ]
        refine Fre.made_val (.int .i64 (j : Int)) (by kernel_rfl) (by kernel_rfl) (by kernel_rfl) (fun _ _ => by kernel_rfl) ?_
        simp only [Act.put, List.setIfInBounds_toArray, List.set_cons_zero, List.set_cons_succ]
        refine Fre.made_val (.slice (some ⟨b, off, none⟩) l.length cap) (by kernel_rfl) (by kernel_rfl) (by kernel_rfl) (fun _ _ => by kernel_rfl) ?_
        simp only [Act.put, List.setIfInBounds_toArray, List.set_cons_zero, List.set_cons_succ]
        refine Fre.made_val (.int .i64 (l.length : Int)) (by kernel_rfl) (by kernel_rfl) (by kernel_rfl) (fun W9 hW9 => ?hs4) ?_
        case hs4 =>
          go_simp
        simp only [Act.put, List.setIfInBounds_toArray, List.set_cons_zero, List.set_cons_succ]
        refine Fre.made_val (.bool false) (by kernel_rfl) (by kernel_rfl) (by kernel_rfl) (fun W9 hW9 => ?c43) ?_
        case c43 =>
          go_simp
        simp only [Act.put, List.setIfInBounds_toArray, List.set_cons_zero, List.set_cons_succ]
        refine Fre.made_val (.bool false) (by kernel_rfl) (by kernel_rfl) (by kernel_rfl) (fun _ _ => by kernel_rfl) ?_
        simp only [Act.put, List.setIfInBounds_toArray, List.set_cons_zero, List.set_cons_succ]
        refine Fre.made_skip (by kernel_rfl) (by kernel_rfl) (by kernel_rfl) ?_
        refine Fre.made_skip (by kernel_rfl) (by kernel_rfl) (by kernel_rfl) ?_
        refine Fre.made_skip (by kernel_rfl) (by kernel_rfl) (by kernel_rfl) ?_
        refine Fre.made_skip (by kernel_rfl) (by kernel_rfl) (by kernel_rfl) ?_
        refine Fre.made_skip (by kernel_rfl) (by kernel_rfl) (by kernel_rfl) ?_
        refine Fre.made_skip (by kernel_rfl) (by kernel_rfl) (by kernel_rfl) ?_
        refine Fre.made_skip (by kernel_rfl) (by kernel_rfl) (by kernel_rfl) ?_
        refine Fre.made_skip (by kernel_rfl) (by kernel_rfl) (by kernel_rfl) ?_
        refine Fre.made_skip (by kernel_rfl) (by kernel_rfl) (by kernel_rfl) ?_
        refine Fre.made_skip (by kernel_rfl) (by kernel_rfl) (by kernel_rfl) ?_
        refine Fre.made_skip (by kernel_rfl) (by kernel_rfl) (by kernel_rfl) ?_
        refine Fre.made_val (.bool false) (by kernel_rfl) (by kernel_rfl) (by kernel_rfl) (fun _ _ => by kernel_rfl) ?_
        simp only [Act.put, List.setIfInBounds_toArray, List.set_cons_zero, List.set_cons_succ]
        show ∀ w', _ → _
        intro w4 hb
        simp only [Fre.ended]
        have H4 := hide (HB.out.trans (Below.mono (show Below wo.heap.size wo w4 from hb) HB.out.size))
        clear hb
        go_wp2_with fail
        go_roundw
        case rel => exact ⟨j + 1, by omega, by go_num, H4.out⟩
        case measure => simp [intOf]; omega
      · obtain ⟨q, hq2⟩ : ∃ q, j = l.length + q := ⟨j - l.length, by omega⟩
        have hq : q < 12 := by omega
        have j1 : ¬ (j : Int) < (l.length : Int) := by omega
        have j3 : (j : Int) ≥ (l.length : Int) := by omega
        have j4 : (j : Int) - (l.length : Int) = (q : Int) := by omega
        have hm : (l ++ marksMade)[j]? = some (mm q) := by
          rw [List.getElem?_append_right (by omega), show j - l.length = q by omega, marksMade, List.getElem?_map, List.getElem?_range hq]
          rfl
        have hgx := H1.out.2.1 j _ hm
        have HQ := hide (rangeAt_same hgx (HB.out.block g H1.out.1.lt))
        have hszm : (Try.prog.info? 60).map (·.size) = some (mC (mm q).1 (mm q).2).length := by have := msz (mm_ok q).1 (mm_ok q).2; simpa using this
        clear hm hgx hq2
        go_wp2_with fail
        refine Fre.wp_made (X := Blw) 34 [] (by kernel_rfl) (by kernel_rfl) (by simp) (by simp) (by simp) ?_
        simp only [List.take_succ_cons, List.take_zero, List.drop_succ_cons, List.drop_zero]
        refine Fre.made_val (.int .i64 (j : Int)) (by kernel_rfl) (by kernel_rfl) (by kernel_rfl) (fun _ _ => by kernel_rfl) ?_
        simp only [Act.put, List.setIfInBounds_toArray, List.set_cons_zero, List.set_cons_succ]
        refine Fre.made_val (.slice A l.length cap) (by kernel_rfl) (by kernel_rfl) (by kernel_rfl) (fun _ _ => by kernel_rfl) ?_
        simp only [Act.put, List.setIfInBounds_toArray, List.set_cons_zero, List.set_cons_succ]
        refine Fre.made_val (.int .i64 (l.length : Int)) (by kernel_rfl) (by kernel_rfl) (by kernel_rfl) (fun W9 hW9 => ?d25) ?_
        case d25 =>
          go_simp
        simp only [Act.put, List.setIfInBounds_toArray, List.set_cons_zero, List.set_cons_succ]
        refine Fre.made_val (.bool false) (by kernel_rfl) (by kernel_rfl) (by kernel_rfl) (fun W9 hW9 => ?d26) ?_
        case d26 =>
          go_simp
        simp only [Act.put, List.setIfInBounds_toArray, List.set_cons_zero, List.set_cons_succ]
        refine Fre.made_val (.bool false) (by kernel_rfl) (by kernel_rfl) (by kernel_rfl) (fun _ _ => by kernel_rfl) ?_
        simp only [Act.put, List.setIfInBounds_toArray, List.set_cons_zero, List.set_cons_succ]
        refine Fre.made_skip (by kernel_rfl) (by kernel_rfl) (by kernel_rfl) ?_
        refine Fre.made_skip (by kernel_rfl) (by kernel_rfl) (by kernel_rfl) ?_
        refine Fre.made_skip (by kernel_rfl) (by kernel_rfl) (by kernel_rfl) ?_
        refine Fre.made_skip (by kernel_rfl) (by kernel_rfl) (by kernel_rfl) ?_
        refine Fre.made_skip (by kernel_rfl) (by kernel_rfl) (by kernel_rfl) ?_
        refine Fre.made_skip (by kernel_rfl) (by kernel_rfl) (by kernel_rfl) ?_
        refine Fre.made_skip (by kernel_rfl) (by kernel_rfl) (by kernel_rfl) ?_
        refine Fre.made_skip (by kernel_rfl) (by kernel_rfl) (by kernel_rfl) ?_
        refine Fre.made_skip (by kernel_rfl) (by kernel_rfl) (by kernel_rfl) ?_
        refine Fre.made_skip (by kernel_rfl) (by kernel_rfl) (by kernel_rfl) ?_
        refine Fre.made_val (.bool false) (by kernel_rfl) (by kernel_rfl) (by kernel_rfl) (fun _ _ => by kernel_rfl) ?_
        simp only [Act.put, List.setIfInBounds_toArray, List.set_cons_zero, List.set_cons_succ]
        refine Fre.made_val (.bool false) (by kernel_rfl) (by kernel_rfl) (by kernel_rfl) (fun _ _ => by kernel_rfl) ?_
        simp only [Act.put, List.setIfInBounds_toArray, List.set_cons_zero, List.set_cons_succ]
        refine Fre.made_val (.int .i64 (j : Int)) (by kernel_rfl) (by kernel_rfl) (by kernel_rfl) (fun _ _ => by kernel_rfl) ?_
        simp only [Act.put, List.setIfInBounds_toArray, List.set_cons_zero, List.set_cons_succ]
        refine Fre.made_val (.slice A l.length cap) (by kernel_rfl) (by kernel_rfl) (by kernel_rfl) (fun _ _ => by kernel_rfl) ?_
        simp only [Act.put, List.setIfInBounds_toArray, List.set_cons_zero, List.set_cons_succ]
        refine Fre.made_val (.int .i64 (l.length : Int)) (by kernel_rfl) (by kernel_rfl) (by kernel_rfl) (fun W9 hW9 => ?d42) ?_
        case d42 =>
          go_simp
        simp only [Act.put, List.setIfInBounds_toArray, List.set_cons_zero, List.set_cons_succ]
        refine Fre.made_val (.bool true) (by kernel_rfl) (by kernel_rfl) (by kernel_rfl) (fun W9 hW9 => ?d43) ?_
        case d43 =>
          go_simp
        simp only [Act.put, List.setIfInBounds_toArray, List.set_cons_zero, List.set_cons_succ]
        refine Fre.made_val (.bool true) (by kernel_rfl) (by kernel_rfl) (by kernel_rfl) (fun _ _ => by kernel_rfl) ?_
        simp only [Act.put, List.setIfInBounds_toArray, List.set_cons_zero, List.set_cons_succ]
        refine Fre.made_val (.slice (some ⟨g, 0, none⟩) (l.length + 12) (l.length + 12)) (by kernel_rfl) (by kernel_rfl) (by kernel_rfl) (fun _ _ => by kernel_rfl) ?_
        simp only [Act.put, List.setIfInBounds_toArray, List.set_cons_zero, List.set_cons_succ]
        refine Fre.made_val (.int .i64 (j : Int)) (by kernel_rfl) (by kernel_rfl) (by kernel_rfl) (fun _ _ => by kernel_rfl) ?_
        simp only [Act.put, List.setIfInBounds_toArray, List.set_cons_zero, List.set_cons_succ]
        refine Fre.made_val (.pointer (some ⟨g, 0 + (j : Int).toNat * 41, none⟩)) (by kernel_rfl) (by kernel_rfl) (by kernel_rfl) (fun W9 _ => exec_index_off (o := ⟨some 47, _, _, _, _, _⟩) 27 60 (.tmp 45) (.tmp 46) rfl g 0 (l.length + 12) (l.length + 12) (j : Int) .i64 rfl rfl ⟨j0, j2⟩ 41 Try.underlying27 sz_made W9) ?_
        simp only [Act.put, List.setIfInBounds_toArray, List.set_cons_zero, List.set_cons_succ]
        rw [show 0 + (j : Int).toNat * 41 = 0 + j * 41 by omega]
        refine Fre.made_val (.agg (mC (mm q).1 (mm q).2).toArray) (by kernel_rfl) (by kernel_rfl) (by kernel_rfl) (fun W9 hW9 => exec_load_mid (o := ⟨some 48, _, _, _, _, _⟩) 60 (.tmp 47) rfl g (0 + j * 41) rfl (mC (mm q).1 (mm q).2) _ W9 (rangeAt_same HQ.out ((blw hW9).block g (Nat.lt_of_lt_of_le H1.out.1.lt HB.out.size))) Try.underlying60 rfl hszm) ?_
        simp only [Act.put, List.setIfInBounds_toArray, List.set_cons_zero, List.set_cons_succ]
        refine Fre.made_val (.int .i64 (j : Int)) (by kernel_rfl) (by kernel_rfl) (by kernel_rfl) (fun _ _ => by kernel_rfl) ?_
        simp only [Act.put, List.setIfInBounds_toArray, List.set_cons_zero, List.set_cons_succ]
        refine Fre.made_val (.slice A l.length cap) (by kernel_rfl) (by kernel_rfl) (by kernel_rfl) (fun _ _ => by kernel_rfl) ?_
        simp only [Act.put, List.setIfInBounds_toArray, List.set_cons_zero, List.set_cons_succ]
        refine Fre.made_val (.int .i64 (l.length : Int)) (by kernel_rfl) (by kernel_rfl) (by kernel_rfl) (fun W9 hW9 => ?d51) ?_
        case d51 =>
          go_simp
        simp only [Act.put, List.setIfInBounds_toArray, List.set_cons_zero, List.set_cons_succ]
        refine Fre.made_val (.int .i64 (q : Int)) (by kernel_rfl) (by kernel_rfl) (by kernel_rfl) (fun W9 hW9 => ?d52) ?_
        case d52 =>
          go_simp
          exact wrapI9 _ (by omega)
        simp only [Act.put, List.setIfInBounds_toArray, List.set_cons_zero, List.set_cons_succ]
        refine Fre.made_call (.agg (mC (mm q).1 (mm q).2).toArray) 90 #[.int .i64 1, .int .i64 (q : Int)] (by kernel_rfl) (by kernel_rfl) (by kernel_rfl) (fun W9 => by kernel_rfl) (fun W9 hW9 => (markMade_any q hq W9).mono fun e w' ⟨h1, h2⟩ => ⟨h1, h2⟩) ?_
        simp only [Act.put, List.setIfInBounds_toArray, List.set_cons_zero, List.set_cons_succ]
        refine Fre.made_val (.bool true) (by kernel_rfl) (by kernel_rfl) (by kernel_rfl) (fun W9 hW9 => exec_binop_agg (o := ⟨some 54, _, _, _, _, _⟩) .eql 60 (.tmp 48) (.tmp 53) _ rfl (mC (mm q).1 (mm q).2).toArray (mC (mm q).1 (mm q).2).toArray rfl rfl (by kernel_rfl) _ (fun W => bin_eq_made (mm q) (mm_ok q).1 (mm_ok q).2 W) W9) ?_
        simp only [Act.put, List.setIfInBounds_toArray, List.set_cons_zero, List.set_cons_succ]
        refine Fre.made_val (.bool false) (by kernel_rfl) (by kernel_rfl) (by kernel_rfl) (fun W9 hW9 => ?d55) ?_
        case d55 =>
          go_simp
        simp only [Act.put, List.setIfInBounds_toArray, List.set_cons_zero, List.set_cons_succ]
        refine Fre.made_val (.bool false) (by kernel_rfl) (by kernel_rfl) (by kernel_rfl) (fun _ _ => by kernel_rfl) ?_
        simp only [Act.put, List.setIfInBounds_toArray, List.set_cons_zero, List.set_cons_succ]
        show ∀ w', _ → _
        intro w4 hb
        simp only [Fre.ended]
        have H4 := hide (HB.out.trans (Below.mono (show Below wo.heap.size wo w4 from hb) HB.out.size))
        clear hb
        go_wp2_with fail
        go_roundw
        case rel => exact ⟨j + 1, by omega, by go_num, H4.out⟩
        case measure => simp [intOf]; omega
    · obtain rfl : j = l.length + 12 := by omega
      go_wp2_with fail
      go_ret
      exact ⟨rfl, HB.out⟩
end Go.Proofs.Ytfppddnfdinipaa
end
section
namespace Go.Proofs.Ytfppddnfdinipaa
open Go Go.RowKit Go.Maps
set_option maxRecDepth 100000
def ivz (l : List Int) : List Value := l.map fun k => Value.int .i64 k
theorem ivz_append (a b : List Int) : ivz (a ++ b) = ivz a ++ ivz b := by simp [ivz]
theorem ivz_flat (l : List Int) : l.flatMap (fun k => [Value.int .i64 k]) = ivz l := by
  induction l with
  | nil => rfl
  | cons x l ih => rw [List.flatMap_cons, ih]; rfl
theorem ints_src {w : World} {B len cap : Nat} {A : Option Addr} {ks : List Int} (h : intLay.At w B [.slice A len cap] ks) : len = ks.length ∧ SrcN w 1 A ks.length cap (ivz ks) := by
  have h2 := slice_src (L := Lay.int 3 .i64) (f := fun k => [Value.int .i64 k]) (by decide) (fun h => h.1) (fun k u hu => by rw [List.mem_singleton.1 hu]; rfl) h
  rw [ivz_flat] at h2
  exact h2
def marksInt : List Int := (List.range 12).map fun j => 1000003 * (1 + 7) + ((j : Nat) : Int)
theorem marksInt_take (i : Nat) (h : i < 12) : marksInt.take (i + 1) = marksInt.take i ++ [1000003 * (1 + 7) + (i : Int)] := by
  rw [List.take_add_one, marksInt, List.getElem?_map, List.getElem?_range h]; rfl
theorem keptLI (l : List Int) (j : Nat) (x : Int) (h : l[j]? = some x) : (ivz (l ++ marksInt)).toArray[j]? = some (.int .i64 x) := by
  have hj := (List.getElem?_eq_some_iff.1 h).1
  rw [List.getElem?_toArray, ivz, List.getElem?_map, List.getElem?_append_left hj, h]
  rfl
theorem keptMI (l : List Int) (q : Nat) (h : q < 12) : (ivz (l ++ marksInt)).toArray[l.length + q]? = some (.int .i64 (1000003 * (1 + 7) + (q : Int))) := by
  rw [List.getElem?_toArray, ivz, List.getElem?_map, List.getElem?_append_right (by omega), Nat.add_sub_cancel_left, marksInt, List.getElem?_map, List.getElem?_range h]
  rfl
set_option maxRecDepth 100000 in
set_option maxHeartbeats 1000000 in
theorem lentInts_any (l : List Int) (hl : l.length ≤ 1000000) (A : Option Addr) (n cap : Nat) (B : Nat) (w : World) (hB : B ≤ w.heap.size) (hv : intLay.At w B [.slice A n cap] l) :
    Calls Try.prog 19 #[.slice A n cap] w fun e w' => ∃ g, e = .returned (.slice (some ⟨g, 0, none⟩) l.length (l.length + 12)) ∧ w.heap.size ≤ g ∧ Blk w' g 3 (ivz (l ++ marksInt)).toArray ∧ Below w.heap.size w w' := by
  obtain ⟨rfl, hs0⟩ := ints_src hv
  obtain ⟨i, hi, hz0, hz1, hz2⟩ := info_parts info_intI
  have HV := hide hv
  clear hv
  go_enter Try.func19, Try.ntmps19
  go_wp2_with (at_make; refine wpList_make_own _ rfl _ _ 33 rfl w.heap.size 3 i (.int .i64 0) 1 Try.underlying33 hi hz0 hz1 _ _ _ (l.length + 12) rfl rfl ?e0 ?e1 ?e2 ?e3 ?_)
  case e0 => omega
  case e1 => rw [hz2]; omega
  case e2 => simp only [maxLen]; omega
  case e3 => exact Nat.le_refl _
  intro w1 own1 gr1
  obtain ⟨g, hg⟩ : ∃ g, g = w.heap.size := ⟨_, rfl⟩
  rw [← hg] at own1 ⊢
  have hs1 : SrcN w1 1 A l.length cap (ivz l) := (ints_src (intLay.alike HV.out fun k hk => gr1.block k (by omega) (by simp))).2
  have HC1 := hide hs1
  have HG := hide hg
  clear hs1 hg hs0
  go_wp2_with (at_builtin; (refine wpList_append_fits_any w1 rfl _ _ 33 rfl g 3 i 1 Try.underlying33 hi hz1 g 0 (l.length + 12) [] rfl own1 A l.length cap (ivz l) rfl ?f0 ?f1 ?f2 ?f3 ?f4 ?_))
  case f0 => rw [HC1.out.len, Nat.mul_one]
  case f1 => exact HC1.out.none_
  case f2 => exact HC1.out.cells
  case f3 => exact HC1.out.one
  case f4 => omega
  intro w2 own2 gr2
  have hg := HG.out
  have hb2 : Below w.heap.size w w2 := by
    have b1 : Below w.heap.size w w1 := (Below.refl _ _).grown gr1 (Nat.le_refl _) (by simp)
    exact b1.grown gr2 b1.size (by intro k hk; injection hk with hk; omega)
  have HO := hide (And.intro own2 hb2)
  clear own1 own2 gr1 gr2 hb2 hg
  go_wp2_with fail
  go_loopw [3, 4] (fun v3 v4 wr => ∃ j : Nat, j ≤ 12 ∧ v4 = .int .i64 (j : Int) ∧ v3 = .slice (some ⟨g, 0, none⟩) (l.length + j) (l.length + 12) ∧ wr.ownsRow g 3 1 v3 (l.length + j) (ivz (l ++ marksInt.take j)) ∧ Below w.heap.size w wr) (fun _ v4 _ => (12 - intOf v4).toNat)
  case atStart => exact ⟨0, by omega, rfl, rfl, by simpa using HO.out.1, HO.out.2⟩
  case round =>
    obtain ⟨j, hj, rfl, rfl, own3, hb3⟩ := hrel
    by_cases h12 : j < 12
    · go_wp2_with fail
      refine (mark_any 1 (j : Int) (by omega) (by omega) _).mono ?_
      rintro e w3 ⟨rfl, rfl⟩
      dsimp only
      have own4 := own3.alloc (.cells #[.int .i64 (1000003 * (1 + 7) + (j : Int))] 3)
      obtain ⟨X, hX⟩ : ∃ X, X = w3.heap.size := ⟨_, rfl⟩
      have hbx := Blk.new w3 3 #[.int .i64 (1000003 * (1 + 7) + (j : Int))]
      rw [← hX] at hbx
      have hb4 : Below w.heap.size w (w3.alloc (.cells #[.int .i64 (1000003 * (1 + 7) + (j : Int))] 3)) := hb3.alloc hb3.size _
      have HX := hide hX
      have HBX := hide hbx
      clear own3 hb3 hbx
      go_wp2_with (at_builtin; (refine wpList_append_fits _ rfl _ _ 33 rfl g 3 i 1 Try.underlying33 hi hz1 g (l.length + j) (l.length + 12) (ivz (l ++ marksInt.take j)) rfl own4 ⟨w3.heap.size, 0, none⟩ 1 1 [.int .i64 (1000003 * (1 + 7) + (j : Int))] rfl ?h0 ?h1 ?h2 ?h3 ?_))
      case h0 => rfl
      case h1 =>
        intro q u hu
        match q, hu with
        | 0, hu =>
          have h := HBX.out.cell 0
          rw [HX.out] at h
          rw [← hu]; exact h
      case h2 =>
        intro u hu
        simp only [List.mem_singleton] at hu
        rw [hu]; rfl
      case h3 => omega
      intro w5 own5 gr5
      have HO5 := hide (And.intro own5 (And.intro gr5 hb4))
      clear own5 gr5 hb4 own4
      go_wp2_with fail
      go_roundw
      case rel =>
        obtain ⟨own5, gr5, hb4⟩ := HO5.out
        have hg := HG.out
        refine ⟨j + 1, by omega, by go_num, rfl, ?_, hb4.grown gr5 hb4.size (by intro k hk; injection hk with hk; omega)⟩
        rw [marksInt_take j h12, ← List.append_assoc, ivz_append]
        exact own5
      case measure => simp [intOf]; omega
    · obtain rfl : j = 12 := by omega
      go_wp2_with fail
      go_ret
      refine ⟨g, rfl, by have := HG.out; omega, ?_, hb3⟩
      have h := owned_blk own3
      rwa [show marksInt.take 12 = marksInt from rfl] at h
set_option maxRecDepth 100000 in
set_option maxHeartbeats 1000000 in
theorem keptInts_any (l : List Int) (hl : l.length ≤ 1000000) (v2 : Value) (g : Nat) (B : Nat) (w : World) (hv : IntsAt w B v2 l) (hg : Blk w g 3 (ivz (l ++ marksInt)).toArray) :
    Calls Try.prog 22 #[.slice (some ⟨g, 0, none⟩) l.length (l.length + 12), v2] w fun e w' => e = .returned (.bool true) ∧ ∃ k, w' = w.drewN k := by
  obtain ⟨A, cap, rfl, hA⟩ := hv
  have HV := hide hA
  have HG := hide hg
  clear hA hg
  go_enter Try.func22, Try.ntmps22
  go_wp2_with fail
  go_loopw [6] (fun v wr => ∃ j : Nat, j ≤ l.length + 12 ∧ v = .int .i64 (j : Int) ∧ ∃ k, wr = w.drewN k) (fun v _ => (l.length + 12 - intOf v).toNat)
  case atStart => exact ⟨0, by omega, rfl, 0, rfl⟩
  case round =>
    obtain ⟨j, hj, rfl, hk⟩ := hrel
    have hcw : ∀ p, wr.cell? p = w.cell? p := by obtain ⟨k, rfl⟩ := hk; exact fun p => World.cell?_drewN w k p
    have HK := hide hk
    have HCW := hide hcw
    clear hk hcw
    by_cases hend : j < l.length + 12
    · by_cases hin : j < l.length
      · obtain ⟨x, hx⟩ : ∃ x, l[j]? = some x := ⟨_, List.getElem?_eq_getElem hin⟩
        have hVV := HV.out
        obtain ⟨b, off, rfl, hbB, hcell⟩ := hVV j x hx
        have cL : wr.cell? ⟨b, off + j, none⟩ = some (.int .i64 x) := by rw [HCW.out]; exact hcell
        have cG : wr.cell? ⟨g, j, none⟩ = some (.int .i64 x) := by rw [HCW.out, HG.out.cell, keptLI l j x hx]
        have n0 : (0 : Int) ≤ (j : Int) := by omega
        have n1 : (j : Int) < (l.length : Int) := by omega
        have n2 : (j : Int) < (l.length : Int) + 12 := by omega
        have d1 : decide ((j : Int) < (l.length : Int)) = true := decide_eq_true n1
        have d2 : decide (l.length ≤ j) = false := decide_eq_false (by omega)
        have d3 : decide ((l.length : Int) ≤ (j : Int)) = false := decide_eq_false (by omega)
        have HX := hide hx
        clear hx hcell HV hVV
        go_wp2_with fail
        go_quiet (fail)
        go_wp2_with fail
        go_roundw
        case rel => obtain ⟨k, hk⟩ := HK.out; exact ⟨j + 1, by omega, by go_num, _, by rw [hk, World.drewN_drewN]⟩
        case measure => simp [intOf]; omega
      · obtain ⟨q, rfl⟩ : ∃ q, j = l.length + q := ⟨j - l.length, by omega⟩
        have cG : wr.cell? ⟨g, l.length + q, none⟩ = some (.int .i64 (1000003 * (1 + 7) + (q : Int))) := by rw [HCW.out, HG.out.cell, keptMI l q (by omega)]
        obtain ⟨j, hj2⟩ : ∃ j, j = l.length + q := ⟨_, rfl⟩
        rw [← hj2] at cG hend hj hin ⊢
        have n0 : (0 : Int) ≤ (j : Int) := by omega
        have n2 : (j : Int) < (l.length : Int) + 12 := by omega
        have n3 : (j : Int) - (l.length : Int) = (q : Int) := by omega
        have d1 : decide ((j : Int) < (l.length : Int)) = false := decide_eq_false (by omega)
        have d2 : decide (l.length ≤ j) = true := decide_eq_true (by omega)
        have d3 : decide ((l.length : Int) ≤ (j : Int)) = true := decide_eq_true (by omega)
        have d4 : decide (j < l.length) = false := decide_eq_false (by omega)
        have hq : q ≤ 1000000000 := by omega
        have HJ := hide hj2
        clear hj2 HV
        go_wp2_with fail
        go_quiet ((go_at_call 56; exact Calls.quiet_of_same (mark_any 1 (q : Int) (by omega) (by omega) _)))
        go_wp2_with fail
        go_roundw
        case rel => obtain ⟨k, hk⟩ := HK.out; exact ⟨j + 1, by omega, by go_num, _, by rw [hk, World.drewN_drewN]⟩
        case measure => simp [intOf]; omega
    · obtain rfl : j = l.length + 12 := by omega
      go_wp2_with fail
      go_ret
      exact ⟨rfl, HK.out⟩
end Go.Proofs.Ytfppddnfdinipaa
end
section
namespace Go.Proofs.Ytfppddnfdinipaa
open Go Go.RowKit Go.Maps
set_option maxRecDepth 100000
/-- a row of one's own, of things whose cells are told beside them, is read -/
theorem own_slice2 {α γ : Type} {f : γ → List Value} {h : γ → α} {t e : TypeId} {L : Lay α} (h0 : 0 < L.n) {w : World} {R : Nat} {v : Value} {xs : List γ} (hown : w.ownsRow R e L.n v xs.length (xs.flatMap f)) (B : Nat) (hB : w.heap.size ≤ B) (hat : ∀ x ∈ xs, L.At w B (f x) (h x)) : (Lay.slice t L).At w B [v] (xs.map h) := by
  have hlen : ∀ x ∈ xs, (f x).length = L.n := fun x hx => L.len (hat x hx)
  rcases owned_formN hown with ⟨rfl, hl, _⟩ | ⟨g, cap, cur, rfl, hbg, hnc, hcm, hg, hcs, htake, _⟩
  · obtain rfl := List.eq_nil_of_length_eq_zero hl
    exact ⟨none, 0, rfl, Nat.le_refl _, Nat.zero_le _, (fun _ => rfl), fun h => absurd h (by simp)⟩
  · refine ⟨_, cap, by rw [List.length_map], by rw [List.length_map]; exact hnc, hcm, (fun h => by cases h), fun _ => ⟨g, 0, rfl, by have := hg.lt; omega, fun j y hj => ?_⟩⟩
    rw [List.getElem?_map] at hj
    cases hx : xs[j]? with
    | none => rw [hx] at hj; cases hj
    | some x =>
      rw [hx] at hj
      injection hj with hj
      subst hj
      refine ⟨f x, fun i u hu => ?_, hat x (List.mem_of_getElem? hx)⟩
      have h2 := flatC_at h0 xs hlen j x hx i u hu
      rw [hg.cell, ← Array.getElem?_toList, Nat.zero_add]
      rw [← htake] at h2
      have hlt : j * L.n + i < xs.length * L.n := by
        have := (List.getElem?_eq_some_iff.1 h2).1
        rw [List.length_take] at this
        omega
      rwa [List.getElem?_take_of_lt hlt] at h2
/-- an option's cells, a row's cell -/
def oF (x : Opt × Value) : List Value := oC x.1.1 x.2
def rF (x : List Opt × Value) : List Value := [x.2]
def flO (xs : List (Opt × Value)) : List Value := xs.flatMap oF
def flR (xs : List (List Opt × Value)) : List Value := xs.flatMap rF
theorem flO_snoc (xs : List (Opt × Value)) (x : Opt × Value) : flO (xs ++ [x]) = flO xs ++ oC x.1.1 x.2 := by simp [flO, oF]
theorem flR_snoc (xs : List (List Opt × Value)) (x : List Opt × Value) : flR (xs ++ [x]) = flR xs ++ [x.2] := by simp [flR, rF]
def FO (t : TypeId) (L : List Value) : TypeId → List Value := fun u => if u = t then L else []
def NO (t : TypeId) (n : Nat) : TypeId → Nat := fun u => if u = t then n else 0
/-- a row of one thing -/
def OneX (t : TypeId) (B : Nat) (cs : List Value) (u : Value) (w : World) : Prop := ∃ r, u = .slice (some ⟨r, 0, none⟩) 1 1 ∧ B ≤ r ∧ Blk w r t cs.toArray
theorem oneX_stays {t : TypeId} {B m : Nat} {cs xs : List Value} {u : Value} {w w' : World} (hn : xs.length = m * cs.length) (h : OneX t B cs u w) (hx : GrowF B (NO t xs.length) (FO t (xs ++ cs)) w w') : OneX t B cs u w' := by
  obtain ⟨g, rfl, hg, hb⟩ := h
  refine ⟨g, rfl, hg, hx.blk2 hb fun j hj hN _ => ?_⟩
  have hN : xs.length ≤ j := by simpa [NO] using hN
  have hj : j < cs.length := by simpa using hj
  have h0 : m = 0 := by
    rcases Nat.eq_zero_or_pos m with h | h
    · exact h
    · have := Nat.mul_le_mul_right cs.length h
      omega
  rw [h0, Nat.zero_mul] at hn
  have := List.eq_nil_of_length_eq_zero hn
  subst this
  simp [FO]
/-- one thing is put behind a row -/
theorem app_one {rt t : TypeId} {n bytes : Nat} {z : Value} (ht : Try.prog.underlying rt = some (.slice t)) (hinfo : (Try.prog.info? t).map (fun i => (i.zero, i.size, i.bytes)) = some (some z, n, bytes)) (hzs : z.cells.size = n) (h0 : 0 < n) (hb : bytes ≤ 1000) {B m : Nat} {xs cs : List Value} {v : Value} {w : World} (hown : w.ownsRow B t n v m xs) (hm : m ≤ 1000) (hB : B ≤ w.heap.size) (r : Nat) (hr : Blk w r t cs.toArray) (hcs : cs.length = n) (h1 : ∀ u ∈ cs, u.oneCell' = true) :
    ∃ v' w', (Builtin.append_ #[rt, rt] rt #[v, .slice (some ⟨r, 0, none⟩) 1 1]).run Try.prog w = .ok v' w' ∧ GrowF B (NO t xs.length) (FO t (xs ++ cs)) w w' ∧ w'.ownsRow B t n v' (m + 1) (xs ++ cs) := by
  obtain ⟨i, hi, hz0, hz1, hz2⟩ := info_parts hinfo
  have hs := box_src hr h1
  rw [hcs] at hs
  obtain ⟨v', w', e1, e2, e3, _⟩ := GrowF.app (P := Try.prog) (N := NO t xs.length) (F := FO t (xs ++ cs)) rt rt t i z n bytes ht hi hz0 hz1 hz2 hzs h0 v m xs hown _ 1 1 cs hs (by simp only [maxLen]; omega) (by have := Nat.mul_le_mul (show m + 1 ≤ 1001 by omega) hb; omega) hB (by simp [FO]) (by simp [NO])
  exact ⟨v', w', e1, e2, e3⟩
theorem owned_keepF {t : TypeId} {B R n m N : Nat} {xs L : List Value} {v : Value} {w w' : World} (h : w.ownsRow R t n v m xs) (hx : GrowF B (NO t N) (FO t (xs ++ L)) w w') : w'.ownsRow R t n v m xs :=
  hx.own h (by simp [FO])
/-! what of a world stays while rows are built -/
structure KeepO (w0 : World) (t : TypeId) (w w' : World) : Prop where
  size : w.heap.size ≤ w'.heap.size
  old : ∀ k, k < w0.heap.size → w'.heap[k]? = w.heap[k]?
  typ : ∀ k cs e, e = t ∨ e = 53 → Blk w k e cs → Blk w' k e cs
theorem KeepO.of_below {w0 w w' : World} {t : TypeId} (h : Below w.heap.size w w') (h0 : w0.heap.size ≤ w.heap.size) : KeepO w0 t w w' :=
  ⟨h.size, fun k hk => h.block k (by omega), fun k cs e _ hb => (h.block k hb.lt).trans hb⟩
theorem KeepO.trans {w0 w w' w'' : World} {t : TypeId} (h1 : KeepO w0 t w w') (h2 : KeepO w0 t w' w'') : KeepO w0 t w w'' :=
  ⟨Nat.le_trans h1.size h2.size, fun k hk => (h2.old k hk).trans (h1.old k hk), fun k cs e he hb => h2.typ k cs e he (h1.typ k cs e he hb)⟩
theorem KeepO.of_grow {w0 w w' : World} {t : TypeId} {B : Nat} {N : TypeId → Nat} {F : TypeId → List Value} (h : GrowF B N F w w') (h0 : w0.heap.size ≤ B) (hB : B ≤ w.heap.size) (ht : F t = []) (hp : F 53 = []) : KeepO w0 t w w' :=
  ⟨h.size, fun k hk => (h.below hB).block k (by omega), fun k cs e he hb => h.blk hb (by rcases he with rfl | rfl; exact ht; exact hp)⟩
theorem KeepO.of_one {w0 w w' : World} {t e0 : TypeId} {b : Nat} {c0 : Array Value} (hs : w.heap.size ≤ w'.heap.size) (hw : ∀ k, k ≠ b → k < w.heap.size → w'.heap[k]? = w.heap[k]?) (hb : Blk w b e0 c0) (h0 : w0.heap.size ≤ b) (he : e0 ≠ t ∧ e0 ≠ 53) : KeepO w0 t w w' := by
  refine ⟨hs, fun k hk => hw k (by omega) (by have := hb.lt; omega), fun k cs e h1 h2 => ?_⟩
  refine (hw k (fun e9 => ?_) h2.lt).trans h2
  subst e9
  have h3 : w.heap[k]? = some (.cells cs e (0, 0)) := h2
  have h4 : w.heap[k]? = some (.cells c0 e0 (0, 0)) := hb
  rw [h3] at h4
  injection h4 with h4
  injection h4 with _ h4
  subst h4
  exact h1.elim he.1 he.2
theorem KeepO.of_grown {w0 w w' : World} {t e : TypeId} {R n m : Nat} {xs : List Value} {v : Value} (hown : w.ownsRow R e n v m xs) (hg : w.grownBy w' v.ownBlock) (h0 : w0.heap.size ≤ R) (he : e ≠ t ∧ e ≠ 53) (hw : w0.heap.size ≤ w.heap.size) : KeepO w0 t w w' := by
  rcases owned_formN hown with ⟨rfl, _⟩ | ⟨g, cap, cur, rfl, hbg, _, _, hb, _⟩
  · refine ⟨hg.size, fun k hk => hg.block k (by omega) (fun e => by cases e), fun k cs e _ hb => (hg.block k hb.lt (fun e => by cases e)).trans hb⟩
  · exact KeepO.of_one (b := g) hg.size (fun k hk hl => hg.block k hl fun e => hk (Option.some.inj (show some k = some g from e))) hb (by omega) he
theorem KeepO.path {w0 w w' : World} {t : TypeId} (h : KeepO w0 t w w') : KeepO w0 53 w w' := ⟨h.size, h.old, fun k cs e he hb => h.typ k cs e (.inr (he.elim id id)) hb⟩
/-- rows of options whose closures are read by a reader of their own -/
def optLayQ (L : Lay (List Pth)) : Lay Opt := Lay.struct 55 (.cons pathLay (.cons L .nil)) fun o => (o.1, o.2, ())
def rowLayQ (L : Lay (List Pth)) : Lay (List Opt) := Lay.slice 57 (optLayQ L)
def rowsLayQ (L : Lay (List Pth)) : Lay (List (List Opt)) := Lay.slice 26 (rowLayQ L)
/-- what is told of a closure that is built: it stays, it is read -/
structure QOk (w0 : World) (Q : World → Value → List Pth → Prop) (L : Lay (List Pth)) : Prop where
  n1 : L.n = 1
  keep : ∀ {w w' v ps}, Q w v ps → KeepO w0 53 w w' → Q w' v ps
  at_ : ∀ {w v ps}, Q w v ps → w0.heap.size ≤ w.heap.size → L.At w w.heap.size [v] ps
  one : ∀ {w v ps}, Q w v ps → ∃ A n cap, v = .slice A n cap
/-- a row of options that is built -/
def RowQ (t : TypeId) (Q : World → Value → List Pth → Prop) (w : World) (v : Value) (os : List Opt) : Prop :=
  ∃ xs : List (Opt × Value), xs.map (·.1) = os ∧ (∃ R, w.ownsRow R t 22 v os.length (flO xs)) ∧ ∀ x ∈ xs, okP x.1.1 ∧ Q w x.2 x.1.2
theorem RowQ.keep {w0 : World} {L : Lay (List Pth)} {t : TypeId} {Q : World → Value → List Pth → Prop} (hQ : QOk w0 Q L) {w w' : World} {v : Value} {os : List Opt} (h : RowQ t Q w v os) (hk : KeepO w0 t w w') : RowQ t Q w' v os := by
  obtain ⟨xs, h1, ⟨R, h2⟩, h3⟩ := h
  refine ⟨xs, h1, ⟨R, ?_⟩, fun x hx => ⟨(h3 x hx).1, hQ.keep (h3 x hx).2 hk.path⟩⟩
  rcases owned_formN h2 with ⟨rfl, h4, h5⟩ | ⟨g, cap, cur, rfl, hbg, hnc, hcm, hg, hcs, htake, _⟩
  · exact ⟨h2.1, .inl ⟨rfl, h4⟩⟩
  · exact ⟨h2.1, .inr ⟨g, cap, cur, rfl, hbg, hk.typ g cur t (.inl rfl) hg, hnc, hcm, hcs, htake⟩⟩
theorem RowQ.at_ {w0 : World} {L : Lay (List Pth)} {t : TypeId} {Q : World → Value → List Pth → Prop} (hQ : QOk w0 Q L) {w : World} {v : Value} {os : List Opt} (h : RowQ t Q w v os) (h0 : w0.heap.size ≤ w.heap.size) : (rowLayQ L).At w w.heap.size [v] os := by
  obtain ⟨xs, rfl, ⟨R, h2⟩, h3⟩ := h
  rw [List.length_map] at h2
  have hn : (optLayQ L).n = 22 := by
    show 21 + (L.n + 0) = 22
    rw [hQ.n1]
  refine own_slice2 (L := optLayQ L) (f := oF) (h := fun x => x.1) (by rw [hn]; decide) (by rw [hn]; exact h2) _ (Nat.le_refl _) fun x hx => ?_
  obtain ⟨h4, h5⟩ := h3 x hx
  exact ⟨pC x.1.1, [x.2], rfl, pathLay_at.2 ⟨rfl, h4⟩, [x.2], [], rfl, hQ.at_ h5 h0, rfl⟩
theorem RowQ.slice {t : TypeId} {Q : World → Value → List Pth → Prop} {w : World} {v : Value} {os : List Opt} (h : RowQ t Q w v os) : ∃ A n cap, v = .slice A n cap := by
  obtain ⟨xs, _, ⟨R, h2⟩, _⟩ := h
  rcases owned_formN h2 with ⟨rfl, _⟩ | ⟨g, cap, cur, rfl, _⟩
  · exact ⟨_, _, _, rfl⟩
  · exact ⟨_, _, _, rfl⟩
/-- all rows that are built -/
theorem rowsQ_at {w0 : World} {L : Lay (List Pth)} {t e : TypeId} {Q : World → Value → List Pth → Prop} (hQ : QOk w0 Q L) {w : World} {R : Nat} {v : Value} {rows : List (List Opt × Value)} {c : List (List Opt)} (hc : rows.map (·.1) = c) (h : w.ownsRow R e 1 v rows.length (flR rows)) (hr : ∀ x ∈ rows, RowQ t Q w x.2 x.1) (h0 : w0.heap.size ≤ w.heap.size) : (rowsLayQ L).At w w.heap.size [v] c := by
  subst hc
  refine own_slice2 (L := rowLayQ L) (f := rF) (h := fun x => x.1) (Nat.succ_pos 0) h _ (Nat.le_refl _) fun x hx => ?_
  exact (hr x hx).at_ hQ h0
/-! closures that are lent: with twelve marks behind -/
def lentLay : Lay (List Pth) where
  t := 24
  n := 1
  At := fun w B cs l => ∃ g, cs = [.slice (some ⟨g, 0, none⟩) l.length (l.length + 12)] ∧ g < B ∧ Blk w g 53 (flP (l ++ marksPath)).toArray
  len := fun ⟨g, e, _⟩ => by rw [e]; rfl
  one := fun ⟨g, e, _⟩ v hv => by rw [e] at hv; simp only [List.mem_singleton] at hv; subst hv; rfl
  alike := fun ⟨g, e, h1, h2⟩ ha => ⟨g, e, h1, (ha g h1).trans h2⟩
  widen := fun ⟨g, e, h1, h2⟩ hB => ⟨g, e, by omega, h2⟩
def LentQ (w : World) (v : Value) (ps : List Pth) : Prop := ∃ g, v = .slice (some ⟨g, 0, none⟩) ps.length (ps.length + 12) ∧ Blk w g 53 (flP (ps ++ marksPath)).toArray ∧ (∀ x ∈ ps, okP x) ∧ ps.length ≤ 1000000
/-- what is lent is read -/
theorem lent_slice {α : Type} {t e : TypeId} {L : Lay α} {f : α → List Value} (h0 : 0 < L.n) {w : World} {g B : Nat} {l m : List α} (hb : Blk w g e ((l ++ m).flatMap f).toArray) (hB : g < B) (hlen : ∀ x ∈ l ++ m, (f x).length = L.n) (hat : ∀ x ∈ l, L.At w B (f x) x) (hl : l.length + 12 ≤ maxLen) : (Lay.slice t L).At w B [.slice (some ⟨g, 0, none⟩) l.length (l.length + 12)] l := by
  refine ⟨_, _, rfl, by omega, hl, (fun h => by cases h), fun _ => ⟨g, 0, rfl, hB, fun j x hj => ⟨f x, fun i u hu => ?_, hat x (List.mem_of_getElem? hj)⟩⟩⟩
  have hj2 : (l ++ m)[j]? = some x := by rw [List.getElem?_append_left (List.getElem?_eq_some_iff.1 hj).1]; exact hj
  have h2 := flatC_at h0 (l ++ m) hlen j x hj2 i u hu
  rw [hb.cell, Nat.zero_add]
  simpa using h2
theorem marksPath_ok : ∀ x ∈ marksPath, okP x := fun x hx => by
  obtain ⟨j, _, rfl⟩ := List.mem_map.1 hx
  exact mp_ok j
theorem marksMade_ok : ∀ x ∈ marksMade, okH x.1 ∧ okP x.2 := fun x hx => by
  obtain ⟨j, _, rfl⟩ := List.mem_map.1 hx
  exact mm_ok j
theorem LentQ.paths {w : World} {v : Value} {ps : List Pth} (h : LentQ w v ps) : pathsLay.At w w.heap.size [v] ps := by
  obtain ⟨g, rfl, h1, h2, h3⟩ := h
  exact lent_slice (L := pathLay) (f := pC) (m := marksPath) (by decide) h1 h1.lt (fun x hx => pC_len ((List.mem_append.1 hx).elim (h2 x) (marksPath_ok x))) (fun x hx => pathLay_at.2 ⟨rfl, h2 x hx⟩) (by simp only [maxLen]; omega)
theorem lentQ_keep {w0 w w' : World} {v : Value} {ps : List Pth} (h : LentQ w v ps) (hk : KeepO w0 53 w w') : LentQ w' v ps := by
  obtain ⟨g, e, h1, h2⟩ := h
  exact ⟨g, e, hk.typ g _ _ (.inl rfl) h1, h2⟩
theorem lentQ_below {w w' : World} {v : Value} {ps : List Pth} (h : LentQ w v ps) (hk : Below w.heap.size w w') : LentQ w' v ps := by
  obtain ⟨g, e, h1, h2⟩ := h
  exact ⟨g, e, h1.below hk h1.lt, h2⟩
theorem lentQ_ok (w0 : World) : QOk w0 LentQ pathsLay where
  n1 := rfl
  keep h hk := lentQ_keep h hk
  at_ h _ := h.paths
  one h := by
    obtain ⟨g, e, _⟩ := h
    exact ⟨_, _, _, e⟩
theorem lentQ_ok2 (w0 : World) : QOk w0 LentQ lentLay where
  n1 := rfl
  keep h hk := lentQ_keep h hk
  at_ h _ := by
    obtain ⟨g, e, h1, _⟩ := h
    exact ⟨g, by rw [e], h1.lt, h1⟩
  one h := by
    obtain ⟨g, e, _⟩ := h
    exact ⟨_, _, _, e⟩
/-! what a region makes of an option: its closure, it itself, a row of it -/
def ClQ (w0 : World) (Q : World → Value → List Pth → Prop) (ps : List Pth) (u : Value) (W : World) : Prop := w0.heap.size ≤ W.heap.size ∧ Q W u ps
def AgQ (w0 : World) (Q : World → Value → List Pth → Prop) (p : Pth) (ps : List Pth) (u : Value) (W : World) : Prop := w0.heap.size ≤ W.heap.size ∧ ∃ cv, u = .agg (oC p cv).toArray ∧ Q W cv ps
def SlQ (w0 : World) (t : TypeId) (B : Nat) (Q : World → Value → List Pth → Prop) (p : Pth) (ps : List Pth) (u : Value) (W : World) : Prop := w0.heap.size ≤ W.heap.size ∧ ∃ r cv, u = .slice (some ⟨r, 0, none⟩) 1 1 ∧ B ≤ r ∧ Blk W r t (oC p cv).toArray ∧ Q W cv ps
theorem clQ_ok {w0 : World} {Q : World → Value → List Pth → Prop} {L : Lay (List Pth)} (hQ : QOk w0 Q L) (ps : List Pth) : Fre.MadeOk Blw (ClQ w0 Q ps) :=
  ⟨fun u W W' h hx => by
    have hx : Below W.heap.size W W' := hx
    exact ⟨Nat.le_trans h.1 hx.size, hQ.keep h.2 (KeepO.of_below hx h.1)⟩⟩
theorem agQ_ok {w0 : World} {Q : World → Value → List Pth → Prop} {L : Lay (List Pth)} (hQ : QOk w0 Q L) (p : Pth) (ps : List Pth) : Fre.MadeOk Blw (AgQ w0 Q p ps) :=
  ⟨fun u W W' h hx => by
    have hx : Below W.heap.size W W' := hx
    obtain ⟨h0, cv, e, h1⟩ := h
    exact ⟨Nat.le_trans h0 hx.size, cv, e, hQ.keep h1 (KeepO.of_below hx h0)⟩⟩
theorem slQ_ok {w0 : World} {Q : World → Value → List Pth → Prop} {L : Lay (List Pth)} (hQ : QOk w0 Q L) (t : TypeId) (B : Nat) (p : Pth) (ps : List Pth) : Fre.MadeOk Blw (SlQ w0 t B Q p ps) :=
  ⟨fun u W W' h hx => by
    have hx : Below W.heap.size W W' := hx
    obtain ⟨h0, r, cv, e, h1, h2, h3⟩ := h
    exact ⟨Nat.le_trans h0 hx.size, r, cv, e, h1, h2.below hx h2.lt, hQ.keep h3 (KeepO.of_below hx h0)⟩⟩
theorem grownBy_below {w0 w w' : World} {b : Option Nat} (h : w0.grownBy w b) (h2 : Below w0.heap.size w w') : w0.grownBy w' b :=
  ⟨h2.os.trans h.os, h2.tape.trans h.tape, h2.output.trans h.output, Nat.le_trans h.size h2.size, fun k hk hb => (h2.block k hk).trans (h.block k hk hb)⟩
theorem grownBy_trans {w0 w w' : World} {b : Option Nat} (h : w0.grownBy w b) (h2 : w.grownBy w' b) : w0.grownBy w' b :=
  ⟨h2.os.trans h.os, h2.tape.trans h.tape, h2.output.trans h.output, Nat.le_trans h.size h2.size, fun k hk hb => (h2.block k (Nat.lt_of_lt_of_le hk h.size) hb).trans (h.block k hk hb)⟩
theorem grownBy_rest {B : Nat} {w w' : World} {b : Nat} (h : w.grownBy w' (some b)) (hb : B ≤ b) (hB : B ≤ w.heap.size) : Below B w w' :=
  ⟨h.os, h.tape, h.output, h.size, fun k hk => h.block k (by omega) (fun e => by injection e with e; omega)⟩
/-! a case built of its parts -/
def zcL : List Value := bv (List.replicate 20 0) ++ [.slice none 0 0, .slice none 0 0, .slice none 0 0, .slice none 0 0]
def casePlaces : Array (Nat × Nat) := #[(0, 20), (20, 1), (21, 1), (22, 1), (23, 1)]
theorem fill_case {h : Hsh} (hh : okH h) (f c m : Value) (hf : f.cells = #[f]) (hc : c.cells = #[c]) (hm : m.cells = #[m]) :
    Instr.fill (fun i => casePlaces[i]?) zcL.toArray [(0, .agg (bv h).toArray), (1, f), (2, c), (4, m)] = some (caseC ⟨h, f, c, .slice none 0 0, m⟩).toArray := by
  have hl : (bv h).length = 20 := by rw [bvL]; exact hh
  rw [fill_part _ _ 0 _ _ 0 (by simp [Value.cells, hl, casePlaces]) (by simp [Value.cells, hl]; decide)]
  have z1 : (zcL.toArray.toList.take 0 ++ (Value.agg (bv h).toArray).cells.toList ++ zcL.toArray.toList.drop (0 + (Value.agg (bv h).toArray).cells.size)).toArray = (bv h ++ [Value.slice none 0 0, .slice none 0 0, .slice none 0 0, .slice none 0 0]).toArray := by
    have hz : zcL.drop 20 = [Value.slice none 0 0, .slice none 0 0, .slice none 0 0, .slice none 0 0] := rfl
    simp [Value.cells, hl, hz]
  rw [z1]
  have one : ∀ (L : List Value) (n i : Nat) (x : Value) (rest : List (Nat × Value)), x.cells = #[x] → casePlaces[i]? = some (20 + n, 1) → n < L.length → Instr.fill (fun i => casePlaces[i]?) (bv h ++ L).toArray ((i, x) :: rest) = Instr.fill (fun i => casePlaces[i]?) (bv h ++ L.set n x).toArray rest := by
    intro L n i x rest hx hp hn
    have e1 : (bv h ++ L).take (20 + n) = bv h ++ L.take n := by
      rw [List.take_append, hl, List.take_of_length_le (by omega), show 20 + n - 20 = n by omega]
    have e2 : (bv h ++ L).drop (20 + n + 1) = L.drop (n + 1) := by
      rw [List.drop_append, hl, List.drop_of_length_le (by omega), List.nil_append, show 20 + n + 1 - 20 = n + 1 by omega]
    rw [fill_part _ _ i x rest (20 + n) (by rw [hx]; exact hp) (by rw [hx]; simp [hl]; omega)]
    rw [hx]
    show Instr.fill _ ((bv h ++ L).take (20 + n) ++ [x] ++ (bv h ++ L).drop (20 + n + 1)).toArray rest = _
    rw [e1, e2, List.set_eq_take_append_cons_drop, if_pos hn]
    simp
  rw [one _ 0 1 f _ hf rfl (by simp), one _ 1 2 c _ hc rfl (by simp), one _ 3 4 m _ hm rfl (by simp)]
  unfold Instr.fill caseC
  rfl
theorem exec_case {ρ : Operand → Value} {o : Oper} (t : TypeId) (a b d e : Operand) (ho : o.op = .build t #[(0, a), (1, b), (2, d), (4, e)]) {fields : Array Field} (ht : Try.prog.underlying t = some (.struct fields)) (hz : ∀ w, (zeroValue t).run Try.prog w = .ok (.agg zcL.toArray) w)
    (hpl : ∀ w, (fields.mapM fun f => do pure (f.offset, ← sizeOf f.type) : Sem (Array (Nat × Nat))).run Try.prog w = .ok casePlaces w) {h : Hsh} (hh : okH h) {f c m : Value} (hf : f.cells = #[f]) (hc : c.cells = #[c]) (hm : m.cells = #[m]) (h1 : ρ a = .agg (bv h).toArray) (h2 : ρ b = f) (h3 : ρ d = c) (h4 : ρ e = m) (w : World) :
    (execOp ρ o).run Try.prog w = .ok (.value (.agg (caseC ⟨h, f, c, .slice none 0 0, m⟩).toArray)) w :=
  exec_buildN t _ ho (z := .agg zcL.toArray) (places := casePlaces) ht hz hpl [(0, .agg (bv h).toArray), (1, f), (2, c), (4, m)] (by simp [h1, h2, h3, h4]) (fill_case hh f c m hf hc hm) w
theorem oC_oneV {p : Pth} {v : Value} (h : ∃ A n cap, v = .slice A n cap) : ∀ u ∈ oC p v, u.oneCell' = true := by
  obtain ⟨A, n, cap, rfl⟩ := h
  exact oC_one p A n cap
theorem exec_optB {ρ : Operand → Value} {o : Oper} (t : TypeId) (x y : Operand) (ho : o.op = .build t #[(0, x), (1, y)]) (p : Pth) (cv : Value) (hp : okP p) (hcv : ∃ A n cap, cv = .slice A n cap) (h1 : ρ x = .agg (pC p).toArray) (h2 : ρ y = cv) {fields : Array Field} (ht : Try.prog.underlying t = some (.struct fields)) (hz : ∀ w, (zeroValue t).run Try.prog w = .ok (.agg zcO) w)
    (hpl : ∀ w, (fields.mapM fun f => do pure (f.offset, ← sizeOf f.type) : Sem (Array (Nat × Nat))).run Try.prog w = .ok #[(0, 21), (21, 1)] w) (w : World) : (execOp ρ o).run Try.prog w = .ok (.value (.agg (oC p cv).toArray)) w := by
  obtain ⟨A, n, cap, rfl⟩ := hcv
  refine Eq.trans (exec_build2 t x y ho (n1 := 21) (n2 := 1) (z := .agg zcO) h1 h2 ht hz (by kernel_rfl) hpl (by simp [Value.cells, pC_len hp]) rfl w) ?_
  have e : (Value.agg (pC p).toArray).cells ++ (Value.slice A n cap).cells = (oC p (.slice A n cap)).toArray := by
    show (pC p).toArray ++ #[_] = (pC p ++ [_]).toArray
    simp
  rw [e]
theorem oC_len {p : Pth} (hp : okP p) (v : Value) : (oC p v).length = 22 := by
  show (pC p ++ [v]).length = 22
  rw [List.length_append, pC_len hp]
  rfl
/-- an option's cells, read -/
theorem opt_parts {w : World} {b o : Nat} {p : Pth} {v : Value} (hp : okP p) (h : w.rangeAt b o (oC p v)) : w.rangeAt b o (pC p) ∧ w.cell? ⟨b, o + 21, none⟩ = some v := by
  refine ⟨rangeAt_left (c2 := [v]) h, ?_⟩
  exact h 21 v (by show (pC p ++ [v])[21]? = some v; rw [List.getElem?_append_right (by rw [pC_len hp]; decide), pC_len hp]; rfl)
theorem caseC_set {v : Cvs} (ho : okH v.own) (u : Value) : (caseC v).toArray.setIfInBounds 22 u = (caseC { v with opts := u }).toArray := by
  unfold caseC
  rw [List.setIfInBounds_toArray, List.set_append_right _ _ (by rw [bvL, show v.own.length = 20 from ho]; decide), bvL, show v.own.length = 20 from ho]
  rfl
theorem rangeAt_own {w : World} {g : Nat} {t : TypeId} {v : Cvs} (hb : Blk w g t (caseC v).toArray) : w.rangeAt g 0 (bv v.own) := by
  have h := rangeAt_blk hb
  exact rangeAt_left (c2 := [v.fixed, v.classes, v.opts, v.of]) (by simpa [caseC] using h)
theorem caseC_one {v : Cvs} (h1 : v.fixed.oneCell' = true) (h2 : v.classes.oneCell' = true) (h3 : v.opts.oneCell' = true) (h4 : v.of.oneCell' = true) : ∀ u ∈ caseC v, u.oneCell' = true := by
  intro u hu
  rcases List.mem_append.1 hu with hu | hu
  · exact bv1 _ u hu
  · simp only [List.mem_cons, List.not_mem_nil, or_false] at hu
    rcases hu with rfl | rfl | rfl | rfl <;> assumption
end Go.Proofs.Ytfppddnfdinipaa
end
section
namespace Go.Proofs.Ytfppddnfdinipaa.Fre
open Go Go.RowKit
section
variable {P : Program} {ops : Array Oper} {L : MadeL} {w0 : World} {rest : List Oper} {o : Oper} {a : Act} {Q : Act → Prop} {X : World → World → Prop} [RelOk X]
def looksB3 (s r q : Tmp) (keys : List Tmp) (ops : Array Oper) (o : Oper) : Bool := (match o.op with | .select _ _ => false | _ => true) && (o.op.operands.toList.all fun x => match x with | .tmp t => t == s || t == r || t == q || !keys.contains t | _ => true) &&
  (match o.guard with | some (g, _) => ((ops[g]?).bind (·.dst)).toList.all fun t => !keys.contains t | none => true) && ((o.looksAt ops).contains s && (o.looksAt ops).contains r && (o.looksAt ops).contains q)
theorem looksB3_wanted {s r q : Tmp} {b : Act} (hB : looksB3 s r q (L.map (·.1)) ops o = true) (hb : Same (madeBy L) b a) : Region.wanted o (yielded ops b.tmps) = Region.wanted o (yielded ops a.tmps) := by
  refine wanted_same hb fun g _ hg t ht => madeBy_none ?_
  simp only [looksB3, Bool.and_eq_true] at hB
  have h := hB.1.2
  rw [hg] at h
  simpa [ht] using h
theorem looksB3_exec {s r q : Tmp} {u v x : Value} {b : Act} (hB : looksB3 s r q (L.map (·.1)) ops o = true) (hb : Same (madeBy L) b a) (hu : b.tmps[s]? = some u) (hv : b.tmps[r]? = some v) (hx9 : b.tmps[q]? = some x) : execOp b.eval o = execOp (((a.put (some s) u).put (some r) v).put (some q) x).eval o := by
  simp only [looksB3, Bool.and_eq_true] at hB
  refine execOp_congr o ?_ fun y hy => ?_
  · intro cs d e
    have h := hB.1.1.1
    rw [e] at h
    cases h
  · refine (((hb.fix hu).fix hv).fix hx9).eval fun t e => ?_
    have h := List.all_eq_true.1 hB.1.1.2 y (by simpa using hy)
    rw [e] at h
    simp only [Bool.or_eq_true, beq_iff_eq, Bool.not_eq_true'] at h
    rcases h with ((h | h) | h) | h
    · repeat (first | rfl | rw [if_pos h] | split)
    · repeat (first | rfl | rw [if_pos h] | split)
    · rw [if_pos h]
    · repeat (first | rfl | exact madeBy_none h | split)
theorem looksB3_holds {s r q : Tmp} {V V2 V3 : Value → World → Prop} {b : Act} {w : World} (hB : looksB3 s r q (L.map (·.1)) ops o = true) (hV : madeBy L s = some V) (hV2 : madeBy L r = some V2) (hV3 : madeBy L q = some V3) (hh : Holds (madeBy L) (o.looksAt ops) b w) : (∃ u, b.tmps[s]? = some u ∧ V u w) ∧ (∃ u, b.tmps[r]? = some u ∧ V2 u w) ∧ ∃ u, b.tmps[q]? = some u ∧ V3 u w := by
  simp only [looksB3, Bool.and_eq_true] at hB
  exact ⟨hh s (by simpa using hB.2.1.1) V hV, hh r (by simpa using hB.2.1.2) V2 hV2, hh q (by simpa using hB.2.2) V3 hV3⟩
omit [RelOk X] in
/-- what is made out of three made things -/
theorem made_new3 (s r q : Tmp) (V V2 V3 : Value → World → Prop) (t : Tmp) (V' : Value → World → Prop) (hB : looksB3 s r q (L.map (·.1)) ops o = true) (hV : madeBy L s = some V) (hV2 : madeBy L r = some V2) (hV3 : madeBy L q = some V3) (hw : Region.wanted o (yielded ops a.tmps) = true) (hd : o.dst = some t) (hV' : madeBy L t = some V')
    (hrun : ∀ u v x w, Ext X w0 w → V u w → V2 v w → V3 x w → ∃ u' w', (execOp (((a.put (some s) u).put (some r) v).put (some q) x).eval o).run P w = .ok (.value u') w' ∧ Ext X w w' ∧ V' u' w')
    (h : wpMade X P ops (madeBy L) w0 Q rest (a.put o.dst undef)) : wpMade X P ops (madeBy L) w0 Q (o :: rest) a := by
  refine ⟨undef, fun b w hx hb hh => ⟨fun _ => ?_, fun h2 => ?_⟩, h⟩
  · obtain ⟨⟨u, hu, hVu⟩, ⟨v, hv, hVv⟩, x, hx3, hVx⟩ := looksB3_holds hB hV hV2 hV3 hh
    obtain ⟨u', w', h1, h2, h3⟩ := hrun u v x w hx hVu hVv hVx
    rw [hd, Option.bind_some, hV', looksB3_exec hB hb hu hv hx3, h1]
    exact ⟨rfl, h2, h3, trivial⟩
  · rw [looksB3_wanted hB hb, hw] at h2; cases h2
end
end Go.Proofs.Ytfppddnfdinipaa.Fre
end
section
namespace Go.Proofs.Ytfppddnfdinipaa
open Go Go.RowKit Go.Maps
set_option maxRecDepth 100000
def LentM (w : World) (v : Value) (ms : List Mde) : Prop := ∃ g, v = .slice (some ⟨g, 0, none⟩) ms.length (ms.length + 12) ∧ Blk w g 60 (flM (ms ++ marksMade)).toArray ∧ (∀ x ∈ ms, okH x.1 ∧ okP x.2) ∧ ms.length ≤ 1000000
theorem LentM.mades {w : World} {v : Value} {ms : List Mde} (h : LentM w v ms) : madesLay.At w w.heap.size [v] ms := by
  obtain ⟨g, rfl, h1, h2, h3⟩ := h
  exact lent_slice (L := madeLay) (f := fun m => mC m.1 m.2) (m := marksMade) (by decide) h1 h1.lt (fun x hx => by have h := (List.mem_append.1 hx).elim (h2 x) (marksMade_ok x); exact mC_len h.1 h.2) (fun x hx => madeLay_at.2 ⟨rfl, h2 x hx⟩) (by simp only [maxLen]; omega)
theorem LentM.below {w w' : World} {v : Value} {ms : List Mde} (h : LentM w v ms) (hk : Below w.heap.size w w') : LentM w' v ms := by
  obtain ⟨g, e, h1, h2⟩ := h
  exact ⟨g, e, h1.below hk h1.lt, h2⟩
theorem info_hashI : (Try.prog.info? 23).map (fun i => (i.zero, i.size, i.bytes)) = some (some (.agg zcH), 20, 20) := by kernel_rfl
theorem hashes_src {w : World} {B len cap : Nat} {A : Option Addr} {hs : List Hsh} (h : hashesLay.At w B [.slice A len cap] hs) : len = hs.length ∧ SrcN w 20 A hs.length cap (hashCells hs) :=
  slice_src (L := hashLay) (f := bv) (by decide) (fun h => h.1) bv1 h
theorem LentM.ok {ms : List Mde} : Fre.MadeOk Blw (fun u W => LentM W u ms) := ⟨fun _ _ _ h hx => h.below hx⟩
theorem LentQ.ok {ps : List Pth} : Fre.MadeOk Blw (fun u W => LentQ W u ps) := ⟨fun _ _ _ h hx => lentQ_below h hx⟩
theorem own_ok {B : Nat} {e : TypeId} {s n : Nat} {xs : List Value} : Fre.MadeOk Blw (fun u W => W.ownsRow B e s u n xs) := ⟨fun _ W W' h hx => owned_keepN h fun g _ hl => by
  have hx : Below W.heap.size W W' := hx
  exact hx.block g hl⟩
/-- a case that is lent, in a world -/
structure LentAt (w : World) (v : Cvs) (c : CaseP) : Prop where
  atF : LentQ w v.fixed c.fixed
  atM : LentM w v.of c.of
  atO : (rowsLayQ lentLay).At w w.heap.size [v.opts] c.opts
theorem LentAt.below {w w' : World} {v : Cvs} {c : CaseP} (h : LentAt w v c) (hb : Below w.heap.size w w') : LentAt w' v c :=
  ⟨lentQ_below h.atF hb, h.atM.below hb, (rowsLayQ lentLay).widen ((rowsLayQ lentLay).alike h.atO fun k hk => hb.block k hk) hb.size⟩
/-- an append onto a row that has no room -/
theorem app_zero {P : Program} {w : World} (t ty e : TypeId) (i : TypeInfo) (z : Value) (size bytes : Nat) (ht : P.underlying t = some (.slice e)) (hi : P.info? e = some i) (hz : i.zero = some z)
    (hsize : i.size = size) (hby : i.bytes = bytes) (hzs : z.cells.size = size) (hsz : 0 < size) (g B : Nat) (hg : Blk w g e #[]) (hB : B ≤ g)
    (A : Option Addr) (m c : Nat) (news : List Value) (hs : SrcN w size A m c news) (h63 : m ≤ maxLen) (hbytes : m * bytes ≤ 140737488355328) :
    ∃ v' w', (Builtin.append_ #[t, t] ty #[.slice (some ⟨g, 0, none⟩) 0 0, .slice A m c]).run P w = .ok v' w' ∧ Below w.heap.size w w' ∧ w'.ownsRow B e size v' m news := by
  have hown : w.ownsRow B e size (.slice (some ⟨g, 0, none⟩) 0 0) 0 [] := ⟨by simp, .inr ⟨g, 0, #[], rfl, hB, hg, Nat.le_refl _, Nat.zero_le _, by simp, by simp⟩⟩
  have hBw : B ≤ w.heap.size := by have := hg.lt; omega
  obtain ⟨v1, w1, e1, g1, o1, _⟩ := GrowF.app (P := P) (N := fun _ => 0) (F := fun _ => news) t ty e i z size bytes ht hi hz hsize hby hzs hsz _ 0 [] hown A m c news hs (by omega) (by simpa using hbytes) hBw (by simp) (by simp)
  obtain ⟨v2, w2, e2, _, g2, _⟩ := run_appS (P := P) (w := w) B t ty e i z size bytes ht hi hz hsize hby hzs hsz _ 0 [] hown A m c news hs (by omega) (by simpa using hbytes) hBw
  rw [e1] at e2
  injection e2 with q1 q2
  subst q1 q2
  refine ⟨v1, w1, e1, ⟨g2.os, g2.tape, g2.output, g2.size, fun k hk => ?_⟩, by simpa using o1⟩
  by_cases hkg : k = g
  · subst hkg
    have h9 : Blk w1 k e #[] := g1.blk2 hg fun j hj _ _ => by simp at hj
    exact Eq.trans h9 (Eq.symm hg)
  · exact g2.block k hk fun e => hkg (Option.some.inj e)
end Go.Proofs.Ytfppddnfdinipaa
end
