/- A byte written to a strings.Builder. -/
import Derived.Test.YtidiepbmbbflhaaFlat
import Derived.Test.YtidiepbmbbflhaaAt
import Derived.Lib.Builder
import Derived.Laws.Externs
namespace Go.Proofs.Ytidiepbmbbflhaa
open Go Go.RowKit
set_option maxRecDepth 100000
/-- a builder: fresh, or with its own address -/
def BldAt (w : World) (B b : Nat) (p u : Value) (xs : List Value) : Prop :=
  B ≤ b ∧ (p = .pointer none ∨ p = .pointer (some ⟨b, 0, none⟩)) ∧ Blk w b 131 #[p, u] ∧ w.ownsRow B 5 1 u xs.length xs
theorem BldAt.is {w : World} {B b : Nat} {p u : Value} {xs : List Value} (h : BldAt w B b p u xs) : Lib.IsBuilder 131 5 B b xs w := by
  obtain ⟨h1, h2, h3, h4⟩ := h
  have h5 := owned_neN h4 h3 (by decide)
  rcases h2 with rfl | rfl
  · exact .inl ⟨h1, u, h3, h4, h5⟩
  · exact .inr ⟨h1, u, h3, h4, h5⟩
theorem info_byte : (Try.prog.info? 5).map (fun i => (i.zero, i.size, i.bytes)) = some (some (.int .u8 0), 1, 1) := by kernel_rfl
theorem info_builder : ∃ j, Try.prog.info? 131 = some j ∧ j.size = 2 := by
  obtain ⟨j, hj, e⟩ := Option.map_eq_some_iff.1 (show (Try.prog.info? 131).map (·.size) = some 2 by kernel_rfl)
  exact ⟨j, hj, e⟩
/-- the check ahead of a write: from then on the builder has its own address -/
theorem check_any (w : World) (B b : Nat) (p u : Value) (xs : List Value) (h : BldAt w B b p u xs) :
    Calls Try.prog 75 #[.pointer (some ⟨b, 0, none⟩)] w fun e w' => e = .returned (.tuple #[]) ∧ BldAt w' B b (.pointer (some ⟨b, 0, none⟩)) u xs ∧ Below B w w' := by
  obtain ⟨hB, hp, hb, ho⟩ := h
  obtain ⟨j, hj, hjs⟩ := info_builder
  have c0 : w.cell? ⟨b, 0, none⟩ = some p := hb.cell 0
  rcases hp with rfl | rfl
  · have hsh : w.shape? b = some (131, 2) := by simp [World.shape?, show w.heap[b]? = _ from hb]
    have hfz := hb.frozen 0
    have HB := hide (And.intro hb ho)
    clear hb ho
    go_enter Try.func75, Try.ntmps75
    go_wp2_with fail
    rw [Lib.run_to_unsafe w ⟨b, 0, none⟩ Try.underlying129 Try.underlying155 hj (by omega) hsh (Nat.zero_lt_succ 1), Result.andThen, Oper.upon_value]
    go_wp2_with fail
    rw [run_callFunc_extern Try.func81 (by kernel_rfl) (by kernel_rfl) (by kernel_rfl) (e := Extern.AbiNoEscape.same) (by kernel_rfl), Lib.run_noEscape]
    rw [Result.andThen, Oper.upon_value]
    go_wp2_with fail
    rw [Lib.run_from_unsafe w ⟨b, 0, none⟩ Try.underlying155 Try.underlying129 hj hsh (by kernel_rfl), Result.andThen, Oper.upon_value]
    go_wp2_with fail
    go_end0
    refine ⟨rfl, ⟨hB, .inr rfl, HB.out.1.set_ 0 _, ?_⟩, (Below.refl B w).setCell (p := ⟨b, 0, none⟩) hB _⟩
    exact owned_keepN HB.out.2 fun g hg _ => Below.heap_setCell w _ _ g fun e => owned_neN HB.out.2 HB.out.1 (by decide) (by rw [hg]; exact congrArg some e)
  · have HB := hide (And.intro hb ho)
    clear hb ho
    go_enter Try.func75, Try.ntmps75
    go_wp2_with fail
    rw [Lib.run_neq_ptr_same w _ Try.underlying129 hj]
    go_wp2_with fail
    go_end0
    exact ⟨rfl, ⟨hB, .inr rfl, HB.out.1, HB.out.2⟩, Below.refl B _⟩
set_option maxHeartbeats 2000000 in
theorem putByte_any (w : World) (B b : Nat) (p u : Value) (xs : List Value) (c : Int) (h : BldAt w B b p u xs) (hl : xs.length ≤ 1000000) (hBw : B ≤ w.heap.size) :
    Calls Try.prog 74 #[.pointer (some ⟨b, 0, none⟩), .int .u8 c] w fun e w' => e = .returned .nilIface ∧ (∃ u', BldAt w' B b (.pointer (some ⟨b, 0, none⟩)) u' (xs ++ [.int .u8 c])) ∧ Below B w w' := by
  obtain ⟨iu8, hih, hq0, hq1, hq2⟩ := info_parts info_byte
  have HK := hide (And.intro hih (And.intro hq0 (And.intro hq1 hq2)))
  clear hih hq0 hq1 hq2
  go_enter Try.func74, Try.ntmps74
  go_wp2_with fail
  refine (check_any w B b p u xs h).mono ?_
  rintro e w1 ⟨rfl, hk, hb1⟩
  dsimp only
  have c1 : w1.cell? ⟨b, 1, none⟩ = some u := hk.2.2.1.cell 1
  have HH := hide (And.intro hk hb1)
  clear hk hb1 h
  obtain ⟨w2, hw2⟩ : ∃ w2, w2 = w1.alloc (.cells #[.int .u8 c] 5) := ⟨_, rfl⟩
  have hk2 : Blk w2 w1.heap.size 5 #[.int .u8 c] := by rw [hw2]; exact Blk.new _ _ _
  have hb2 : Below w1.heap.size w1 w2 := by rw [hw2]; exact (Below.refl _ w1).alloc (Nat.le_refl _) _
  have HA := hide (And.intro (show SrcN w2 1 (some ⟨w1.heap.size, 0, none⟩) 1 1 [.int .u8 c] from box_src hk2 (fun v hv => by rw [List.mem_singleton.1 hv]; rfl)) (And.intro (owned_keepN HH.out.1.2.2.2 fun g _ hl => hb2.block g hl) hb2))
  rw [hw2] at HA
  clear hk2 hb2 hw2
  go_wp2_with (at_builtin; ((with_reducible refine at_slot 14 ?_); refine wpList_appS (o := ⟨some 14, _, _, _, _, _⟩) rfl _ _ 32 rfl B 5 iu8 _ 1 1 Try.underlying32 HK.out.1 HK.out.2.1 HK.out.2.2.1 HK.out.2.2.2 rfl (by decide) _ xs.length xs HA.out.2.1 (some ⟨w1.heap.size, 0, none⟩) 1 1 [.int .u8 c] HA.out.1 ?hm1 ?hb1 ?hz1 rfl rfl ?_))
  case hm1 => simp only [maxLen]; omega
  case hb1 => omega
  case hz1 => have := HH.out.2.size; have := HA.out.2.2.size; omega
  intro u3 w3 own3 gr3 _
  have hlt : b < w1.heap.size := HH.out.1.2.2.1.lt
  have hne := owned_neN HH.out.1.2.2.2 HH.out.1.2.2.1 (by decide)
  have hk3 : Blk w3 b 131 #[.pointer (some ⟨b, 0, none⟩), u] := (gr3.block _ (by have := HA.out.2.2.size; omega) (fun e => hne e.symm)).trans ((HA.out.2.2.block b hlt).trans HH.out.1.2.2.1)
  have hb3 : Below B w w3 := (HH.out.2.trans (Below.mono HA.out.2.2 (by have := HH.out.2.size; omega))).grown gr3 (by have := HH.out.2.size; have := HA.out.2.2.size; omega) (fun k hk => (owned_ltN HH.out.1.2.2.2 hk).1)
  have d1 : w3.cell? ⟨b, 1, none⟩ = some u := hk3.cell 1
  have f1 := hk3.frozen 1
  have l3 := hk3.lt
  obtain ⟨A3, n3, c3, rfl⟩ : ∃ A n c, u3 = .slice A n c := by
    rcases owned_formN own3 with ⟨e, _⟩ | ⟨g, cap, cur, e, _⟩
    · exact ⟨_, _, _, e⟩
    · exact ⟨_, _, _, e⟩
  have H3 := hide (And.intro hk3 (And.intro hb3 own3))
  clear hk3 hb3 own3 gr3 hne c1
  go_wp2_with fail
  go_ret
  refine ⟨rfl, ⟨_, HH.out.1.1, .inr rfl, H3.out.1.set_ 1 _, ?_⟩, H3.out.2.1.setCell (p := ⟨b, 1, none⟩) HH.out.1.1 _⟩
  have ho := H3.out.2.2
  rw [List.length_append]
  exact owned_keepN ho fun g hg _ => Below.heap_setCell w3 _ _ g fun e => owned_neN ho H3.out.1 (by decide) (by rw [hg]; exact congrArg some e)
end Go.Proofs.Ytidiepbmbbflhaa
