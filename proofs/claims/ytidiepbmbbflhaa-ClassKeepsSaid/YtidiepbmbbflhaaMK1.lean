/- A byte written to a strings.Builder. the shelf of strings, laid at this program (written by the kit's tools) base.Letters. Two texts, one behind the other. base.Path, text.line. text.shown. text.Put. drv.of. From the plain walk of a region to the walk inside a round of a range over a function. -/
import Derived.Test.YtidiepbmbbflhaaFlat
import Derived.Test.YtidiepbmbbflhaaAt
import Derived.Lib.Builder
import Derived.Laws.Externs
import Derived.Shelf.Strings.Builder1
import Derived.Shelf.Strings.OnBuilder
import Derived.Test.YtidiepbmbbflhaaProg
import Derived.Test.YtidiepbmbbflhaaPaths
import Derived.Test.YtidiepbmbbflhaaTools
import Derived.Lib.EndianBits
import Derived.Laws.BitsLemmas
import Derived.Laws.Strings
import Derived.Test.YtidiepbmbbflhaaExec
import Derived.Test.YtidiepbmbbflhaaDrvD
import Derived.Test.YtidiepbmbbflhaaBel
import Derived.OwnWalk
import Derived.Test.YtidiepbmbbflhaaDrvE
import Derived.Test.YtidiepbmbbflhaaOps
import Derived.Lib.Join
import Derived.Laws.OwnMore
import Derived.Laws.IdiomStrings
import Derived.Test.YtidiepbmbbflhaaDrvF
import Derived.RangeFuncNested
import Derived.RangeFuncBound
import Derived.RangeFuncCalls
import Derived.RangeFuncLeaves
import Derived.Shelf.Abstract
import Derived.OwnWalkIn
import Derived.TacticsInMore
import Derived.LoopNIn
import Derived.LoopIn
import Derived.RegionIn
import Derived.Shelf.RegionOpen
section
namespace Go.Proofs.Ytidiepbmbbflhaa
open Go Go.RowKit
set_option maxRecDepth 100000
/-- a builder: fresh, or with its own address -/
def BldAt (w : World) (B b : Nat) (p u : Value) (xs : List Value) : Prop :=
  B ≤ b ∧ (p = .pointer none ∨ p = .pointer (some ⟨b, 0, none⟩)) ∧ Blk w b 131 #[p, u] ∧ w.ownsRow B 5 1 u xs.length xs
theorem BldAt.is {w : World} {B b : Nat} {p u : Value} {xs : List Value} (h : BldAt w B b p u xs) : Lib.IsBuilder 131 5 B b xs w := by
  obtain ⟨h1, h2, h3, h4⟩ := h
  have h5 := owned_neN h4 h3 (by decide)
  rcases h2 with rfl | rfl
  · exact .inl ⟨h1, u, h3, h4, h5⟩
  · exact .inr ⟨h1, u, h3, h4, h5⟩
theorem info_byte : (Try.prog.info? 5).map (fun i => (i.zero, i.size, i.bytes)) = some (some (.int .u8 0), 1, 1) := by kernel_rfl
theorem info_builder : ∃ j, Try.prog.info? 131 = some j ∧ j.size = 2 := by
  obtain ⟨j, hj, e⟩ := Option.map_eq_some_iff.1 (show (Try.prog.info? 131).map (·.size) = some 2 by kernel_rfl)
  exact ⟨j, hj, e⟩
/-- the check ahead of a write: from then on the builder has its own address -/
theorem check_any (w : World) (B b : Nat) (p u : Value) (xs : List Value) (h : BldAt w B b p u xs) :
    Calls Try.prog 75 #[.pointer (some ⟨b, 0, none⟩)] w fun e w' => e = .returned (.tuple #[]) ∧ BldAt w' B b (.pointer (some ⟨b, 0, none⟩)) u xs ∧ Below B w w' := by
  obtain ⟨hB, hp, hb, ho⟩ := h
  obtain ⟨j, hj, hjs⟩ := info_builder
  have c0 : w.cell? ⟨b, 0, none⟩ = some p := hb.cell 0
  rcases hp with rfl | rfl
  · have hsh : w.shape? b = some (131, 2) := by simp [World.shape?, show w.heap[b]? = _ from hb]
    have hfz := hb.frozen 0
    have HB := hide (And.intro hb ho)
    clear hb ho
    go_enter Try.func75, Try.ntmps75
    go_wp2_with fail
    rw [Lib.run_to_unsafe w ⟨b, 0, none⟩ Try.underlying129 Try.underlying155 hj (by omega) hsh (Nat.zero_lt_succ 1), Result.andThen, Oper.upon_value]
    go_wp2_with fail
    rw [run_callFunc_extern Try.func81 (by kernel_rfl) (by kernel_rfl) (by kernel_rfl) (e := Extern.AbiNoEscape.same) (by kernel_rfl), Lib.run_noEscape]
    rw [Result.andThen, Oper.upon_value]
    go_wp2_with fail
    rw [Lib.run_from_unsafe w ⟨b, 0, none⟩ Try.underlying155 Try.underlying129 hj hsh (by kernel_rfl), Result.andThen, Oper.upon_value]
    go_wp2_with fail
    go_end0
    refine ⟨rfl, ⟨hB, .inr rfl, HB.out.1.set_ 0 _, ?_⟩, (Below.refl B w).setCell (p := ⟨b, 0, none⟩) hB _⟩
    exact owned_keepN HB.out.2 fun g hg _ => Below.heap_setCell w _ _ g fun e => owned_neN HB.out.2 HB.out.1 (by decide) (by rw [hg]; exact congrArg some e)
  · have HB := hide (And.intro hb ho)
    clear hb ho
    go_enter Try.func75, Try.ntmps75
    go_wp2_with fail
    rw [Lib.run_neq_ptr_same w _ Try.underlying129 hj]
    go_wp2_with fail
    go_end0
    exact ⟨rfl, ⟨hB, .inr rfl, HB.out.1, HB.out.2⟩, Below.refl B _⟩
set_option maxHeartbeats 2000000 in
theorem putByte_any (w : World) (B b : Nat) (p u : Value) (xs : List Value) (c : Int) (h : BldAt w B b p u xs) (hl : xs.length ≤ 1000000) (hBw : B ≤ w.heap.size) :
    Calls Try.prog 74 #[.pointer (some ⟨b, 0, none⟩), .int .u8 c] w fun e w' => e = .returned .nilIface ∧ (∃ u', BldAt w' B b (.pointer (some ⟨b, 0, none⟩)) u' (xs ++ [.int .u8 c])) ∧ Below B w w' := by
  obtain ⟨iu8, hih, hq0, hq1, hq2⟩ := info_parts info_byte
  have HK := hide (And.intro hih (And.intro hq0 (And.intro hq1 hq2)))
  clear hih hq0 hq1 hq2
  go_enter Try.func74, Try.ntmps74
  go_wp2_with fail
  refine (check_any w B b p u xs h).mono ?_
  rintro e w1 ⟨rfl, hk, hb1⟩
  dsimp only
  have c1 : w1.cell? ⟨b, 1, none⟩ = some u := hk.2.2.1.cell 1
  have HH := hide (And.intro hk hb1)
  clear hk hb1 h
  obtain ⟨w2, hw2⟩ : ∃ w2, w2 = w1.alloc (.cells #[.int .u8 c] 5) := ⟨_, rfl⟩
  have hk2 : Blk w2 w1.heap.size 5 #[.int .u8 c] := by rw [hw2]; exact Blk.new _ _ _
  have hb2 : Below w1.heap.size w1 w2 := by rw [hw2]; exact (Below.refl _ w1).alloc (Nat.le_refl _) _
  have HA := hide (And.intro (show SrcN w2 1 (some ⟨w1.heap.size, 0, none⟩) 1 1 [.int .u8 c] from box_src hk2 (fun v hv => by rw [List.mem_singleton.1 hv]; rfl)) (And.intro (owned_keepN HH.out.1.2.2.2 fun g _ hl => hb2.block g hl) hb2))
  rw [hw2] at HA
  clear hk2 hb2 hw2
  go_wp2_with (at_builtin; ((with_reducible refine at_slot 14 ?_); refine wpList_appS (o := ⟨some 14, _, _, _, _, _⟩) rfl _ _ 32 rfl B 5 iu8 _ 1 1 Try.underlying32 HK.out.1 HK.out.2.1 HK.out.2.2.1 HK.out.2.2.2 rfl (by decide) _ xs.length xs HA.out.2.1 (some ⟨w1.heap.size, 0, none⟩) 1 1 [.int .u8 c] HA.out.1 ?hm1 ?hb1 ?hz1 rfl rfl ?_))
  case hm1 => simp only [maxLen]; omega
  case hb1 => omega
  case hz1 => have := HH.out.2.size; have := HA.out.2.2.size; omega
  intro u3 w3 own3 gr3 _
  have hlt : b < w1.heap.size := HH.out.1.2.2.1.lt
  have hne := owned_neN HH.out.1.2.2.2 HH.out.1.2.2.1 (by decide)
  have hk3 : Blk w3 b 131 #[.pointer (some ⟨b, 0, none⟩), u] := (gr3.block _ (by have := HA.out.2.2.size; omega) (fun e => hne e.symm)).trans ((HA.out.2.2.block b hlt).trans HH.out.1.2.2.1)
  have hb3 : Below B w w3 := (HH.out.2.trans (Below.mono HA.out.2.2 (by have := HH.out.2.size; omega))).grown gr3 (by have := HH.out.2.size; have := HA.out.2.2.size; omega) (fun k hk => (owned_ltN HH.out.1.2.2.2 hk).1)
  have d1 : w3.cell? ⟨b, 1, none⟩ = some u := hk3.cell 1
  have f1 := hk3.frozen 1
  have l3 := hk3.lt
  obtain ⟨A3, n3, c3, rfl⟩ : ∃ A n c, u3 = .slice A n c := by
    rcases owned_formN own3 with ⟨e, _⟩ | ⟨g, cap, cur, e, _⟩
    · exact ⟨_, _, _, e⟩
    · exact ⟨_, _, _, e⟩
  have H3 := hide (And.intro hk3 (And.intro hb3 own3))
  clear hk3 hb3 own3 gr3 hne c1
  go_wp2_with fail
  go_ret
  refine ⟨rfl, ⟨_, HH.out.1.1, .inr rfl, H3.out.1.set_ 1 _, ?_⟩, H3.out.2.1.setCell (p := ⟨b, 1, none⟩) HH.out.1.1 _⟩
  have ho := H3.out.2.2
  rw [List.length_append]
  exact owned_keepN ho fun g hg _ => Below.heap_setCell w3 _ _ g fun e => owned_neN ho H3.out.1 (by decide) (by rw [hg]; exact congrArg some e)
end Go.Proofs.Ytidiepbmbbflhaa
end
section
namespace Go.Proofs.Ytidiepbmbbflhaa
open Go.Shelf
def Try.lays169_ren : Go.Shelf.Ren := ⟨fun | 169 => 68 | n => n, fun | 70 => 129 | 9 => 9 | 0 => 0 | 72 => 131 | 37 => 32 | 127 => 146 | 3 => 3 | 5 => 5 | n => n, fun | n => n⟩
theorem Try.lays169 : Go.Proofs.Lays.n169 Try.prog Try.lays169_ren := {
  mixed := by kernel_rfl
  f169 := Try.func68.trans (congrArg some (by kernel_rfl))
  t0 := Try.underlying0
  a0 := Try.isAgg0
  z0 := Try.sizeOf0
  v0 := Try.zeroValue0
  t3 := Try.underlying3
  a3 := Try.isAgg3
  z3 := Try.sizeOf3
  v3 := Try.zeroValue3
  t9 := Try.underlying9
  a9 := Try.isAgg9
  z9 := Try.sizeOf9
  v9 := Try.zeroValue9
  t37 := Try.underlying32
  a37 := Try.isAgg32
  z37 := Try.sizeOf32
  v37 := Try.zeroValue32
  t70 := Try.underlying129
  a70 := Try.isAgg129
  z70 := Try.sizeOf129
  v70 := Try.zeroValue129
  t72 := Try.underlying131
  a72 := Try.isAgg131
  z72 := Try.sizeOf131
  v72 := Try.zeroValue131
  t127 := Try.underlying146
  a127 := Try.isAgg146
  z127 := Try.sizeOf146
  v127 := Try.zeroValue146 }
theorem Try.Builder_Extra_169 : Builder.Extra Try.prog Try.lays169_ren := {
  sizeBuilder := by kernel_rfl
  liesBuilder := by kernel_rfl
  t5 := Try.underlying5
  a5 := Try.isAgg5
  z5 := Try.sizeOf5
  v5 := Try.zeroValue5
  infoByte := by kernel_rfl
  cellsByte := by kernel_rfl
  sizeByte := by kernel_rfl
  neB5 := by decide }
open Go.RowKit in
theorem Try.Builder_String_any (B b : Nat) (l : List UInt8) (w : World) (h : Lib.IsBuilder 131 5 B b (Lib.byteCells l) w) (hBw : B ≤ w.heap.size) :
    Calls Try.prog 68 #[.pointer (some ⟨b, 0, none⟩)] w fun e w' => e = .returned (.string ⟨l.toArray⟩) ∧ Below B w w' := Any.Builder_String_any Try.lays169 Try.Builder_Extra_169 B b l w h hBw
def Try.lays156_ren : Go.Shelf.Ren := ⟨fun | 156 => 54 | 165 => 66 | 166 => 67 | 169 => 68 | 240 => 75 | 241 => 76 | 276 => 81 | 277 => 82 | n => n, fun | 31 => 101 | 9 => 9 | 3 => 3 | 4 => 4 | 0 => 0 | 20 => 20 | 72 => 131 | 76 => 135 | 70 => 129 | 37 => 32 | 75 => 134 | 127 => 146 | 164 => 155 | 5 => 5 | 80 => 137 | n => n, fun | n => n⟩
theorem Try.lays156 : Go.Proofs.Lays.n156 Try.prog Try.lays156_ren := {
  mixed := by kernel_rfl
  f156 := Try.func54.trans (congrArg some (by kernel_rfl))
  f165 := Try.func66.trans (congrArg some (by kernel_rfl))
  f166 := Try.func67.trans (congrArg some (by kernel_rfl))
  f169 := Try.func68.trans (congrArg some (by kernel_rfl))
  f240 := Try.func75.trans (congrArg some (by kernel_rfl))
  f241 := Try.func76.trans (congrArg some (by kernel_rfl))
  f276 := Try.func81.trans (congrArg some (by kernel_rfl))
  f277 := Try.func82.trans (congrArg some (by kernel_rfl))
  t0 := Try.underlying0
  a0 := Try.isAgg0
  z0 := Try.sizeOf0
  v0 := Try.zeroValue0
  t3 := Try.underlying3
  a3 := Try.isAgg3
  z3 := Try.sizeOf3
  v3 := Try.zeroValue3
  t4 := Try.underlying4
  a4 := Try.isAgg4
  z4 := Try.sizeOf4
  v4 := Try.zeroValue4
  t9 := Try.underlying9
  a9 := Try.isAgg9
  z9 := Try.sizeOf9
  v9 := Try.zeroValue9
  t20 := Try.underlying20
  a20 := Try.isAgg20
  z20 := Try.sizeOf20
  v20 := Try.zeroValue20
  t31 := Try.underlying101
  a31 := Try.isAgg101
  z31 := Try.sizeOf101
  v31 := Try.zeroValue101
  t37 := Try.underlying32
  a37 := Try.isAgg32
  z37 := Try.sizeOf32
  v37 := Try.zeroValue32
  t70 := Try.underlying129
  a70 := Try.isAgg129
  z70 := Try.sizeOf129
  v70 := Try.zeroValue129
  t72 := Try.underlying131
  a72 := Try.isAgg131
  z72 := Try.sizeOf131
  v72 := Try.zeroValue131
  t75 := Try.underlying134
  a75 := Try.isAgg134
  z75 := Try.sizeOf134
  v75 := Try.zeroValue134
  t76 := Try.underlying135
  a76 := Try.isAgg135
  z76 := Try.sizeOf135
  v76 := Try.zeroValue135
  t127 := Try.underlying146
  a127 := Try.isAgg146
  z127 := Try.sizeOf146
  v127 := Try.zeroValue146
  t164 := Try.underlying155
  a164 := Try.isAgg155
  z164 := Try.sizeOf155
  v164 := Try.zeroValue155 }
theorem Try.Builder_Extra_156 : Builder.Extra Try.prog Try.lays156_ren := {
  sizeBuilder := by kernel_rfl
  liesBuilder := by kernel_rfl
  t5 := Try.underlying5
  a5 := Try.isAgg5
  z5 := Try.sizeOf5
  v5 := Try.zeroValue5
  infoByte := by kernel_rfl
  cellsByte := by kernel_rfl
  sizeByte := by kernel_rfl
  neB5 := by decide }
open Go.RowKit in
theorem Try.strings_Join_none (a : Option Addr) (c : Nat) (sep : ByteArray) (w : World) :
    Calls Try.prog 54 #[.slice a 0 c, .string sep] w fun e w' => e = .returned (.string ⟨#[]⟩) ∧ w' = w := Any.strings_Join_none Try.lays156 Try.Builder_Extra_156 a c sep w
open Go.RowKit in
theorem Try.strings_Join (bk o c : Nat) (xs : List ByteArray) (sep : ByteArray) (w : World) (hcells : ∀ (j : Nat) x, xs[j]? = some x → w.cell? ⟨bk, o + j, none⟩ = some (.string x)) (hbk : bk < w.heap.size) (hN : xs.length ≤ 140737488355328) (hcap : xs.length ≤ c) (hlen : (Lib.join (xs.map (·.data.toList)) sep.data.toList).length ≤ 140737488355328) :
    Calls Try.prog 54 #[.slice (some ⟨bk, o, none⟩) xs.length c, .string sep] w fun e w' => e = .returned (.string ⟨(Lib.join (xs.map (·.data.toList)) sep.data.toList).toArray⟩) ∧ Below w.heap.size w w' := Any.strings_Join Try.lays156 Try.Builder_Extra_156 bk o c xs sep w hcells hbk hN hcap hlen
end Go.Proofs.Ytidiepbmbbflhaa
end
section
namespace Go.Proofs.Ytidiepbmbbflhaa
open Go Go.RowKit
set_option maxRecDepth 100000
def alphabet : List UInt8 := [48, 49, 50, 51, 52, 53, 54, 55, 56, 57, 97, 98, 99, 100, 102, 103, 104, 105, 106, 107, 108, 109, 110, 112, 113, 114, 115, 118, 119, 120, 121, 122]
def letterAt (k : Nat) : UInt8 := alphabet.getD k 0
/-- letters are taken while there are five bits -/
def drain : Nat → Nat → Nat → List UInt8 → Nat × Nat × List UInt8
  | 0, h, m, o => (h, m, o)
  | f + 1, h, m, o => if 5 ≤ m then drain f (h / 32) (m - 5) (o ++ [letterAt (h % 32)]) else (h, m, o)
def ltStep (s : Nat × Nat × List UInt8) (x : UInt8) : Nat × Nat × List UInt8 := drain 2 (s.1 + x.toNat * 2 ^ s.2.1) (s.2.1 + 8) s.2.2
/-- a hash's letters -/
def lettersP (h : List UInt8) : List UInt8 := (h.foldl ltStep (0, 0, [])).2.2
theorem drain_len : ∀ (f h m : Nat) (o : List UInt8), (drain f h m o).2.2.length ≤ o.length + f
  | 0, h, m, o => by simp [drain]
  | f + 1, h, m, o => by
    rw [drain]
    split
    · refine Nat.le_trans (drain_len f _ _ _) ?_
      rw [List.length_append, List.length_singleton]
      omega
    · dsimp only
      omega
theorem letters_len (h : List UInt8) : (lettersP h).length ≤ 2 * h.length := by
  have key : ∀ (h : List UInt8) (s : Nat × Nat × List UInt8), (h.foldl ltStep s).2.2.length ≤ s.2.2.length + 2 * h.length := by
    intro h
    induction h with
    | nil => intro s; simp
    | cons x h ih =>
      intro s
      refine Nat.le_trans (ih _) ?_
      have := drain_len 2 (s.1 + x.toNat * 2 ^ s.2.1) (s.2.1 + 8) s.2.2
      rw [List.length_cons]
      unfold ltStep
      omega
  have := key h (0, 0, [])
  unfold lettersP
  simpa using this
theorem join_many (held many x : Nat) (h1 : held < 2 ^ many) (h2 : many < 5) (h3 : x ≤ 255) : bits .or .u32 (held : Int) ((x : Int) * 2 ^ many % 4294967296) = ((held + x * 2 ^ many : Nat) : Int) := by
  have h4 : (2 : Nat) ^ many ≤ 16 := by
    have : many = 0 ∨ many = 1 ∨ many = 2 ∨ many = 3 ∨ many = 4 := by omega
    rcases this with rfl | rfl | rfl | rfl | rfl <;> decide
  have h5 : x * 2 ^ many ≤ 255 * 16 := Nat.mul_le_mul h3 h4
  have e1 : (x : Int) * 2 ^ many = ((x * 2 ^ many : Nat) : Int) := by rw [Int.natCast_mul, Int.natCast_pow]; rfl
  have e2 : ((2 : Int) ^ many) = ((2 ^ many : Nat) : Int) := by rw [Int.natCast_pow]; rfl
  have e3 : (x * 2 ^ many) % 2 ^ many = 0 := Nat.mul_mod_left _ _
  rw [e1]
  generalize x * 2 ^ many = n at h5 e3 ⊢
  rw [show (n : Int) % 4294967296 = (n : Int) by omega, bits_join_low .u32 32 (by decide) wraps_u32 many _ _ (by omega) (by rw [e2]; omega) (by omega) (by omega) (by rw [e2, ← Int.natCast_emod, e3]; rfl) (by omega)]
  omega
theorem low_five (hd : Nat) (h : hd < 4294967296) : bits .and .u32 (hd : Int) 31 = ((hd % 32 : Nat) : Int) := by
  have h1 := bits_mask .u32 32 (by decide) wraps_u32 5 (by decide) (hd : Int) (by omega) (by omega)
  rw [show (2 : Int) ^ 5 - 1 = 31 by decide] at h1
  rw [h1]
  omega
def alphaS : ByteArray := ⟨#[48, 49, 50, 51, 52, 53, 54, 55, 56, 57, 97, 98, 99, 100, 102, 103, 104, 105, 106, 107, 108, 109, 110, 112, 113, 114, 115, 118, 119, 120, 121, 122]⟩
theorem alpha_at (k : Nat) (hk : k < 32) (t : TypeId) (ht : Try.prog.underlying t = some .string) (w : World) : (Instr.index t (.string alphaS) (.int .u32 (k : Int))).run Try.prog w = .ok (.int .u8 ((letterAt k).toNat : Int)) w := by
  have h := run_index_string (P := Try.prog) w t alphaS .u32 (k : Int) ht
  have h3 : ∀ k : Fin 32, (alphaS[k.val]'(k.isLt)).toNat = (letterAt k.val).toNat := by decide
  have h2 : 0 ≤ (k : Int) ∧ (k : Int) < (alphaS.size : Int) := ⟨by omega, by rw [show alphaS.size = 32 from rfl]; omega⟩
  rw [h, dif_pos h2]
  have h4 := h3 ⟨k, hk⟩
  dsimp only at h4
  have h5 : (alphaS[(k : Int).toNat]'(by rw [Int.toNat_natCast]; exact hk)).toNat = (letterAt k).toNat := h4
  rw [h5]
theorem letters_any (w : World) (h : Hsh) (hh : okH h) :
    Calls Try.prog 64 #[.agg (bv h).toArray] w fun e w' => e = .returned (.string ⟨(lettersP h).toArray⟩) ∧ Below w.heap.size w w' := by
  have hsz := hsz hh
  obtain ⟨w1, hw1⟩ : ∃ w1, w1 = w.alloc (.cells (bv h).toArray 27) := ⟨_, rfl⟩
  obtain ⟨w2, hw2⟩ : ∃ w2, w2 = w1.alloc (.cells #[.pointer none, .slice none 0 0] 131) := ⟨_, rfl⟩
  have hb1 : Below w.heap.size w w1 := by rw [hw1]; exact (Below.refl _ w).alloc (Nat.le_refl _) _
  have hk1 : Blk w1 w.heap.size 27 (bv h).toArray := by rw [hw1]; exact Blk.new _ _ _
  have hb2 : Below w1.heap.size w1 w2 := by rw [hw2]; exact (Below.refl _ w1).alloc (Nat.le_refl _) _
  have hk2 : Blk w2 w1.heap.size 131 #[.pointer none, .slice none 0 0] := by rw [hw2]; exact Blk.new _ _ _
  have hbd : BldAt w2 w1.heap.size w1.heap.size (.pointer none) (.slice none 0 0) [] := ⟨Nat.le_refl _, .inl rfl, hk2, World.ownsRow_nil _ _ _ _⟩
  have H2 := hide (And.intro (hk1.below hb2 hk1.lt) (And.intro hbd (hb1.trans (Below.mono hb2 hb1.size))))
  have hz := hide hb1.size
  have HW1 := hide hw1
  have HW2 := hide hw2
  have HSZ := hide hsz
  clear hsz hb1 hk1 hb2 hk2 hbd hw1 hw2
  go_enter Try.func64, Try.ntmps64
  go_wp2_with (first | ((with_reducible refine at_slot 1 ?_); refine wpList_value (o := ⟨some 1, _, _, _, _, _⟩) rfl (.pointer (some ⟨w.heap.size, 0, none⟩)) w1 (by rw [HW1.out]; kernel_rfl) ?_) | ((with_reducible refine at_slot 3 ?_); refine wpList_value (o := ⟨some 3, _, _, _, _, _⟩) rfl (.pointer (some ⟨w1.heap.size, 0, none⟩)) w2 (by rw [HW2.out]; kernel_rfl) ?_) | ((with_reducible refine at_slot 8 ?_); refine wpList_value (o := ⟨some 8, _, _, _, _, _⟩) rfl (.agg (bv h).toArray) w2 (exec_load_blk (o := ⟨some 8, _, _, _, _, _⟩) 27 (.tmp 1) rfl w.heap.size rfl 27 _ _ w2 H2.out.1 Try.underlying27 rfl HSZ.out) ?_))
  go_loopw [4, 5, 9] (fun x4 x5 x9 wr => ∃ (j held many : Nat) (out : List UInt8) (p u : Value), j ≤ 20 ∧ x9 = .int .i64 (j : Int) ∧ x4 = .int .u32 (held : Int) ∧ x5 = .int .u32 (many : Int) ∧ (h.take j).foldl ltStep (0, 0, []) = (held, many, out) ∧ held < 2 ^ many ∧ many < 5 ∧ out.length ≤ 2 * j ∧ BldAt wr w1.heap.size w1.heap.size p u (Lib.byteCells out) ∧ Below w1.heap.size w2 wr) (fun _ _ x9 _ => 20 - (intOf x9).toNat)
  case atStart => exact ⟨0, 0, 0, [], _, _, by omega, rfl, rfl, rfl, rfl, by decide, by decide, by decide, H2.out.2.1, Below.refl _ _⟩
  case round =>
    obtain ⟨wo, rfl⟩ : ∃ wo, wo = wr := ⟨_, rfl⟩
    obtain ⟨j, held, many, out, p, u, hj, rfl, rfl, rfl, hfo, hhe, hma, hol, hbd, hb⟩ := hrel
    have HI := hide (And.intro hfo (And.intro hbd hb))
    clear hfo hbd hb
    have j0 : (0 : Int) ≤ (j : Int) := by omega
    by_cases hj2 : j < 20
    · have j1 : (j : Int) < 20 := by omega
      obtain ⟨x, hx⟩ : ∃ x, h[j]? = some x := ⟨_, List.getElem?_eq_getElem (by rw [show h.length = 20 from hh]; exact hj2)⟩
      have HXX := hide hx
      have hv := bv_get h j (by rw [show h.length = 20 from hh]; exact hj2)
      have hxd : h.getD j 0 = x := by rw [List.getD_eq_getElem?_getD, hx]; rfl
      rw [hxd] at hv
      have hidx := run_index_int (P := Try.prog) 27 5 20 .u8 Try.underlying27 Try.underlying5 (by kernel_rfl) (bv h).toArray j hj2 _ hv
      clear hx hv hxd
      have x0 : (0 : Int) ≤ (x.toNat : Int) := by omega
      have x1 : (x.toNat : Int) ≤ 255 := by have := x.toNat_lt; omega
      obtain ⟨hd, hhd⟩ : ∃ hd, hd = held + x.toNat * 2 ^ many := ⟨_, rfl⟩
      have hor := join_many held many x.toNat hhe hma (by omega)
      rw [← hhd] at hor
      obtain ⟨D, hD⟩ : ∃ D, D = drain 2 hd (many + 8) out := ⟨_, rfl⟩
      have hstep : (h.take (j + 1)).foldl ltStep (0, 0, []) = D := by
        rw [List.take_add_one, HXX.out, List.foldl_append, HI.out.1, hD, hhd]
        rfl
      have hlt : hd < 2 ^ (many + 8) := by
        have h4 : x.toNat < 256 := by omega
        have h5 : x.toNat * 2 ^ many ≤ 255 * 2 ^ many := Nat.mul_le_mul_right _ (by omega)
        rw [hhd, Nat.pow_add]
        omega
      have HS := hide (And.intro hstep (And.intro hD hlt))
      clear hstep hD hlt hhd
      go_wp2_with fail
      go_loopw [4, 5] (fun x4 x5 wr => ∃ (f hd mn : Nat) (o : List UInt8) (p u : Value), x4 = .int .u32 (hd : Int) ∧ x5 = .int .u32 (mn : Int) ∧ drain f hd mn o = D ∧ hd < 2 ^ mn ∧ mn ≤ 5 * f + 4 ∧ mn ≤ 12 ∧ o.length + f ≤ 2 * j + 2 ∧ BldAt wr w1.heap.size w1.heap.size p u (Lib.byteCells o) ∧ Below w1.heap.size w2 wr) (fun _ x5 _ => (intOf x5).toNat)
      case atStart => exact ⟨2, hd, many + 8, out, p, u, rfl, by go_num, HS.out.2.1.symm, HS.out.2.2, by omega, by omega, by omega, HI.out.2.1, HI.out.2.2⟩
      case round =>
        obtain ⟨wi, rfl⟩ : ∃ wi, wi = wr := ⟨_, rfl⟩
        obtain ⟨f, hd2, mn, o, p2, u2, rfl, rfl, hdr, hlt2, hmf, hm12, hof, hbd2, hb2⟩ := hrel
        have HJ := hide (And.intro hdr (And.intro hbd2 hb2))
        clear hdr hbd2 hb2
        have h32 : hd2 < 4294967296 := Nat.lt_of_lt_of_le hlt2 (Nat.le_trans (Nat.pow_le_pow_right (by decide) hm12) (by decide))
        by_cases hm5 : 5 ≤ mn
        · obtain ⟨f, rfl⟩ : ∃ f', f = f' + 1 := ⟨f - 1, by omega⟩
          have hand := low_five hd2 h32
          obtain ⟨k, hk⟩ : ∃ k, k = hd2 % 32 := ⟨_, rfl⟩
          rw [← hk] at hand
          have hk32 : k < 32 := by omega
          have hix := fun W => alpha_at k hk32 9 Try.underlying9 W
          unfold alphaS at hix
          have hdr2 : drain f (hd2 / 32) (mn - 5) (o ++ [letterAt k]) = D := by
            have := HJ.out.1
            rw [drain, if_pos hm5, ← hk] at this
            exact this
          have hlt3 : hd2 / 32 < 2 ^ (mn - 5) := by
            rw [Nat.div_lt_iff_lt_mul (by decide), show (32 : Nat) = 2 ^ 5 from rfl, ← Nat.pow_add, show mn - 5 + 5 = mn by omega]
            exact hlt2
          have HR := hide (And.intro hdr2 hlt3)
          clear hdr2 hlt3 hk
          go_wp2_with fail
          refine (putByte_any wi w1.heap.size w1.heap.size p2 u2 (Lib.byteCells o) _ HJ.out.2.1 (by simp [Lib.byteCells]; omega) (Nat.le_of_lt HJ.out.2.1.2.2.1.lt)).mono ?_
          rintro e w5 ⟨rfl, ⟨u5, hbd5⟩, hb5⟩
          dsimp only
          have hbc : Lib.byteCells o ++ [Value.int .u8 ((letterAt k).toNat : Int)] = Lib.byteCells (o ++ [letterAt k]) := by simp [Lib.byteCells]
          rw [hbc] at hbd5
          have H5 := hide (And.intro hbd5 (HJ.out.2.2.trans hb5))
          clear hbd5 hb5 hbc
          go_wp2_with fail
          go_roundw
          case rel => exact ⟨f, hd2 / 32, mn - 5, o ++ [letterAt k], _, u5, by go_num, by go_num, HR.out.1, HR.out.2, by omega, by omega, by rw [List.length_append, List.length_singleton]; omega, H5.out.1, H5.out.2⟩
          case measure => simp [intOf]; omega
        · have hf : drain f hd2 mn o = (hd2, mn, o) := by
            cases f with
            | zero => rfl
            | succ f => rw [drain, if_neg hm5]
          have HF := hide (hf.symm.trans HJ.out.1)
          clear hf
          go_wp2_with fail
          go_roundw
          case rel => exact ⟨j + 1, hd2, mn, o, p2, u2, by omega, by go_num, rfl, rfl, HS.out.1.trans HF.out.symm, hlt2, by omega, by omega, HJ.out.2.1, HJ.out.2.2⟩
          case measure => simp [intOf]; omega
    · obtain rfl : j = 20 := by omega
      have e9 : lettersP h = out := by
        unfold lettersP
        rw [← List.take_of_length_le (l := h) (i := 20) (by rw [show h.length = 20 from hh]; exact Nat.le_refl _), HI.out.1]
      have HE := hide e9
      clear e9
      go_wp2_with fail
      refine (Try.Builder_String_any w1.heap.size w1.heap.size out wo HI.out.2.1.is (by have := HI.out.2.1.2.2.1.lt; omega)).mono ?_
      rintro e w5 ⟨rfl, hb5⟩
      dsimp only
      have H5 := hide (H2.out.2.2.trans (Below.mono (HI.out.2.2.trans hb5) hz.out))
      go_wp2_with fail
      go_ret
      exact ⟨by rw [HE.out]; rfl, H5.out⟩
end Go.Proofs.Ytidiepbmbbflhaa
end
section
namespace Go.Proofs.Ytidiepbmbbflhaa
open Go Go.RowKit
theorem exec_concat {P : Program} {ρ : Operand → Value} {o : Oper} (t : TypeId) (x y : Operand) (r : TypeId) (ho : o.op = .binOp .add t x y r) (a b : ByteArray) (hx : ρ x = .string a) (hy : ρ y = .string b) (hs : a.size + b.size ≤ 9223372036854775807) (W : World) : (execOp ρ o).run P W = .ok (.value (.string (a ++ b))) W := by
  unfold execOp
  simp [ho, hx, hy, go_sem, eqGuard, binOp, hs]
end Go.Proofs.Ytidiepbmbbflhaa
end
section
namespace Go.Proofs.Ytidiepbmbbflhaa
open Go Go.RowKit Go.Maps
set_option maxRecDepth 100000
theorem path_hash {p : Pth} {w : World} {g : Nat} (_ : okP p) (hb : Blk w g 68 (pC p).toArray) : w.rangeAt g 0 (bv p.1) := by
  have h1 := rangeAt_blk hb
  exact rangeAt_left (c2 := [.string p.2]) (by simpa [pC] using h1)
theorem path_name {p : Pth} {w : World} {g : Nat} (h : okP p) (hb : Blk w g 68 (pC p).toArray) : w.cell? ⟨g, 20, none⟩ = some (.string p.2) := by
  rw [hb.cell, List.getElem?_toArray]
  have hl : (bv p.1).length = 20 := by rw [bvL]; exact h.1
  rw [show pC p = bv p.1 ++ [.string p.2] from rfl, List.getElem?_append_right (by omega), hl]
  rfl
/-- a path's text -/
def pathS (p : Pth) : ByteArray := ⟨(lettersP p.1).toArray⟩ ++ ⟨#[45]⟩ ++ p.2
theorem name_small {s : ByteArray} (h : nameP s = true) : s.size ≤ 24 := by
  unfold nameP restP at h
  simp only [Bool.and_eq_true] at h
  have := of_decide_eq_true h.2.2.1
  omega
theorem path_small {h : Hsh} {s : ByteArray} (hh : okH h) (hs : s.size ≤ 24) : (⟨(lettersP h).toArray⟩ : ByteArray).size + (⟨#[45]⟩ : ByteArray).size ≤ 9223372036854775807 ∧ (⟨(lettersP h).toArray⟩ ++ ⟨#[45]⟩ : ByteArray).size + s.size ≤ 9223372036854775807 := by
  have hll := letters_len h
  have hpl : h.length = 20 := hh
  have hs1 : (⟨(lettersP h).toArray⟩ : ByteArray).size = (lettersP h).length := rfl
  have hs2 : (⟨#[45]⟩ : ByteArray).size = 1 := rfl
  rw [ByteArray.size_append, hs1, hs2]
  omega
set_option maxHeartbeats 4000000 in
theorem path_any (w : World) (p : Pth) (hp : okP p) :
    Calls Try.prog 65 #[.agg (pC p).toArray] w fun e w' => e = .returned (if nameP p.2 = true then .tuple #[.string (pathS p), .int .i64 0] else .tuple #[.string ⟨#[]⟩, .int .i64 2]) ∧ Below w.heap.size w w' := by
  obtain ⟨w1, hw1⟩ : ∃ w1, w1 = w.alloc (.cells (pC p).toArray 68) := ⟨_, rfl⟩
  have hb1 : Below w.heap.size w w1 := by rw [hw1]; exact (Below.refl _ w).alloc (Nat.le_refl _) _
  have hk1 : Blk w1 w.heap.size 68 (pC p).toArray := by rw [hw1]; exact Blk.new _ _ _
  have c20 := path_name hp hk1
  have H1 := hide (And.intro hk1 hb1)
  have HW1 := hide hw1
  clear hk1 hb1 hw1
  go_enter Try.func65, Try.ntmps65
  go_wp2_with ((with_reducible refine at_slot 1 ?_); refine wpList_value (o := ⟨some 1, _, _, _, _, _⟩) rfl (.pointer (some ⟨w.heap.size, 0, none⟩)) w1 (by rw [HW1.out]; kernel_rfl) ?_)
  refine (name_any p.2 hp.2 w1).mono ?_
  rintro e w2 ⟨rfl, hb⟩
  dsimp only
  have HK := hide (And.intro (H1.out.1.below hb H1.out.1.lt) (H1.out.2.trans (Below.mono hb H1.out.2.size)))
  clear hb
  by_cases hn : nameP p.2 = true
  · have HL := hide (path_small hp.1 (name_small hn))
    rw [hn]
    go_wp2_with fail
    refine Fre.wp_made (X := Bel) 7 [] (by kernel_rfl) (by kernel_rfl) (by simp) (by simp) (by simp) ?_
    simp only [List.take_succ_cons, List.take_zero, List.drop_succ_cons, List.drop_zero]
    refine Fre.made_val (.pointer (some ⟨w.heap.size, 0, none⟩)) (by kernel_rfl) (by kernel_rfl) (by kernel_rfl) (fun _ _ => by kernel_rfl) ?_
    simp only [Act.put, List.setIfInBounds_toArray, List.set_cons_zero, List.set_cons_succ]
    refine Fre.made_val (.agg (bv p.1).toArray) (by kernel_rfl) (by kernel_rfl) (by kernel_rfl) (fun W9 hW9 => exec_load_mid (o := ⟨some 9, _, _, _, _, _⟩) 27 (.tmp 8) rfl w.heap.size (0) rfl (bv p.1) _ W9 (path_hash hp (HK.out.1.below hW9 HK.out.1.lt)) Try.underlying27 rfl (by have := hszD hp.1; simpa using this)) ?_
    simp only [Act.put, List.setIfInBounds_toArray, List.set_cons_zero, List.set_cons_succ]
    refine Fre.made_call (.string ⟨(lettersP p.1).toArray⟩) 64 #[.agg (bv p.1).toArray] (by kernel_rfl) (by kernel_rfl) (by kernel_rfl) (fun W9 => by kernel_rfl) (fun W9 hW9 => (letters_any W9 p.1 hp.1)) ?_
    simp only [Act.put, List.setIfInBounds_toArray, List.set_cons_zero, List.set_cons_succ]
    refine Fre.made_val (.string (⟨(lettersP p.1).toArray⟩ ++ ⟨#[45]⟩)) (by kernel_rfl) (by kernel_rfl) (by kernel_rfl) (fun W9 hW9 => exec_concat (o := ⟨some 11, _, _, _, _, _⟩) 9 (.tmp 10) (.const (.string ⟨#[45]⟩)) 9 rfl (⟨(lettersP p.1).toArray⟩) (⟨#[45]⟩) rfl rfl (by have := HL.out; exact this.1) W9) ?_
    simp only [Act.put, List.setIfInBounds_toArray, List.set_cons_zero, List.set_cons_succ]
    refine Fre.made_val (.pointer (some ⟨w.heap.size, 20, none⟩)) (by kernel_rfl) (by kernel_rfl) (by kernel_rfl) (fun _ _ => by kernel_rfl) ?_
    simp only [Act.put, List.setIfInBounds_toArray, List.set_cons_zero, List.set_cons_succ]
    refine Fre.made_val (.string p.2) (by kernel_rfl) (by kernel_rfl) (by kernel_rfl) (fun W9 hW9 => exec_load_cell (o := ⟨some 13, _, _, _, _, _⟩) 9 (.tmp 12) rfl ⟨w.heap.size, 20, none⟩ rfl _ _ W9 Try.underlying9 rfl (path_name hp (HK.out.1.below hW9 HK.out.1.lt))) ?_
    simp only [Act.put, List.setIfInBounds_toArray, List.set_cons_zero, List.set_cons_succ]
    refine Fre.made_val (.string ((⟨(lettersP p.1).toArray⟩ ++ ⟨#[45]⟩) ++ p.2)) (by kernel_rfl) (by kernel_rfl) (by kernel_rfl) (fun W9 hW9 => exec_concat (o := ⟨some 14, _, _, _, _, _⟩) 9 (.tmp 11) (.tmp 13) 9 rfl ((⟨(lettersP p.1).toArray⟩ ++ ⟨#[45]⟩)) (p.2) rfl rfl (by have := HL.out; exact this.2) W9) ?_
    simp only [Act.put, List.setIfInBounds_toArray, List.set_cons_zero, List.set_cons_succ]
    intro w4 hx4
    have H4 := hide (HK.out.2.trans (Below.mono hx4 HK.out.2.size))
    clear hx4
    dsimp only [Fre.ended, List.drop]
    go_wp2_with fail
    refine bodyPost_ret (v := .tuple #[.string (pathS p), .int .i64 0]) (by simp [results, Try.results65, pathS, go_sem]) rfl ?_
    exact ⟨rfl, H4.out⟩
  · have hn' : nameP p.2 = false := by simpa using hn
    rw [hn']
    go_wp2_with fail
    refine bodyPost_ret (v := .tuple #[.string ⟨#[]⟩, .int .i64 2]) (by simp [results, Try.results65, go_sem]) rfl ?_
    exact ⟨rfl, HK.out.2⟩
/-- an input's line -/
def lineS (x : Nam) : ByteArray := if x.2.2.2 = true then ⟨#[99, 108, 97, 115, 115, 32]⟩ ++ x.1 ++ ⟨#[32]⟩ ++ ⟨(lettersP x.2.2.1).toArray⟩ else ⟨#[115, 114, 99, 32]⟩ ++ x.1 ++ ⟨#[32]⟩ ++ pathS x.2.1
theorem pathS_size (p : Pth) : (pathS p).size = (lettersP p.1).length + 1 + p.2.size := by
  rw [pathS, ByteArray.size_append, ByteArray.size_append]
  rfl
theorem line_small1 {x : Nam} (h : okN x) (hs : x.1.size ≤ 24) : (⟨#[99, 108, 97, 115, 115, 32]⟩ : ByteArray).size + x.1.size ≤ 9223372036854775807 ∧ (⟨#[99, 108, 97, 115, 115, 32]⟩ ++ x.1 : ByteArray).size + (⟨#[32]⟩ : ByteArray).size ≤ 9223372036854775807 ∧ (⟨#[99, 108, 97, 115, 115, 32]⟩ ++ x.1 ++ ⟨#[32]⟩ : ByteArray).size + (⟨(lettersP x.2.2.1).toArray⟩ : ByteArray).size ≤ 9223372036854775807 := by
  have hll := letters_len x.2.2.1
  have hpl : x.2.2.1.length = 20 := h.2.2
  have hs1 : (⟨(lettersP x.2.2.1).toArray⟩ : ByteArray).size = (lettersP x.2.2.1).length := rfl
  have hs2 : (⟨#[32]⟩ : ByteArray).size = 1 := rfl
  have hs3 : (⟨#[99, 108, 97, 115, 115, 32]⟩ : ByteArray).size = 6 := rfl
  simp only [ByteArray.size_append, hs1, hs2, hs3]
  omega
theorem line_small2 {x : Nam} (h : okN x) (hs : x.1.size ≤ 24) (hp : x.2.1.2.size ≤ 24) : (⟨#[115, 114, 99, 32]⟩ : ByteArray).size + x.1.size ≤ 9223372036854775807 ∧ (⟨#[115, 114, 99, 32]⟩ ++ x.1 : ByteArray).size + (⟨#[32]⟩ : ByteArray).size ≤ 9223372036854775807 ∧ (⟨#[115, 114, 99, 32]⟩ ++ x.1 ++ ⟨#[32]⟩ : ByteArray).size + (pathS x.2.1).size ≤ 9223372036854775807 := by
  have hll := letters_len x.2.1.1
  have hpl : x.2.1.1.length = 20 := h.2.1.1
  have hs2 : (⟨#[32]⟩ : ByteArray).size = 1 := rfl
  have hs3 : (⟨#[115, 114, 99, 32]⟩ : ByteArray).size = 4 := rfl
  simp only [ByteArray.size_append, pathS_size, hs2, hs3]
  omega
set_option maxHeartbeats 4000000 in
theorem line_any (w : World) (x : Nam) (hx : okN x) (hnm : x.1.size ≤ 24) (hsrc : x.2.2.2 = false → nameP x.2.1.2 = true) :
    Calls Try.prog 53 #[.agg (nC x).toArray] w fun e w' => e = .returned (.string (lineS x)) ∧ Below w.heap.size w w' := by
  obtain ⟨w1, hw1⟩ : ∃ w1, w1 = w.alloc (.cells (nC x).toArray 72) := ⟨_, rfl⟩
  have hb1 : Below w.heap.size w w1 := by rw [hw1]; exact (Below.refl _ w).alloc (Nat.le_refl _) _
  have hk1 : Blk w1 w.heap.size 72 (nC x).toArray := by rw [hw1]; exact Blk.new _ _ _
  have H1 := hide (And.intro hk1 hb1)
  have HW1 := hide hw1
  clear hk1 hb1 hw1
  by_cases his : x.2.2.2 = true
  · have HIS := hide his
    have c42 := named_is hx H1.out.1
    rw [his] at c42
    have HL := hide (line_small1 (x := x) hx hnm)
    clear his
    go_enter Try.func53, Try.ntmps53
    go_wp2_with ((with_reducible refine at_slot 1 ?_); refine wpList_value (o := ⟨some 1, _, _, _, _, _⟩) rfl (.pointer (some ⟨w.heap.size, 0, none⟩)) w1 (by rw [HW1.out]; kernel_rfl) ?_)
    refine Fre.wp_made (X := Bel) 9 [] (by kernel_rfl) (by kernel_rfl) (by simp) (by simp) (by simp) ?_
    simp only [List.take_succ_cons, List.take_zero, List.drop_succ_cons, List.drop_zero]
    refine Fre.made_val (.pointer (some ⟨w.heap.size, 0, none⟩)) (by kernel_rfl) (by kernel_rfl) (by kernel_rfl) (fun _ _ => by kernel_rfl) ?_
    simp only [Act.put, List.setIfInBounds_toArray, List.set_cons_zero, List.set_cons_succ]
    refine Fre.made_val (.string x.1) (by kernel_rfl) (by kernel_rfl) (by kernel_rfl) (fun W9 hW9 => exec_load_cell (o := ⟨some 9, _, _, _, _, _⟩) 9 (.tmp 8) rfl ⟨w.heap.size, 0, none⟩ rfl _ _ W9 Try.underlying9 rfl (named_name (H1.out.1.below hW9 H1.out.1.lt))) ?_
    simp only [Act.put, List.setIfInBounds_toArray, List.set_cons_zero, List.set_cons_succ]
    refine Fre.made_val (.string (⟨#[99, 108, 97, 115, 115, 32]⟩ ++ x.1)) (by kernel_rfl) (by kernel_rfl) (by kernel_rfl) (fun W9 hW9 => exec_concat (o := ⟨some 10, _, _, _, _, _⟩) 9 (.const (.string ⟨#[99, 108, 97, 115, 115, 32]⟩)) (.tmp 9) 9 rfl (⟨#[99, 108, 97, 115, 115, 32]⟩) (x.1) rfl rfl HL.out.1 W9) ?_
    simp only [Act.put, List.setIfInBounds_toArray, List.set_cons_zero, List.set_cons_succ]
    refine Fre.made_val (.string ((⟨#[99, 108, 97, 115, 115, 32]⟩ ++ x.1) ++ ⟨#[32]⟩)) (by kernel_rfl) (by kernel_rfl) (by kernel_rfl) (fun W9 hW9 => exec_concat (o := ⟨some 11, _, _, _, _, _⟩) 9 (.tmp 10) (.const (.string ⟨#[32]⟩)) 9 rfl ((⟨#[99, 108, 97, 115, 115, 32]⟩ ++ x.1)) (⟨#[32]⟩) rfl rfl HL.out.2.1 W9) ?_
    simp only [Act.put, List.setIfInBounds_toArray, List.set_cons_zero, List.set_cons_succ]
    refine Fre.made_val (.pointer (some ⟨w.heap.size, 1, none⟩)) (by kernel_rfl) (by kernel_rfl) (by kernel_rfl) (fun _ _ => by kernel_rfl) ?_
    simp only [Act.put, List.setIfInBounds_toArray, List.set_cons_zero, List.set_cons_succ]
    refine Fre.made_val (.pointer (some ⟨w.heap.size, 22, none⟩)) (by kernel_rfl) (by kernel_rfl) (by kernel_rfl) (fun _ _ => by kernel_rfl) ?_
    simp only [Act.put, List.setIfInBounds_toArray, List.set_cons_zero, List.set_cons_succ]
    refine Fre.made_val (.agg (bv x.2.2.1).toArray) (by kernel_rfl) (by kernel_rfl) (by kernel_rfl) (fun W9 hW9 => exec_load_mid (o := ⟨some 14, _, _, _, _, _⟩) 27 (.tmp 13) rfl w.heap.size (22) rfl (bv x.2.2.1) _ W9 (named_cls hx (H1.out.1.below hW9 H1.out.1.lt)) Try.underlying27 rfl (by have := hszD hx.2.2; simpa using this)) ?_
    simp only [Act.put, List.setIfInBounds_toArray, List.set_cons_zero, List.set_cons_succ]
    refine Fre.made_call (.string ⟨(lettersP x.2.2.1).toArray⟩) 64 #[.agg (bv x.2.2.1).toArray] (by kernel_rfl) (by kernel_rfl) (by kernel_rfl) (fun W9 => by kernel_rfl) (fun W9 hW9 => (letters_any W9 x.2.2.1 hx.2.2)) ?_
    simp only [Act.put, List.setIfInBounds_toArray, List.set_cons_zero, List.set_cons_succ]
    refine Fre.made_val (.string ((⟨#[99, 108, 97, 115, 115, 32]⟩ ++ x.1 ++ ⟨#[32]⟩) ++ ⟨(lettersP x.2.2.1).toArray⟩)) (by kernel_rfl) (by kernel_rfl) (by kernel_rfl) (fun W9 hW9 => exec_concat (o := ⟨some 16, _, _, _, _, _⟩) 9 (.tmp 11) (.tmp 15) 9 rfl ((⟨#[99, 108, 97, 115, 115, 32]⟩ ++ x.1 ++ ⟨#[32]⟩)) (⟨(lettersP x.2.2.1).toArray⟩) rfl rfl HL.out.2.2 W9) ?_
    simp only [Act.put, List.setIfInBounds_toArray, List.set_cons_zero, List.set_cons_succ]
    intro w4 hx4
    have H4 := hide (H1.out.2.trans (Below.mono hx4 H1.out.2.size))
    clear hx4
    dsimp only [Fre.ended, List.drop]
    go_wp2_with fail
    go_ret
    exact ⟨by rw [lineS, if_pos HIS.out]; rfl, H4.out⟩
  · have his' : x.2.2.2 = false := by simpa using his
    have HIS := hide his
    have c42 := named_is hx H1.out.1
    rw [his'] at c42
    have hszp : (Try.prog.info? 68).map (·.size) = some (pC x.2.1).length := by have := psz hx.2.1; simpa using this
    have hpn := hsrc his'
    have c0 := named_name H1.out.1
    have HL := hide (line_small2 (x := x) hx hnm (name_small hpn))
    have HPN := hide hpn
    clear his his' hsrc hpn
    go_enter Try.func53, Try.ntmps53
    go_wp2_with (first | ((with_reducible refine at_slot 1 ?_); (refine wpList_value (o := ⟨some 1, _, _, _, _, _⟩) rfl (.pointer (some ⟨w.heap.size, 0, none⟩)) w1 (by rw [HW1.out]; kernel_rfl) ?_)) | ((with_reducible refine at_slot 20 ?_); (refine wpList_value (o := ⟨some 20, _, _, _, _, _⟩) rfl (.agg (pC x.2.1).toArray) w1 (exec_load_mid (o := ⟨some 20, _, _, _, _, _⟩) 68 (.tmp 19) rfl w.heap.size (1) rfl (pC x.2.1) _ w1 (named_src H1.out.1) Try.underlying68 rfl hszp) ?_)))
    refine (path_any w1 x.2.1 hx.2.1).mono ?_
    rintro e w2 ⟨rfl, hb⟩
    rw [if_pos HPN.out]
    dsimp only
    have c0' := named_name (H1.out.1.below hb H1.out.1.lt)
    have H2 := hide (H1.out.2.trans (Below.mono hb H1.out.2.size))
    have hs1 := HL.out.1
    have hs2 := HL.out.2.1
    have hs3 := HL.out.2.2
    clear hb c0 c42
    go_wp2_with (first | ((with_reducible refine at_slot 26 ?_); (refine wpList_value (o := ⟨some 26, _, _, _, _, _⟩) rfl (.string (⟨#[115, 114, 99, 32]⟩ ++ x.1)) w2 (exec_concat (o := ⟨some 26, _, _, _, _, _⟩) _ _ _ _ rfl ⟨#[115, 114, 99, 32]⟩ x.1 rfl rfl hs1 w2) ?_)) | ((with_reducible refine at_slot 27 ?_); (refine wpList_value (o := ⟨some 27, _, _, _, _, _⟩) rfl (.string (⟨#[115, 114, 99, 32]⟩ ++ x.1 ++ ⟨#[32]⟩)) w2 (exec_concat (o := ⟨some 27, _, _, _, _, _⟩) _ _ _ _ rfl (⟨#[115, 114, 99, 32]⟩ ++ x.1) ⟨#[32]⟩ rfl rfl hs2 w2) ?_)) | ((with_reducible refine at_slot 29 ?_); (refine wpList_value (o := ⟨some 29, _, _, _, _, _⟩) rfl (.string (⟨#[115, 114, 99, 32]⟩ ++ x.1 ++ ⟨#[32]⟩ ++ pathS x.2.1)) w2 (exec_concat (o := ⟨some 29, _, _, _, _, _⟩) _ _ _ _ rfl (⟨#[115, 114, 99, 32]⟩ ++ x.1 ++ ⟨#[32]⟩) (pathS x.2.1) rfl rfl hs3 w2) ?_)))
    go_ret
    exact ⟨by rw [lineS, if_neg HIS.out]; rfl, H2.out⟩
end Go.Proofs.Ytidiepbmbbflhaa
end
section
namespace Go.Proofs.Ytidiepbmbbflhaa
open Go Go.RowKit Go.Maps
set_option maxRecDepth 100000
def digitsL : List UInt8 := [48, 49, 50, 51, 52, 53, 54, 55, 56, 57, 97, 98, 99, 100, 101, 102]
def digitAt (k : Int) : UInt8 := digitsL.getD k.toNat 0
def digitS : ByteArray := ⟨#[48, 49, 50, 51, 52, 53, 54, 55, 56, 57, 97, 98, 99, 100, 101, 102]⟩
theorem digit_run (k : Int) (h0 : 0 ≤ k) (h1 : k < 16) (t : TypeId) (ht : Try.prog.underlying t = some .string) (w : World) : (Instr.index t (.string digitS) (.int .u8 k)).run Try.prog w = .ok (.int .u8 ((digitAt k).toNat : Int)) w := by
  obtain ⟨n, rfl⟩ := Int.eq_ofNat_of_zero_le h0
  have h := run_index_string (P := Try.prog) w t digitS .u8 (n : Int) ht
  have h3 : ∀ k : Fin 16, (digitS[k.val]'(k.isLt)).toNat = (digitAt (k.val : Int)).toNat := by decide
  have h2 : 0 ≤ (n : Int) ∧ (n : Int) < (digitS.size : Int) := ⟨by omega, by rw [show digitS.size = 16 from rfl]; omega⟩
  rw [h, dif_pos h2]
  have h4 := h3 ⟨n, by omega⟩
  dsimp only at h4
  have h5 : (digitS[(n : Int).toNat]'(by rw [Int.toNat_natCast]; exact (show n < 16 by omega))).toNat = (digitAt (n : Int)).toNat := h4
  rw [h5]
theorem exec_index_s {P : Program} {ρ : Operand → Value} {o : Oper} (t : TypeId) (x y : Operand) (ho : o.op = .index t x y) (s : ByteArray) (k : IntKind) (i : Int) (hx : ρ x = .string s) (hy : ρ y = .int k i) (v : Value) (hv : ∀ W, (Instr.index t (.string s) (.int k i)).run P W = .ok v W) (W : World) : (execOp ρ o).run P W = .ok (.value v) W := by
  unfold execOp
  simp only [ho, hx, hy, Sem.run_bind, hv W, Result.andThen_ok, Sem.run_pure]
theorem u8_low (c : Int) (h0 : 0 ≤ c) (h1 : c ≤ 255) : bits .and .u8 c 15 = c % 16 := bits_mask .u8 8 (by decide) wraps_u8 4 (by decide) c h0 (by omega)
theorem box_srcN {w : World} {g n m : Nat} {t : TypeId} {cs : List Value} (hb : Blk w g t cs.toArray) (hl : cs.length = m * n) (h1 : ∀ u ∈ cs, u.oneCell' = true) : SrcN w n (some ⟨g, 0, none⟩) m m cs :=
  ⟨hl, (fun h => by cases h), h1, fun ad had j u hu => by
    injection had with had
    subst had
    rw [Addr.add_mid, Nat.zero_add, hb.cell]
    simpa using hu⟩
/-- a row of two cells that was made -/
def RowV (xs : List Value) (u : Value) (w : World) : Prop := ∃ r, u = .slice (some ⟨r, 0, none⟩) 2 2 ∧ SrcN w 1 (some ⟨r, 0, none⟩) 2 2 xs
theorem rowV_new (W : World) (a b : Int) : RowV [.int .u8 a, .int .u8 b] (.slice (some ⟨W.heap.size, 0, none⟩) 2 2) (W.alloc (.cells #[.int .u8 a, .int .u8 b] 5)) :=
  ⟨_, rfl, box_srcN (n := 1) (m := 2) (Blk.new _ _ _) rfl (fun v hv => by simp only [List.mem_cons, List.not_mem_nil, or_false] at hv; rcases hv with rfl | rfl <;> rfl)⟩
theorem rowV_ok (xs : List Value) : Fre.MadeOk Bel (RowV xs) := ⟨fun u w w' ⟨r, h1, h2⟩ hx => ⟨r, h1, h2.below hx⟩⟩
def shownB (b : List Int) : List UInt8 := b.flatMap fun c => [digitAt (c / 16), digitAt (c % 16)]
/-- bytes as digits -/
def shownP (b : List Int) : List UInt8 := if b = [] then [45] else shownB b
theorem shownB_len (b : List Int) : (shownB b).length = 2 * b.length := by
  induction b with
  | nil => rfl
  | cons c b ih => rw [shownB, List.flatMap_cons, List.length_append, show (b.flatMap fun c => [digitAt (c / 16), digitAt (c % 16)]) = shownB b from rfl, ih]; simp; omega
theorem shown_step (b : List Int) (j : Nat) (c : Int) (h : b[j]? = some c) : bv (shownB (b.take (j + 1))) = bv (shownB (b.take j)) ++ [.int .u8 ((digitAt (c / 16)).toNat : Int), .int .u8 ((digitAt (c % 16)).toNat : Int)] := by
  rw [List.take_add_one, h, shownB, List.flatMap_append]
  simp [bv, shownB]
theorem own_cellN {w : World} {base g n cap s : Nat} {e : TypeId} {xs : List Value} (h : w.ownsRow base e s (.slice (some ⟨g, 0, none⟩) n cap) n xs) (j : Nat) (v : Value) (hv : xs[j]? = some v) : w.cell? ⟨g, j, none⟩ = some v := by
  obtain ⟨_, h | ⟨g', cap', cur, e1, _, hb, _, _, _, ht⟩⟩ := h
  · cases h.1
  · injection e1 with e1 _ _
    injection e1 with e1
    injection e1 with e1
    subst e1
    have hb' : Blk w g e cur := hb
    rw [hb'.cell]
    rw [← ht, List.getElem?_take] at hv
    split at hv
    · simpa using hv
    · cases hv
theorem exec_convert {P : Program} {ρ : Operand → Value} {o : Oper} (src dst : TypeId) (x : Operand) (ho : o.op = .convert src dst x) (v : Value) (hx : ρ x = v) (u : Value) {W : World} (hr : (convert src dst v).run P W = .ok u W) : (execOp ρ o).run P W = .ok (.value u) W := by
  unfold execOp
  simp only [ho, hx, Sem.run_bind, hr, Result.andThen_ok, Sem.run_pure]
set_option maxHeartbeats 4000000 in
theorem shown_any (w : World) (b : List Int) (v : Value) (h : bytesLay.At w w.heap.size [v] b) (hl : b.length ≤ 1000000) :
    Calls Try.prog 55 #[v] w fun e w' => e = .returned (.string ⟨(shownP b).toArray⟩) ∧ Below w.heap.size w w' := by
  obtain ⟨iu8, hih, hq0, hq1, hq2⟩ := info_parts info_byte
  have HK := hide (And.intro hih (And.intro hq0 (And.intro hq1 hq2)))
  clear hih hq0 hq1 hq2
  obtain ⟨A, cap, rfl, hcl, hcm, _, hA⟩ := slice_open h
  have HA := hide hA
  clear hA h hcm hcl
  by_cases hb0 : b = []
  · subst hb0
    go_enter Try.func55, Try.ntmps55
    go_wp2_with fail
    go_ret
    exact ⟨rfl, Below.refl _ _⟩
  · have hpos : 0 < b.length := List.length_pos_iff.2 hb0
    have e1 : ((b.length : Int) == 0) = false := by simpa using hb0
    go_enter Try.func55, Try.ntmps55
    go_wp2_with (at_make; refine wpList_make_own _ rfl _ _ 32 rfl w.heap.size 5 iu8 _ 1 Try.underlying32 HK.out.1 HK.out.2.1 HK.out.2.2.1 _ _ _ (2 * b.length) rfl rfl ?hC ?hB ?hM ?hZ ?_)
    case hC => omega
    case hB => have := HK.out.2.2.2; rw [this]; omega
    case hM => simp only [maxLen]; omega
    case hZ => exact Nat.le_refl _
    intro w2 own2 gr2
    have H2 := hide (And.intro own2 ((Below.refl _ w).grown gr2 (Nat.le_refl _) (fun k hk => by cases hk)))
    clear own2 gr2
    go_wp2_with fail
    go_loopw [3, 15] (fun x3 x15 wr => ∃ (j : Nat) (u : Value), j ≤ b.length ∧ u = x3 ∧ x15 = .int .i64 (j : Int) ∧ wr.ownsRow w.heap.size 5 1 u (2 * j) (bv (shownB (b.take j))) ∧ Below w.heap.size w wr) (fun _ x15 _ => b.length - (intOf x15).toNat)
    case atStart => exact ⟨0, _, by omega, rfl, rfl, H2.out.1, H2.out.2⟩
    case round =>
      obtain ⟨wo, rfl⟩ : ∃ wo, wo = wr := ⟨_, rfl⟩
      obtain ⟨j, x3, hj, rfl, rfl, hown, hbw⟩ := hrel
      have HI := hide (And.intro hown hbw)
      clear hown hbw
      have j0 : (0 : Int) ≤ (j : Int) := by omega
      by_cases hj2 : j < b.length
      · have j1 : (j : Int) < (b.length : Int) := by omega
        obtain ⟨c, hx⟩ : ∃ c, b[j]? = some c := ⟨_, List.getElem?_eq_getElem hj2⟩
        obtain ⟨bb, off, rfl, hlb, hE⟩ := HA.out (by omega)
        obtain ⟨cs, hr, hcs, hcw⟩ := hE j c hx
        subst hcs
        have hcb := bounds_u8 hcw
        have c0 : 0 ≤ c := hcb.1
        have c1 : c ≤ 255 := by omega
        have hc9 : wo.cell? ⟨bb, off + j, none⟩ = some (.int .u8 c) := by have h9 := rangeAt_same hr (HI.out.2.block bb (by omega)) 0 _ rfl; rwa [show off + j * (Lay.int 5 IntKind.u8).n + 0 = off + j by show off + j * 1 + 0 = off + j; omega] at h9
        have HXX := hide hx
        have HC9 := hide hc9
        clear hx hE hr hcw hc9
        go_wp2_with (first | ((with_reducible refine at_slot 17 ?_); refine wpList_value (o := ⟨some 17, _, _, _, _, _⟩) rfl (.pointer (some ⟨bb, off + (j : Int).toNat * 1, none⟩)) wo (exec_index_off (o := ⟨some 17, _, _, _, _, _⟩) 32 5 (.tmp 13) (.tmp 15) rfl bb off b.length cap (j : Int) .i64 rfl rfl ⟨j0, j1⟩ 1 Try.underlying32 (by kernel_rfl) wo) ?_; rw [show off + (j : Int).toNat * 1 = off + j by omega]) | ((with_reducible refine at_slot 18 ?_); refine wpList_value (o := ⟨some 18, _, _, _, _, _⟩) rfl (.int .u8 c) wo (exec_load_cell (o := ⟨some 18, _, _, _, _, _⟩) 5 (.tmp 17) rfl ⟨bb, off + j, none⟩ rfl _ _ wo Try.underlying5 rfl HC9.out) ?_))
        refine Fre.wp_made (X := Bel) 8 [(26, RowV [.int .u8 ((digitAt (c / 16)).toNat : Int), .int .u8 ((digitAt (c % 16)).toNat : Int)])] (by kernel_rfl) (by kernel_rfl) (by intro p hp; rw [List.mem_singleton.1 hp]; exact rowV_ok _) (by simp) (by simp) ?_
        simp only [List.take_succ_cons, List.take_zero, List.drop_succ_cons, List.drop_zero]
        refine Fre.made_val (x3) (by kernel_rfl) (by kernel_rfl) (by kernel_rfl) (fun _ _ => by kernel_rfl) ?_
        simp only [Act.put, List.setIfInBounds_toArray, List.set_cons_zero, List.set_cons_succ]
        refine Fre.made_val (.int .u8 c) (by kernel_rfl) (by kernel_rfl) (by kernel_rfl) (fun _ _ => by kernel_rfl) ?_
        simp only [Act.put, List.setIfInBounds_toArray, List.set_cons_zero, List.set_cons_succ]
        refine Fre.made_val (.int .u8 (c / 16)) (by kernel_rfl) (by kernel_rfl) (by kernel_rfl) (fun W9 hW9 => ?hs1) ?_
        case hs1 =>
          go_simp
          done
        simp only [Act.put, List.setIfInBounds_toArray, List.set_cons_zero, List.set_cons_succ]
        refine Fre.made_val (.int .u8 ((digitAt (c / 16)).toNat : Int)) (by kernel_rfl) (by kernel_rfl) (by kernel_rfl) (fun W9 hW9 => exec_index_s (o := ⟨some 22, _, _, _, _, _⟩) 9 (.const (.string ⟨#[48, 49, 50, 51, 52, 53, 54, 55, 56, 57, 97, 98, 99, 100, 101, 102]⟩)) (.tmp 21) rfl digitS .u8 (c / 16) rfl rfl _ (fun W => digit_run (c / 16) (by omega) (by omega) 9 Try.underlying9 W) W9) ?_
        simp only [Act.put, List.setIfInBounds_toArray, List.set_cons_zero, List.set_cons_succ]
        refine Fre.made_val (.int .u8 c) (by kernel_rfl) (by kernel_rfl) (by kernel_rfl) (fun _ _ => by kernel_rfl) ?_
        simp only [Act.put, List.setIfInBounds_toArray, List.set_cons_zero, List.set_cons_succ]
        refine Fre.made_val (.int .u8 (c % 16)) (by kernel_rfl) (by kernel_rfl) (by kernel_rfl) (fun W9 hW9 => ?hs2) ?_
        case hs2 =>
          go_simp
          exact u8_low c c0 c1
        simp only [Act.put, List.setIfInBounds_toArray, List.set_cons_zero, List.set_cons_succ]
        refine Fre.made_val (.int .u8 ((digitAt (c % 16)).toNat : Int)) (by kernel_rfl) (by kernel_rfl) (by kernel_rfl) (fun W9 hW9 => exec_index_s (o := ⟨some 25, _, _, _, _, _⟩) 9 (.const (.string ⟨#[48, 49, 50, 51, 52, 53, 54, 55, 56, 57, 97, 98, 99, 100, 101, 102]⟩)) (.tmp 24) rfl digitS .u8 (c % 16) rfl rfl _ (fun W => digit_run (c % 16) (by omega) (by omega) 9 Try.underlying9 W) W9) ?_
        simp only [Act.put, List.setIfInBounds_toArray, List.set_cons_zero, List.set_cons_succ]
        refine Fre.made_new 26 _ (by kernel_rfl) (by kernel_rfl) rfl rfl (fun W hW => ⟨.slice (some ⟨W.heap.size, 0, none⟩) 2 2, W.alloc (.cells #[.int .u8 ((digitAt (c / 16)).toNat : Int), .int .u8 ((digitAt (c % 16)).toNat : Int)] 5), by kernel_rfl, (Below.refl _ W).alloc (Nat.le_refl _) _, rowV_new W _ _⟩) ?_
        simp only [Act.put, List.setIfInBounds_toArray, List.set_cons_zero, List.set_cons_succ]
        intro w4 hx4
        dsimp only [Fre.ended, List.drop]
        rintro u26 ⟨r, rfl, hsr⟩
        have HO4 := hide (And.intro (owned_keepN HI.out.1 fun g _ hl => hx4.block g hl) (And.intro hsr (HI.out.2.trans (Below.mono hx4 HI.out.2.size))))
        clear hsr hx4
        go_wp2_with (at_builtin; ((with_reducible refine at_slot 27 ?_); refine wpList_appS (o := ⟨some 27, _, _, _, _, _⟩) rfl _ _ 32 rfl w.heap.size 5 iu8 _ 1 1 Try.underlying32 HK.out.1 HK.out.2.1 HK.out.2.2.1 HK.out.2.2.2 rfl (by decide) _ (2 * j) (bv (shownB (b.take j))) HO4.out.1 (some ⟨r, 0, none⟩) 2 2 [.int .u8 ((digitAt (c / 16)).toNat : Int), .int .u8 ((digitAt (c % 16)).toNat : Int)] HO4.out.2.1 ?hm1 ?hb1 ?hz1 rfl rfl ?_))
        case hm1 => simp only [maxLen]; omega
        case hb1 => omega
        case hz1 => exact HO4.out.2.2.size
        intro u5 w5 own5 gr5 _
        have hsn : bv (shownB (b.take (j + 1))) = bv (shownB (b.take j)) ++ [.int .u8 ((digitAt (c / 16)).toNat : Int), .int .u8 ((digitAt (c % 16)).toNat : Int)] := shown_step b j c HXX.out
        rw [← hsn] at own5
        have HO5 := hide (And.intro own5 (HO4.out.2.2.grown gr5 HO4.out.2.2.size (fun k hk => (owned_ltN HO4.out.1 hk).1)))
        clear own5 gr5 hsn
        go_wp2_with fail
        go_roundw
        case rel => exact ⟨j + 1, u5, by omega, rfl, by go_num, HO5.out.1, HO5.out.2⟩
        case measure => simp [intOf]; omega
      · obtain rfl : j = b.length := by omega
        have hown := HI.out.1
        rw [List.take_length] at hown
        obtain ⟨g, cap3, rfl⟩ := owned_placeN hown (by omega)
        have hlen := shownB_len b
        have hcv := run_convert_bytes_back (P := Try.prog) wo 32 9 5 ⟨g, 0, none⟩ cap3 (shownB b) Try.underlying32 Try.underlying5 Try.underlying9 (by
          intro k hk
          have h9 : wo.cell? ⟨g, k, none⟩ = some (.int .u8 ((shownB b)[k].toNat : Int)) := own_cellN hown k (.int .u8 ((shownB b)[k].toNat : Int)) (by rw [bv, List.getElem?_map, List.getElem?_eq_getElem hk]; rfl)
          rw [Addr.add_mid, Nat.zero_add]
          exact h9)
        rw [hlen] at hcv
        have HE := hide (And.intro HI.out.2 hcv)
        clear hown hlen hcv
        go_wp2_with ((with_reducible refine at_slot 30 ?_); refine wpList_value (o := ⟨some 30, _, _, _, _, _⟩) rfl (.string ⟨(shownB b).toArray⟩) wo (exec_convert (o := ⟨some 30, _, _, _, _, _⟩) 32 9 (.tmp 29) rfl _ rfl _ HE.out.2) ?_)
        go_ret
        exact ⟨by rw [shownP, if_neg hb0]; rfl, HE.out.1⟩
end Go.Proofs.Ytidiepbmbbflhaa
end
section
namespace Go.Proofs.Ytidiepbmbbflhaa
open Go Go.RowKit Go.Maps
set_option maxRecDepth 100000
/-- the cells of a text, in a block of bytes -/
def BytesOf (w : World) (g : Nat) (s : ByteArray) : Prop := (∃ cs fz, w.heap[g]? = some (.cells cs 5 fz)) ∧ ∀ j, j < s.size → w.cell? ⟨g, j, none⟩ = some (.int .u8 ((s.data.toList.getD j 0).toNat : Int))
theorem wpList_bytesOf {P : Program} {ops : Array Oper} {rest : List Oper} {o : Oper} {a : Act} {w : World} {Q : Exit → Act → World → Prop} (hg : o.guard = none) (src dst e : TypeId) (x : Operand) (ho : o.op = .convert src dst x)
    (hs : P.underlying src = some .string) (hd : P.underlying dst = some (.slice e)) (he : P.underlying e = some (.int .u8)) (s : ByteArray) (hx : a.eval x = .string s)
    (h : ∀ g cap w', ((∃ cs fz, w'.heap[g]? = some (.cells cs e fz)) ∧ ∀ j, j < s.size → w'.cell? ⟨g, j, none⟩ = some (.int .u8 ((s.data.toList.getD j 0).toNat : Int))) → s.size ≤ cap → w.heap.size ≤ g → g < w'.heap.size → Below w.heap.size w w' →
      wpList P ops Q rest (a.put o.dst (.slice (some ⟨g, 0, none⟩) s.size cap)) w') : wpList P ops Q (o :: rest) a w :=
  wpList_plain hg fun K hK => by
    unfold Oper.wp execOp
    simp only [ho, hx, Sem.run_bind, run_bytes_of_string w src dst e s hs hd he, Result.andThen_ok, Sem.run_pure]
    refine hK _ _ (h w.heap.size (grownCap w s.size 0 e) _ ⟨?_, ?_⟩ (grownCap_ge w s.size 0 e) (Nat.le_refl _) ?_ ?_)
    · exact ⟨_, _, heap_alloc_new w.drew _⟩
    · intro j hj
      refine (World.cell?_alloc_mark w.drew _ e _ j).trans ?_
      rw [bytesRow_at s _ j hj]
      have hj' : j < s.data.size := hj
      simp [List.getD, Array.getElem?_eq_getElem hj']
    · show _ < (w.heap.push _).size
      simp
    · exact ((Below.refl _ _).drew).alloc (Nat.le_refl _) _
/-- the first lines -/
def linesA (d : Drv) (j : Nat) : List ByteArray := (⟨#[100, 114, 118, 32]⟩ ++ d.1) :: (d.2.1.take j).map lineS
def linesP (d : Drv) : List ByteArray := (⟨#[100, 114, 118, 32]⟩ ++ d.1) :: (d.2.1.map lineS ++ [⟨#[114, 117, 110, 32]⟩ ++ ⟨(shownP d.2.2).toArray⟩])
/-- a derivation's text -/
def textP (d : Drv) : ByteArray := ⟨(Lib.join ((linesP d).map (·.data.toList)) [10]).toArray⟩ ++ ⟨#[10]⟩
/-- the error of writing it -/
def putE (d : Drv) : Int := if CanP d = true then (if 2000 < (textP d).size then 3 else 0) else 2
theorem lines_step (d : Drv) (j : Nat) (x : Nam) (h : d.2.1[j]? = some x) : (linesA d j).map Value.string ++ [.string (lineS x)] = (linesA d (j + 1)).map Value.string := by
  unfold linesA
  rw [List.take_add_one, h]
  simp
theorem lines_end (d : Drv) : (linesA d d.2.1.length).map Value.string ++ [.string (⟨#[114, 117, 110, 32]⟩ ++ ⟨(shownP d.2.2).toArray⟩)] = (linesP d).map Value.string := by
  unfold linesA linesP
  rw [List.take_length]
  simp
theorem linesP_len (d : Drv) : (linesP d).length = d.2.1.length + 1 + 1 := by simp [linesP]
theorem can_small {d : Drv} (h : CanP d = true) : nameP d.1 = true ∧ (d.2.1.length : Int) ≤ 8 ∧ (d.2.2.length : Int) ≤ 1000 := by
  unfold CanP at h
  simp only [Bool.and_eq_true] at h
  exact ⟨h.2.1, of_decide_eq_true h.2.2.1, of_decide_eq_true h.2.2.2⟩
theorem canAll_line : ∀ (l : List Nam) (b : ByteArray), canAll l b = true → ∀ x ∈ l, x.1.size ≤ 24 ∧ (x.2.2.2 = false → nameP x.2.1.2 = true)
  | [], _, _, x, hx => by cases hx
  | y :: l, b, h, x, hx => by
    rw [canAll, Bool.and_eq_true] at h
    rcases List.mem_cons.1 hx with rfl | hx
    · have h1 := h.1
      unfold canP at h1
      simp only [Bool.and_eq_true] at h1
      refine ⟨name_small h1.1.1, fun hf => ?_⟩
      have h2 := h1.2
      rw [hf] at h2
      simp only [Bool.false_eq_true, if_false, Bool.and_eq_true] at h2
      exact h2.1
    · exact canAll_line l y.1 h.2 x hx
theorem can_line {d : Drv} (h : CanP d = true) : ∀ x ∈ d.2.1, x.1.size ≤ 24 ∧ (x.2.2.2 = false → nameP x.2.1.2 = true) := by
  unfold CanP at h
  simp only [Bool.and_eq_true] at h
  exact canAll_line _ _ h.1
theorem shownP_len (b : List Int) : (shownP b).length ≤ 2 * b.length + 1 := by
  unfold shownP
  split
  · simp
  · rw [shownB_len]; omega
theorem run_small (b : List Int) (h : b.length ≤ 1000) : (⟨#[114, 117, 110, 32]⟩ : ByteArray).size + (⟨(shownP b).toArray⟩ : ByteArray).size ≤ 9223372036854775807 := by
  have h1 : (⟨#[114, 117, 110, 32]⟩ : ByteArray).size = 4 := rfl
  have h2 : (⟨(shownP b).toArray⟩ : ByteArray).size = (shownP b).length := rfl
  have := shownP_len b
  omega
theorem own_capN {w : World} {base g n cap s : Nat} {e : TypeId} {xs : List Value} (h : w.ownsRow base e s (.slice (some ⟨g, 0, none⟩) n cap) n xs) : n ≤ cap := by
  obtain ⟨_, h | ⟨g', cap', cur, e1, _, _, h2, _⟩⟩ := h
  · cases h.1
  · injection e1 with _ _ e3
    rw [e3]
    exact h2
theorem lineS_len {x : Nam} (hs : x.1.size ≤ 24) (hp : x.2.2.2 = false → nameP x.2.1.2 = true) (h1 : (lettersP x.2.2.1).length ≤ 40) (h2 : (lettersP x.2.1.1).length ≤ 40) : (lineS x).size ≤ 100 := by
  unfold lineS
  split
  · have hs1 : (⟨(lettersP x.2.2.1).toArray⟩ : ByteArray).size = (lettersP x.2.2.1).length := rfl
    have hs2 : (⟨#[32]⟩ : ByteArray).size = 1 := rfl
    have hs3 : (⟨#[99, 108, 97, 115, 115, 32]⟩ : ByteArray).size = 6 := rfl
    simp only [ByteArray.size_append, hs1, hs2, hs3]
    omega
  · rename_i hf
    have hp2 := name_small (hp (by simpa using hf))
    have hs2 : (⟨#[32]⟩ : ByteArray).size = 1 := rfl
    have hs3 : (⟨#[115, 114, 99, 32]⟩ : ByteArray).size = 4 := rfl
    simp only [ByteArray.size_append, pathS_size, hs2, hs3]
    omega
theorem lens_le (l : List ByteArray) (k : Nat) (h : ∀ s ∈ l, s.size ≤ k) : Lib.lens (l.map (·.data.toList)) ≤ k * l.length := by
  induction l with
  | nil => exact Nat.zero_le _
  | cons s l ih =>
    have h1 := ih fun x hx => h x (List.mem_cons_of_mem _ hx)
    have h2 := h s (List.mem_cons_self ..)
    have h3 : s.data.toList.length = s.size := rfl
    have e : Lib.lens ((s :: l).map (·.data.toList)) = s.data.toList.length + Lib.lens (l.map (·.data.toList)) := by simp [Lib.lens]
    rw [e, List.length_cons, h3, Nat.mul_add, Nat.mul_one]
    omega
theorem join_small {d : Drv} (hok : ∀ x ∈ d.2.1, okN x) (h : CanP d = true) : (Lib.join ((linesP d).map (·.data.toList)) [10]).length ≤ 30000 := by
  have hs := can_small h
  have hn := name_small hs.1
  have hl : Lib.lens ((linesP d).map (·.data.toList)) ≤ 2100 * (linesP d).length := lens_le _ _ fun s hm => by
    unfold linesP at hm
    rcases List.mem_cons.1 hm with rfl | hm
    · have : (⟨#[100, 114, 118, 32]⟩ : ByteArray).size = 4 := rfl
      rw [ByteArray.size_append]
      omega
    · rcases List.mem_append.1 hm with hm | hm
      · obtain ⟨x, hx, rfl⟩ := List.mem_map.1 hm
        have h1 := can_line h x hx
        have h2 := letters_len x.2.2.1
        have h3 := letters_len x.2.1.1
        have h4 : x.2.2.1.length = 20 := (hok x hx).2.2
        have h5 : x.2.1.1.length = 20 := (hok x hx).2.1.1
        have := lineS_len h1.1 h1.2 (by omega) (by omega)
        omega
      · rw [List.mem_singleton.1 hm, ByteArray.size_append]
        have h1 : (⟨#[114, 117, 110, 32]⟩ : ByteArray).size = 4 := rfl
        have h2 : (⟨(shownP d.2.2).toArray⟩ : ByteArray).size = (shownP d.2.2).length := rfl
        have := shownP_len d.2.2
        omega
  have hlp := linesP_len d
  have e : (linesP d).map (·.data.toList) = (⟨#[100, 114, 118, 32]⟩ ++ d.1 : ByteArray).data.toList :: (d.2.1.map lineS ++ [⟨#[114, 117, 110, 32]⟩ ++ ⟨(shownP d.2.2).toArray⟩] : List ByteArray).map (·.data.toList) := rfl
  rw [e, Lib.join_length, ← e, List.length_map, List.length_append, List.length_map]
  simp only [List.length_cons, List.length_nil]
  omega
theorem join_cat {d : Drv} (h : (Lib.join ((linesP d).map (·.data.toList)) [10]).length ≤ 30000) : (⟨(Lib.join ((linesP d).map (·.data.toList)) [10]).toArray⟩ : ByteArray).size + (⟨#[10]⟩ : ByteArray).size ≤ 9223372036854775807 := by
  have h1 : (⟨(Lib.join ((linesP d).map (·.data.toList)) [10]).toArray⟩ : ByteArray).size = (Lib.join ((linesP d).map (·.data.toList)) [10]).length := rfl
  have h2 : (⟨#[10]⟩ : ByteArray).size = 1 := rfl
  omega
theorem DrvAt.alike9 {w w' : World} {d : Drv} {v1 v2 : Value} (h : DrvAt w w.heap.size d v1 v2) (hb : Below w.heap.size w w') : DrvAt w' w'.heap.size d v1 v2 :=
  ⟨h.name, namsLay.widen (namsLay.alike h.ins fun b hb9 => hb.block b hb9) hb.size, bytesLay.widen (bytesLay.alike h.rcp fun b hb9 => hb.block b hb9) hb.size⟩
theorem DrvAt.rcp9 {w w' : World} {d : Drv} {v1 v2 : Value} (h : DrvAt w w.heap.size d v1 v2) (hb : Below w.heap.size w w') : bytesLay.At w' w'.heap.size [v2] d.2.2 := (h.alike9 hb).rcp
theorem DrvAt.okn {w : World} {B : Nat} {d : Drv} {v1 v2 : Value} (h : DrvAt w B d v1 v2) : ∀ x ∈ d.2.1, okN x := fun x hx => by
  obtain ⟨cs, h9⟩ := slice_allD h.ins hx
  exact (namLay_at.1 h9).2
theorem own_new1 {w w' : World} {t : TypeId} {cells : Array Value} {xs : List Value} {n : Nat} (h : New1 w w' t cells) (hx : cells.toList = xs) (hn : cells.size = n) : w'.ownsRow w.heap.size t n (.slice (some ⟨w.heap.size, 0, none⟩) 1 1) (0 + 1) xs := by
  subst hx hn
  exact ⟨by simp, .inr ⟨w.heap.size, 1, cells, rfl, Nat.le_refl _, h.blk, Nat.le_refl _, by decide, by omega, List.take_of_length_le (by simp)⟩⟩
theorem sz_str : (Try.prog.info? 9).map (·.size) = some 1 := by kernel_rfl
theorem info_strI : (Try.prog.info? 9).map (fun i => (i.zero, i.size, i.bytes)) = some (some (.string ⟨#[]⟩), 1, 16) := by kernel_rfl
set_option maxHeartbeats 4000000 in
theorem put_any (w : World) (d : Drv) (v1 v2 : Value) (h : DrvAt w w.heap.size d v1 v2) :
    Calls Try.prog 45 #[.agg (dC d v1 v2).toArray] w fun e w' => ∃ v, e = .returned (.tuple #[v, .int .i64 (putE d)]) ∧ (putE d = 0 → ∃ g cap, v = .slice (some ⟨g, 0, none⟩) (textP d).size cap ∧ BytesOf w' g (textP d) ∧ (textP d).size ≤ cap ∧ w.heap.size ≤ g ∧ g < w'.heap.size) ∧ Below w.heap.size w w' := by
  have hok := h.okn
  obtain ⟨istr, hih, hq0, hq1, hq2⟩ := info_parts info_strI
  have HK := hide (And.intro hih (And.intro hq0 (And.intro hq1 hq2)))
  clear hih hq0 hq1 hq2
  have h0 := h
  obtain ⟨A, cap, rfl, hcl, hcm, _, hA⟩ := slice_open h0.ins
  obtain ⟨A2, cap2, rfl, hcl2, hcm2, _, _⟩ := slice_open h0.rcp
  have l9 : (d.2.1.length : Int) ≤ 9223372036854775807 := by simp only [maxLen] at hcm; omega
  have k9 : (d.2.2.length : Int) ≤ 9223372036854775807 := by simp only [maxLen] at hcm2; omega
  obtain ⟨w1, hw1⟩ : ∃ w1, w1 = w.alloc (.cells (dC d (.slice A d.2.1.length cap) (.slice A2 d.2.2.length cap2)).toArray 34) := ⟨_, rfl⟩
  have hb1 : Below w.heap.size w w1 := by rw [hw1]; exact (Below.refl _ w).alloc (Nat.le_refl _) _
  have hk1 : Blk w1 w.heap.size 34 (dC d (.slice A d.2.1.length cap) (.slice A2 d.2.2.length cap2)).toArray := by rw [hw1]; exact Blk.new _ _ _
  have H1 := hide (And.intro hk1 hb1)
  have HD := hide h
  have HOK := hide hok
  have HW1 := hide hw1
  have HA := hide hA
  clear hk1 hb1 hw1 hA h0 h hcl hcm hcl2 hcm2 hok
  go_enter Try.func45, Try.ntmps45
  go_wp2_with (first | ((with_reducible refine at_slot 1 ?_); (refine wpList_value (o := ⟨some 1, _, _, _, _, _⟩) rfl (.pointer (some ⟨w.heap.size, 0, none⟩)) w1 (by rw [HW1.out]; kernel_rfl) ?_)) | ((with_reducible refine at_slot 8 ?_); (refine wpList_value (o := ⟨some 8, _, _, _, _, _⟩) rfl (.agg (dC d (.slice A d.2.1.length cap) (.slice A2 d.2.2.length cap2)).toArray) w1 (exec_load_blk (o := ⟨some 8, _, _, _, _, _⟩) 34 (.tmp 1) rfl w.heap.size rfl 34 _ _ w1 H1.out.1 Try.underlying34 rfl (by kernel_rfl)) ?_)))
  refine (Can_any w1 d _ _ (HD.out.alike9 H1.out.2)).mono ?_
  rintro e w2 ⟨rfl, hb⟩
  dsimp only
  have H2 := hide (And.intro (H1.out.1.below hb H1.out.1.lt) (H1.out.2.trans (Below.mono hb H1.out.2.size)))
  clear hb
  by_cases hc : CanP d = true
  · have hcs := can_small hc
    have HC := hide hc
    have l8 : (d.2.1.length : Int) ≤ 8 := hcs.2.1
    have r9 : (d.2.2.length : Int) ≤ 1000 := hcs.2.2
    have hn24 := name_small hcs.1
    have hcat1 : (⟨#[100, 114, 118, 32]⟩ : ByteArray).size + d.1.size ≤ 9223372036854775807 := by have : (⟨#[100, 114, 118, 32]⟩ : ByteArray).size = 4 := rfl; omega
    have HCAT := hide hcat1
    have hcl := can_line hc
    have HCL := hide hcl
    clear hcs hcat1 hcl
    rw [hc]
    clear hc
    go_wp2_with (first | ((with_reducible refine at_slot 12 ?_); (refine wpList_value (o := ⟨some 12, _, _, _, _, _⟩) rfl (.string d.1) w2 (exec_load_cell (o := ⟨some 12, _, _, _, _, _⟩) 9 (.tmp 11) rfl ⟨w.heap.size, 0, none⟩ rfl _ _ w2 Try.underlying9 rfl (show w2.cell? ⟨w.heap.size, 0, none⟩ = some (.string d.1) from H2.out.1.cell 0)) ?_)) | ((with_reducible refine at_slot 13 ?_); (refine wpList_value (o := ⟨some 13, _, _, _, _, _⟩) rfl (.string (⟨#[100, 114, 118, 32]⟩ ++ d.1)) w2 (exec_concat (o := ⟨some 13, _, _, _, _, _⟩) 9 (.const (.string ⟨#[100, 114, 118, 32]⟩)) (.tmp 12) 9 rfl (⟨#[100, 114, 118, 32]⟩) (d.1) rfl rfl HCAT.out w2) ?_)) | ((with_reducible refine at_slot 14 ?_); (refine wpList_row1 (o := ⟨some 14, _, _, _, _, _⟩) rfl 101 (.tmp 13) rfl 9 1 (.string ⟨#[]⟩) _ rfl Try.underlying101 sz_str (by decide) (by decide) (fun w => by kernel_rfl) rfl ?_); intro w3 hn; have own3 : w3.ownsRow w2.heap.size 9 1 (.slice (some ⟨w2.heap.size, 0, none⟩) 1 1) (0 + 1) ((linesA d 0).map Value.string) := own_new1 hn rfl rfl; have H3 := hide (And.intro (H2.out.1.below hn.below H2.out.1.lt) (And.intro (H2.out.2.trans (Below.mono hn.below H2.out.2.size)) own3)); have HZ3 := hide hn.below.size; clear own3 hn; simp only [Act.put, List.setIfInBounds_toArray, List.set_cons_zero, List.set_cons_succ]) | ((with_reducible refine at_slot 16 ?_); (refine wpList_value (o := ⟨some 16, _, _, _, _, _⟩) rfl (.slice A d.2.1.length cap) w3 (exec_load_cell (o := ⟨some 16, _, _, _, _, _⟩) 31 (.tmp 15) rfl ⟨w.heap.size, 1, none⟩ rfl _ _ w3 Try.underlying31 rfl (show w3.cell? ⟨w.heap.size, 1, none⟩ = some (.slice A d.2.1.length cap) from H3.out.1.cell 1)) ?_)))
    go_loopw [4, 18] (fun x4 x18 wr => ∃ (j : Nat) (u : Value), j ≤ d.2.1.length ∧ u = x4 ∧ x18 = .int .i64 (j : Int) ∧ Blk wr w.heap.size 34 (dC d (.slice A d.2.1.length cap) (.slice A2 d.2.2.length cap2)).toArray ∧ wr.ownsRow w2.heap.size 9 1 u (j + 1) ((linesA d j).map Value.string) ∧ Below w.heap.size w wr ∧ w2.heap.size ≤ wr.heap.size) (fun _ x18 _ => d.2.1.length - (intOf x18).toNat)
    case atStart => exact ⟨0, _, by omega, rfl, rfl, H3.out.1, H3.out.2.2, H3.out.2.1, HZ3.out⟩
    case round =>
      obtain ⟨wo, rfl⟩ : ∃ wo, wo = wr := ⟨_, rfl⟩
      obtain ⟨j, x4, hj, rfl, rfl, hk, hown, hbw, hzw⟩ := hrel
      have HI := hide (And.intro hk (And.intro hown (And.intro hbw hzw)))
      clear hk hown hbw hzw
      have j0 : (0 : Int) ≤ (j : Int) := by omega
      by_cases hj2 : j < d.2.1.length
      · have j1 : (j : Int) < (d.2.1.length : Int) := by omega
        obtain ⟨x, hx⟩ : ∃ x, d.2.1[j]? = some x := ⟨_, List.getElem?_eq_getElem hj2⟩
        obtain ⟨b, off, rfl, hlb, hE⟩ := HA.out (by omega)
        obtain ⟨cs, hr, hatx⟩ := hE j x hx
        obtain ⟨rfl, hxo⟩ := namLay_at.1 hatx
        have HX := hide (And.intro (rangeAt_same hr (HI.out.2.2.1.block b (by omega))) hxo)
        have hszn2 := nszD hxo
        have hszn : (Try.prog.info? 72).map (·.size) = some (nC x).length := by simpa using hszn2
        have hszzn : zcN.size = (nC x).toArray.size := by rw [show (nC x).toArray.size = 43 by rw [List.size_toArray]; exact nC_len hxo]; kernel_rfl
        have honen : (nC x).toArray.all (·.oneCell') = true := all_oneCell_toArray (nC_one x)
        have hll := HCL.out x (List.mem_of_getElem? hx)
        have HXX := hide hx
        clear hx hE hr hatx hxo
        go_wp2_with (first | ((with_reducible refine at_slot 20 ?_); (refine wpList_value (o := ⟨some 20, _, _, _, _, _⟩) rfl (.pointer (some ⟨b, off + (j : Int).toNat * 43, none⟩)) wo (exec_index_off (o := ⟨some 20, _, _, _, _, _⟩) 31 72 (.tmp 16) (.tmp 18) rfl b off d.2.1.length cap (j : Int) .i64 rfl rfl ⟨j0, j1⟩ 43 Try.underlying31 sz_namD wo) ?_; rw [show off + (j : Int).toNat * 43 = off + j * 43 by omega])) | ((with_reducible refine at_slot 21 ?_); (refine wpList_value (o := ⟨some 21, _, _, _, _, _⟩) rfl (.agg (nC x).toArray) wo (exec_load_mid (o := ⟨some 21, _, _, _, _, _⟩) 72 (.tmp 20) rfl b (off + j * 43) rfl (nC x) _ wo HX.out.1 Try.underlying72 rfl hszn) ?_)) | ((with_reducible refine at_slot 6 ?_); ((with_reducible refine wpList_box (o1 := ⟨some 6, _, _, _, _, _⟩) (o2 := ⟨none, _, _, _, _, _⟩) rfl rfl 72 (.tmp 6) (.tmp 21) ?_ zcN (nC x).toArray ?_ hszn2 ?_ honen ?_ ?_ ?_); rfl; kernel_rfl; exact hszzn; rfl; rfl; intro w3 hmm hbb; have H3 := hide (And.intro hmm hbb); clear hmm hbb; simp only [Act.put, List.setIfInBounds_toArray, List.set_cons_zero, List.set_cons_succ])) | ((with_reducible refine at_slot 23 ?_); (refine wpList_value (o := ⟨some 23, _, _, _, _, _⟩) rfl (.agg (nC x).toArray) w3 (exec_load_blk (o := ⟨some 23, _, _, _, _, _⟩) 72 (.tmp 6) rfl wo.heap.size rfl 72 _ _ w3 H3.out.1 Try.underlying72 rfl hszn2) ?_)))
        refine (line_any w3 x HX.out.2 hll.1 hll.2).mono ?_
        rintro e w4 ⟨rfl, hb⟩
        dsimp only
        have h34 := H3.out.2.trans (Below.mono hb H3.out.2.size)
        have H34 := hide h34
        clear hb h34
        go_wp2_with (first | ((with_reducible refine at_slot 25 ?_); (refine wpList_row1 (o := ⟨some 25, _, _, _, _, _⟩) rfl 101 (.tmp 24) rfl 9 1 (.string ⟨#[]⟩) _ rfl Try.underlying101 sz_str (by decide) (by decide) (fun w => by kernel_rfl) rfl ?_); intro w5 hn; have h45 := H34.out.trans (Below.mono hn.below H34.out.size); have H5 := hide (And.intro (HI.out.1.below h45 HI.out.1.lt) (And.intro (owned_keepN HI.out.2.1 fun g _ hl => h45.block g hl) (And.intro (HI.out.2.2.1.trans (Below.mono h45 HI.out.2.2.1.size)) (And.intro (show SrcN w5 1 (some ⟨w4.heap.size, 0, none⟩) 1 1 [.string (lineS x)] from hn.src rfl (fun v hv => (by rw [List.mem_singleton.1 hv]; rfl))) (Nat.le_trans HI.out.2.2.2 h45.size))))); clear h45 hn; simp only [Act.put, List.setIfInBounds_toArray, List.set_cons_zero, List.set_cons_succ]) | (at_builtin; ((with_reducible refine at_slot 26 ?_); refine wpList_appS (o := ⟨some 26, _, _, _, _, _⟩) rfl _ _ 101 rfl w2.heap.size 9 istr _ 1 16 Try.underlying101 HK.out.1 HK.out.2.1 HK.out.2.2.1 HK.out.2.2.2 rfl (by decide) _ (j + 1) ((linesA d j).map Value.string) H5.out.2.1 (some ⟨w4.heap.size, 0, none⟩) 1 1 [.string (lineS x)] H5.out.2.2.2.1 ?hm1 ?hb1 ?hz1 rfl rfl ?_)))
        case hm1 => simp only [maxLen]; omega
        case hb1 => omega
        case hz1 => exact H5.out.2.2.2.2
        intro u6 w6 own6 gr6 _
        have hln : (linesA d j).map Value.string ++ [.string (lineS x)] = (linesA d (j + 1)).map Value.string := lines_step d j x HXX.out
        rw [hln] at own6
        have H6 := hide (And.intro ((gr6.block _ H5.out.1.lt (fun e => owned_neN H5.out.2.1 H5.out.1 (by decide) e.symm)).trans H5.out.1) (And.intro own6 (And.intro (H5.out.2.2.1.grown gr6 H5.out.2.2.1.size (fun k hk => Nat.le_trans H2.out.2.size (owned_ltN H5.out.2.1 hk).1)) (Nat.le_trans H5.out.2.2.2.2 gr6.size))))
        clear own6 gr6 hln
        go_wp2_with fail
        go_roundw
        case rel => exact ⟨j + 1, u6, by omega, rfl, by go_num, H6.out.1, H6.out.2.1, H6.out.2.2.1, H6.out.2.2.2⟩
        case measure => simp [intOf]; omega
      · obtain rfl : j = d.2.1.length := by omega
        have HZ2 := hide (Nat.le_trans HI.out.2.2.1.size (Nat.le_refl _))
        go_wp2_with (first | ((with_reducible refine at_slot 30 ?_); (refine wpList_value (o := ⟨some 30, _, _, _, _, _⟩) rfl (.slice A2 d.2.2.length cap2) wo (exec_load_cell (o := ⟨some 30, _, _, _, _, _⟩) 32 (.tmp 29) rfl ⟨w.heap.size, 2, none⟩ rfl _ _ wo Try.underlying32 rfl (show wo.cell? ⟨w.heap.size, 2, none⟩ = some (.slice A2 d.2.2.length cap2) from HI.out.1.cell 2)) ?_)))
        refine (shown_any wo d.2.2 _ (HD.out.rcp9 HI.out.2.2.1) (by omega)).mono ?_
        rintro e w4 ⟨rfl, hb⟩
        dsimp only
        have hrs := run_small d.2.2 (by omega)
        have HRS := hide hrs
        have H34 := hide hb
        clear hb hrs
        go_wp2_with (first | ((with_reducible refine at_slot 32 ?_); (refine wpList_value (o := ⟨some 32, _, _, _, _, _⟩) rfl (.string (⟨#[114, 117, 110, 32]⟩ ++ ⟨(shownP d.2.2).toArray⟩)) w4 (exec_concat (o := ⟨some 32, _, _, _, _, _⟩) 9 (.const (.string ⟨#[114, 117, 110, 32]⟩)) (.tmp 31) 9 rfl (⟨#[114, 117, 110, 32]⟩) (⟨(shownP d.2.2).toArray⟩) rfl rfl HRS.out w4) ?_)) | ((with_reducible refine at_slot 33 ?_); (refine wpList_row1 (o := ⟨some 33, _, _, _, _, _⟩) rfl 101 (.tmp 32) rfl 9 1 (.string ⟨#[]⟩) _ rfl Try.underlying101 sz_str (by decide) (by decide) (fun w => by kernel_rfl) rfl ?_); intro w5 hn; have h45 := H34.out.trans (Below.mono hn.below H34.out.size); have H5 := hide (And.intro (HI.out.1.below h45 HI.out.1.lt) (And.intro (owned_keepN HI.out.2.1 fun g _ hl => h45.block g hl) (And.intro (HI.out.2.2.1.trans (Below.mono h45 HI.out.2.2.1.size)) (And.intro (show SrcN w5 1 (some ⟨w4.heap.size, 0, none⟩) 1 1 [.string (⟨#[114, 117, 110, 32]⟩ ++ ⟨(shownP d.2.2).toArray⟩)] from hn.src rfl (fun v hv => (by rw [List.mem_singleton.1 hv]; rfl))) (Nat.le_trans HI.out.2.2.2 h45.size))))); clear h45 hn; simp only [Act.put, List.setIfInBounds_toArray, List.set_cons_zero, List.set_cons_succ]) | (at_builtin; ((with_reducible refine at_slot 34 ?_); refine wpList_appS (o := ⟨some 34, _, _, _, _, _⟩) rfl _ _ 101 rfl w2.heap.size 9 istr _ 1 16 Try.underlying101 HK.out.1 HK.out.2.1 HK.out.2.2.1 HK.out.2.2.2 rfl (by decide) _ (d.2.1.length + 1) ((linesA d d.2.1.length).map Value.string) H5.out.2.1 (some ⟨w4.heap.size, 0, none⟩) 1 1 [.string (⟨#[114, 117, 110, 32]⟩ ++ ⟨(shownP d.2.2).toArray⟩)] H5.out.2.2.2.1 ?hm2 ?hb2 ?hz2 rfl rfl ?_)))
        case hm2 => simp only [maxLen]; omega
        case hb2 => omega
        case hz2 => exact H5.out.2.2.2.2
        intro u6 w6 own6 gr6 _
        have hln : (linesA d d.2.1.length).map Value.string ++ [.string (⟨#[114, 117, 110, 32]⟩ ++ ⟨(shownP d.2.2).toArray⟩)] = (linesP d).map Value.string := lines_end d
        rw [hln] at own6
        obtain ⟨g, cap6, rfl⟩ := owned_placeN own6 (by omega)
        have hlp : (linesP d).length = d.2.1.length + 1 + 1 := linesP_len d
        have hb6 : Below w.heap.size w w6 := H5.out.2.2.1.grown gr6 H5.out.2.2.1.size (fun k hk => Nat.le_trans H2.out.2.size (owned_ltN H5.out.2.1 hk).1)
        have hcells : ∀ (j : Nat) x, (linesP d)[j]? = some x → w6.cell? ⟨g, 0 + j, none⟩ = some (.string x) := by
          intro k x hk
          rw [Nat.zero_add]
          exact own_cellN own6 k _ (by rw [List.getElem?_map, hk]; rfl)
        have hgl := (owned_ltN own6 rfl).2
        have hjn := join_small HOK.out HC.out
        have hcp : (linesP d).length ≤ cap6 := by
          have := own_capN own6
          omega
        rw [show d.2.1.length + 1 + 1 = (linesP d).length from hlp.symm]
        have H6 := hide hb6
        have HJN := hide (join_cat hjn)
        have HJ := hide (And.intro hcells (And.intro hgl (And.intro (show (linesP d).length ≤ 140737488355328 by omega) (And.intro hcp (show (Lib.join ((linesP d).map (·.data.toList)) [10]).length ≤ 140737488355328 by omega)))))
        clear own6 gr6 hln hb6 hcells hgl hjn hcp hlp
        go_wp2_with fail
        refine (Try.strings_Join g 0 cap6 (linesP d) ⟨#[10]⟩ w6 HJ.out.1 HJ.out.2.1 HJ.out.2.2.1 HJ.out.2.2.2.1 HJ.out.2.2.2.2).mono ?_
        rintro e w7 ⟨rfl, hb⟩
        dsimp only
        have H7 := hide (H6.out.trans (Below.mono hb H6.out.size))
        clear hb
        by_cases hl : (2000 : Int) < ((textP d).size : Int)
        · have HE : Hid (putE d = 3) := hide (by unfold putE; rw [HC.out, if_pos rfl, if_pos (by omega)])
          go_wp2_with (first | ((with_reducible refine at_slot 36 ?_); (refine wpList_value (o := ⟨some 36, _, _, _, _, _⟩) rfl (.string (textP d)) w7 (exec_concat (o := ⟨some 36, _, _, _, _, _⟩) 9 (.tmp 35) (.const (.string ⟨#[10]⟩)) 9 rfl (⟨(Lib.join ((linesP d).map (·.data.toList)) [10]).toArray⟩) (⟨#[10]⟩) rfl rfl HJN.out w7) ?_)))
          refine bodyPost_ret (v := .tuple #[.slice none 0 0, .int .i64 3]) (by simp [results, Try.results45, go_sem]) rfl ?_
          exact ⟨_, by rw [HE.out], (fun h => absurd (HE.out.symm.trans h) (by decide)), H7.out⟩
        · have HE : Hid (putE d = 0) := hide (by unfold putE; rw [HC.out, if_pos rfl, if_neg (by omega)])
          go_wp2_with (first | ((with_reducible refine at_slot 36 ?_); (refine wpList_value (o := ⟨some 36, _, _, _, _, _⟩) rfl (.string (textP d)) w7 (exec_concat (o := ⟨some 36, _, _, _, _, _⟩) 9 (.tmp 35) (.const (.string ⟨#[10]⟩)) 9 rfl (⟨(Lib.join ((linesP d).map (·.data.toList)) [10]).toArray⟩) (⟨#[10]⟩) rfl rfl HJN.out w7) ?_)) | ((with_reducible refine at_slot 41 ?_); (with_reducible refine wpList_bytesOf (o := ⟨some 41, _, _, _, _, _⟩) rfl 9 32 5 (.tmp 40) rfl Try.underlying9 Try.underlying32 Try.underlying5 (textP d) rfl ?_); intro g8 k8 w8 ht8 hc8 hg8 hl8 hb8; have H8 := hide (And.intro ht8 (And.intro hc8 (And.intro hg8 (And.intro hl8 (H7.out.trans (Below.mono hb8 H7.out.size)))))); clear ht8 hc8 hg8 hl8 hb8; simp only [Act.put, List.setIfInBounds_toArray, List.set_cons_zero, List.set_cons_succ]))
          refine bodyPost_ret (v := .tuple #[.slice (some ⟨g8, 0, none⟩) (textP d).size k8, .int .i64 0]) (by simp [results, Try.results45, go_sem]) rfl ?_
          exact ⟨_, by rw [HE.out], (fun _ => ⟨g8, k8, rfl, H8.out.1, H8.out.2.1, Nat.le_trans H7.out.size H8.out.2.2.1, H8.out.2.2.2.1⟩), H8.out.2.2.2.2⟩
  · have hc' : CanP d = false := by simpa using hc
    have HE : Hid (putE d = 2) := hide (by unfold putE; rw [hc']; rfl)
    rw [hc']
    go_wp2_with fail
    refine bodyPost_ret (v := .tuple #[.slice none 0 0, .int .i64 2]) (by simp [results, Try.results45, go_sem]) rfl ?_
    exact ⟨_, by rw [HE.out], (fun h => absurd (HE.out.symm.trans h) (by decide)), H2.out.2⟩
end Go.Proofs.Ytidiepbmbbflhaa
end
section
namespace Go.Proofs.Ytidiepbmbbflhaa
open Go Go.RowKit Go.Maps
set_option maxRecDepth 100000
def itP (x : Itm) : Dr.It Hsh := ⟨x.1, clsP x.2.2.1, decide (putE x.2 = 0)⟩
/-- the classes that there are, and where -/
def kmap (l : List Itm) : List (Hsh × Nat) := l.zipIdx.map fun p => (p.1.1, p.2)
theorem kmap_keys (l : List Itm) : (kmap l).map (·.1) = Dr.css (l.map itP) := by
  unfold kmap Dr.css
  apply List.ext_getElem?
  intro i
  simp [itP]
  cases l[i]? <;> rfl
theorem kmap_len (l : List Itm) : (kmap l).length = l.length := by simp [kmap]
theorem kmap_step {l : List Itm} {j : Nat} {x : Itm} (h : l[j]? = some x) : kmap (l.take (j + 1)) = kmap (l.take j) ++ [(x.1, j)] := by
  have hj := (List.getElem?_eq_some_iff.1 h).1
  rw [List.take_add_one, h]
  unfold kmap
  rw [List.zipIdx_append, List.map_append, List.length_take, Nat.min_eq_left (by omega)]
  simp
theorem known_iff (l : List Itm) (c : Hsh) : (mget (kmap l) c).isSome = @List.contains Hsh instBEqOfDecidableEq (Dr.css (l.map itP)) c := by
  rw [Bool.eq_iff_iff, ← mem_keys, kmap_keys]
  simp
theorem rightA_app {H : Type} [DecidableEq H] (a b : List (Dr.It H)) : ∀ known : List H, Dr.rightA known (a ++ b) = (Dr.rightA known a && Dr.rightA (known ++ Dr.css a) b) := by
  induction a with
  | nil => intro known; simp [Dr.rightA, Dr.css]
  | cons x a ih =>
    intro known
    rw [List.cons_append, Dr.rightA, Dr.rightA, ih]
    simp [Dr.css, Bool.and_assoc]
theorem all_known (l : List Itm) (ks : List Hsh) : (ks.all fun c => (mget (kmap l) c).isSome) = ks.all fun c => @List.contains Hsh instBEqOfDecidableEq (Dr.css (l.map itP)) c := by
  congr 1
  funext c
  exact known_iff l c
theorem right_at {l : List Itm} {j : Nat} {x : Itm} (h : l[j]? = some x) : Dr.rightP (l.map itP) = (Dr.rightP ((l.take j).map itP) && (decide (putE x.2 = 0) && !(mget (kmap (l.take j)) x.1).isSome && ((clsP x.2.2.1).all fun c => (mget (kmap (l.take j)) c).isSome) && Dr.rightA (Dr.css ((l.take j).map itP) ++ [x.1]) ((l.drop (j + 1)).map itP))) := by
  have e : l = l.take j ++ x :: l.drop (j + 1) := by
    have hj := List.getElem?_eq_some_iff.1 h
    rw [← hj.2, List.getElem_cons_drop, List.take_append_drop]
  unfold Dr.rightP
  conv => lhs; rw [e, List.map_append, rightA_app, List.nil_append, List.map_cons, Dr.rightA]
  rw [all_known, known_iff]
  rfl
theorem right_no {l : List Itm} {j : Nat} {x : Itm} (h : l[j]? = some x) (hw : ¬ putE x.2 = 0 ∨ (mget (kmap (l.take j)) x.1).isSome = true ∨ ((clsP x.2.2.1).all fun c => (mget (kmap (l.take j)) c).isSome) = false) : Dr.rightP (l.map itP) = false := by
  rw [right_at h]
  rcases hw with hw | hw | hw
  · simp [hw]
  · simp [hw]
  · rw [hw]; simp
theorem right_yes {l : List Itm} {j : Nat} {x : Itm} (h : l[j]? = some x) (hr : Dr.rightP ((l.take j).map itP) = true) (h1 : putE x.2 = 0) (h2 : (mget (kmap (l.take j)) x.1).isSome = false) (h3 : ((clsP x.2.2.1).all fun c => (mget (kmap (l.take j)) c).isSome) = true) : Dr.rightP ((l.take (j + 1)).map itP) = true := by
  have hj := (List.getElem?_eq_some_iff.1 h).1
  have h9 : (l.take (j + 1))[j]? = some x := by rw [List.getElem?_take_of_lt (by omega)]; exact h
  rw [right_at h9, List.take_take, Nat.min_eq_left (by omega), hr, h1, h2, h3]
  rw [List.drop_of_length_le (by rw [List.length_take]; omega)]
  rfl
/-- how far a table is laid -/
structure OfSt (wr w : World) (mb : Nat) (A : Option Addr) (cap : Nat) (l : List Itm) (j : Nat) : Prop where
  tbl : Blk wr w.heap.size 79 #[.map (some mb), .slice A l.length cap]
  map_ : MapIs hV okH evN wr mb (kmap (l.take j))
  ne : w.heap.size < mb
  right : Dr.rightP ((l.take j).map itP) = true
  below : Below w.heap.size w wr
theorem OfSt.grow {wr w w' : World} {mb : Nat} {A : Option Addr} {cap : Nat} {l : List Itm} {j : Nat} (h : OfSt wr w mb A cap l j) (hb : Below wr.heap.size wr w') : OfSt w' w mb A cap l j :=
  ⟨h.tbl.below hb h.tbl.lt, h.map_.below hb h.map_.lt, h.ne, h.right, h.below.trans (Below.mono hb h.below.size)⟩
theorem OfSt.put {wr w w' : World} {mb : Nat} {A : Option Addr} {cap : Nat} {l : List Itm} {j : Nat} {x : Itm} (h : OfSt wr w mb A cap l j) (hx : l[j]? = some x) (hkn : (mget (kmap (l.take j)) x.1).isSome = false)
    (hm : MapIs hV okH evN w' mb (mput (kmap (l.take j)) x.1 j)) (ht : Turn1 wr w' mb) (hr : Dr.rightP ((l.take (j + 1)).map itP) = true) : OfSt w' w mb A cap l (j + 1) := by
  refine ⟨(ht.2.1 _ (by have := h.ne; omega)).trans h.tbl, ?_, h.ne, hr, h.below.grown ht.grown h.below.size fun k hk => ?_⟩
  · rw [kmap_step hx, ← mput_new (by cases e : mget (kmap (l.take j)) x.1 with | none => rfl | some v => rw [e] at hkn; cases hkn)]
    exact hm
  · have hk := Option.some.inj hk
    have := h.ne
    omega
theorem of_start {w w1 w3 : World} {A : Option Addr} {cap : Nat} {l : List Itm} (hn : New1 w w1 79 #[.map none, .slice none 0 0]) (hk : Blk w3 w.heap.size 79 #[.map (some w1.heap.size), .slice A l.length cap]) (hg : (w1.alloc (.map #[] 0)).grownBy w3 (some w.heap.size)) : OfSt w3 w w1.heap.size A cap l 0 := by
  have h2 : Below w.heap.size w (w1.alloc (.map #[] 0)) := hn.below.alloc hn.below.size _
  have hm : MapIs hV okH evN (w1.alloc (.map #[] 0)) w1.heap.size (kmap (l.take 0)) := mapIs_new w1
  exact ⟨hk, hm.of_eq (hg.block _ hm.lt (fun e => by have e := Option.some.inj e; have := hn.size; omega)), by have := hn.size; omega, rfl, h2.grown hg h2.size fun k hk => by have := Option.some.inj hk; omega⟩
/-- a row of one hash that was made; a row of hashes of one's own -/
def OneH (h : Hsh) (u : Value) (w : World) : Prop := ∃ r, u = .slice (some ⟨r, 0, none⟩) 1 1 ∧ Blk w r 27 (bv h).toArray
def OwnHs (l : List Hsh) (u : Value) (w : World) : Prop := ∃ B, w.ownsRow B 27 20 u l.length (l.flatMap bv)
theorem oneH_ok (h : Hsh) : Fre.MadeOk Bel (OneH h) := ⟨fun u w w' ⟨r, h1, h2⟩ hx => ⟨r, h1, h2.below hx h2.lt⟩⟩
theorem ownHs_ok (l : List Hsh) : Fre.MadeOk Bel (OwnHs l) := ⟨fun u w w' ⟨B, h⟩ hx => ⟨B, owned_keepN h fun g _ hl => Below.block hx g hl⟩⟩
theorem OneH.at_ {h : Hsh} {u : Value} {w : World} (hu : OneH h u w) (hh : okH h) : hashesLay.At w w.heap.size [u] [h] := by
  obtain ⟨r, rfl, hb⟩ := hu
  exact ⟨_, 1, rfl, Nat.le_refl _, by decide, (fun e => by cases e), fun _ => ⟨r, 0, rfl, hb.lt, fun j x hx => by
    match j, hx with
    | 0, hx =>
      injection hx with hx
      subst hx
      exact ⟨bv h, by have h1 := rangeAt_blk hb; simpa using h1, hashLay_at.2 ⟨rfl, hh⟩⟩
    | j + 1, hx => simp at hx⟩⟩
theorem OwnHs.at_ {l : List Hsh} {u : Value} {w : World} (hu : OwnHs l u w) (hh : ∀ h ∈ l, okH h) : hashesLay.At w w.heap.size [u] l := by
  obtain ⟨B, h⟩ := hu
  exact own_slice (L := hashLay) (f := bv) (by decide) h _ (Nat.le_refl _) fun x hx => hashLay_at.2 ⟨rfl, hh x hx⟩
theorem one_new {ρ : Operand → Value} {o : Oper} (x : Operand) (ho : o.op = .buildSlice 45 1 #[(0, x)]) {h : Hsh} (hh : okH h) (hx : ρ x = .agg (bv h).toArray) (W : World) :
    ∃ u w', (execOp ρ o).run Try.prog W = .ok (.value u) w' ∧ Fre.Ext Bel W w' ∧ OneH h u w' :=
  ⟨_, _, exec_buildSliceP (v := .agg (bv h).toArray) 45 x ho hx Try.underlying45 sz_hash (by omega) (by omega) (z := .agg zcH) (fun w => by kernel_rfl) (by rw [Value.cells, List.size_toArray, bvL]; exact hh) W, (Below.refl _ W).alloc (Nat.le_refl _) _, _, rfl, Blk.new _ _ _⟩
theorem all_one (m : List (Hsh × Nat)) (h : Hsh) : ([h].all fun c => (mget m c).isSome) = (mget m h).isSome := by simp
theorem cls_sub : ∀ (l : List Nam) (out : List Hsh) (c : Hsh), c ∈ l.foldl (fun out x => if x.2.2.2 = true ∧ x.2.2.1 ∉ out then out ++ [x.2.2.1] else out) out → c ∈ out ∨ ∃ x ∈ l, x.2.2.1 = c
  | [], out, c, h => .inl h
  | x :: l, out, c, h => by
    rcases cls_sub l _ c h with h | ⟨y, hy, e⟩
    · dsimp only at h
      split at h
      · rcases List.mem_append.1 h with h | h
        · exact .inl h
        · exact .inr ⟨x, List.mem_cons_self .., (List.mem_singleton.1 h).symm⟩
      · exact .inl h
    · exact .inr ⟨y, List.mem_cons_of_mem _ hy, e⟩
theorem cls_ok {l : List Nam} (h : ∀ x ∈ l, okN x) : ∀ c ∈ clsP l, okH c := fun c hc => by
  rcases cls_sub l [] c hc with h1 | ⟨x, hx, rfl⟩
  · cases h1
  · exact (h x hx).2.2
def OfPost (w : World) (A : Option Addr) (cap : Nat) (l : List Itm) (w' : World) (e : Ending) : Prop :=
  ∃ mb, e = .returned (.tuple #[.agg #[.map (some mb), .slice A l.length cap], .bool (Dr.rightP (l.map itP))]) ∧ (Dr.rightP (l.map itP) = true → w.heap.size < mb ∧ MapIs hV okH evN w' mb (kmap l)) ∧ Below w.heap.size w w'
set_option maxHeartbeats 8000000 in
theorem tabOf_any (w : World) (l : List Itm) (A : Option Addr) (cap : Nat) (h : itmsLay.At w w.heap.size [.slice A l.length cap] l) (hl : ∀ x ∈ l, x.2.2.1.length ≤ 1000000) :
    Calls Try.prog 41 #[.slice A l.length cap] w fun e w' => OfPost w A cap l w' e := by
  obtain ⟨A', cap', e, hcl, hcm, _, hA⟩ := slice_open h
  injection e with e1 e2 e3
  subst e1 e3
  have k9 : (l.length : Int) ≤ 9223372036854775807 := by simp only [maxLen] at hcm; omega
  have HA := hide hA
  clear hA h hcl hcm e2
  have hmm := @run_makeMap Try.prog
  go_enter Try.func41, Try.ntmps41
  go_wp2_with (first | ((with_reducible refine at_slot 2 ?_); (refine wpList_newZ (o := ⟨some 2, _, _, _, _, _⟩) rfl 79 #[.map none, .slice none 0 0] (by kernel_rfl) ?_); intro w1 hn; have HN1 := hide hn; clear hn; simp only [Act.put, List.setIfInBounds_toArray, List.set_cons_zero, List.set_cons_succ]) | ((with_reducible refine at_slot 10 ?_); (refine wpList_value (o := ⟨some 10, _, _, _, _, _⟩) rfl (.agg #[.map (some w1.heap.size), .slice A l.length cap]) (w1.alloc (.map #[] 0)) (by kernel_rfl) ?_)) | ((with_reducible refine at_store 2 10 ?_); (with_reducible refine wpList_store_blkA (o := ⟨none, _, _, _, _, _⟩) rfl 79 (.tmp 2) (.tmp 10) rfl w.heap.size #[.map none, .slice none 0 0] #[.map (some w1.heap.size), .slice A l.length cap] 79 (HN1.out.blk.alloc _) ?_ ?_ ?_ ?_ ?_ ?_); kernel_rfl; rfl; kernel_rfl; rfl; rfl; intro w3 hk3 hg3; have hst0 : OfSt w3 w w1.heap.size A cap l 0 := of_start HN1.out hk3 hg3; have HS := hide hst0; clear hk3 hg3 hst0; simp only [Act.put, List.setIfInBounds_toArray, List.set_cons_zero, List.set_cons_succ]))
  obtain ⟨mb, hmb⟩ : ∃ mb, mb = w1.heap.size := ⟨_, rfl⟩
  rw [← hmb] at HS ⊢
  clear hmb hmm
  go_loopw [13] (fun y wr => ∃ j : Nat, j ≤ l.length ∧ y = .int .i64 (j : Int) ∧ OfSt wr w mb A cap l j) (fun y _ => l.length - (intOf y).toNat)
  case atStart => exact ⟨0, by omega, rfl, HS.out⟩
  case round =>
    obtain ⟨wo, rfl⟩ : ∃ wo, wo = wr := ⟨_, rfl⟩
    obtain ⟨j, hj, rfl, hst⟩ := hrel
    have HI := hide hst
    clear hst
    have j0 : (0 : Int) ≤ (j : Int) := by omega
    by_cases hj2 : j < l.length
    · have j1 : (j : Int) < (l.length : Int) := by omega
      obtain ⟨x, hx⟩ : ∃ x, l[j]? = some x := ⟨_, List.getElem?_eq_getElem hj2⟩
      obtain ⟨b, off, rfl, hlb, hE⟩ := HA.out (by omega)
      obtain ⟨cs, hr, hatx⟩ := hE j x hx
      obtain ⟨q1, q2, rfl, hxo, hxd⟩ := itmLay_at.1 hatx
      obtain ⟨B1, k1, rfl, _⟩ := slice_open hxd.ins
      obtain ⟨B2, k2, rfl, _⟩ := slice_open hxd.rcp
      obtain ⟨q1, hq1⟩ : ∃ q1, q1 = Value.slice B1 x.2.2.1.length k1 := ⟨_, rfl⟩
      obtain ⟨q2, hq2⟩ : ∃ q2, q2 = Value.slice B2 x.2.2.2.length k2 := ⟨_, rfl⟩
      have hone1 : q1.oneCell' = true ∧ q2.oneCell' = true := by rw [hq1, hq2]; exact ⟨rfl, rfl⟩
      rw [← hq1, ← hq2] at hr hatx
      rw [← hq1, ← hq2] at hxd
      have hbnd := hl x (List.mem_of_getElem? hx)
      have HX := hide (And.intro (rangeAt_same hr (HI.out.below.block b (by omega))) (And.intro hxo hxd))
      have HXX := hide hx
      have hszt2 : (Try.prog.info? 43).map (·.size) = some (tC x q1 q2).toArray.size := by rw [show (tC x q1 q2).toArray.size = 23 by rw [List.size_toArray]; exact tC_len hxo]; kernel_rfl
      have hszt : (Try.prog.info? 43).map (·.size) = some (tC x q1 q2).length := by simpa using hszt2
      have hszzt : zcT.size = (tC x q1 q2).toArray.size := by rw [show (tC x q1 q2).toArray.size = 23 by rw [List.size_toArray]; exact tC_len hxo]; kernel_rfl
      have honet : (tC x q1 q2).toArray.all (·.oneCell') = true := all_oneCell_toArray (tC_one x hone1.1 hone1.2)
      have hszx : (Try.prog.info? 27).map (·.size) = some (bv x.1).length := by have := hszD hxo; simpa using this
      clear hx hE hr hatx hxo hxd hq1 hq2
      go_wp2_with (first | ((with_reducible refine at_slot 16 ?_); (refine wpList_value (o := ⟨some 16, _, _, _, _, _⟩) rfl (.pointer (some ⟨b, off + (j : Int).toNat * 23, none⟩)) wo (exec_index_off (o := ⟨some 16, _, _, _, _, _⟩) 25 43 (.tmp 11) (.tmp 13) rfl b off l.length cap (j : Int) .i64 rfl rfl ⟨j0, j1⟩ 23 Try.underlying25 sz_itm wo) ?_; rw [show off + (j : Int).toNat * 23 = off + j * 23 by omega])) | ((with_reducible refine at_slot 17 ?_); (refine wpList_value (o := ⟨some 17, _, _, _, _, _⟩) rfl (.agg (tC x q1 q2).toArray) wo (exec_load_mid (o := ⟨some 17, _, _, _, _, _⟩) 43 (.tmp 16) rfl b (off + j * 23) rfl (tC x q1 q2) _ wo HX.out.1 Try.underlying43 rfl hszt) ?_)) | ((with_reducible refine at_slot 5 ?_); (refine wpList_newZ (o := ⟨some 5, _, _, _, _, _⟩) rfl 43 zcT (by kernel_rfl) ?_); intro w3 hn; have H3 := hide hn; clear hn; simp only [Act.put, List.setIfInBounds_toArray, List.set_cons_zero, List.set_cons_succ]) | ((with_reducible refine at_store 5 17 ?_); (with_reducible refine wpList_store_blkA (o := ⟨none, _, _, _, _, _⟩) rfl 43 (.tmp 5) (.tmp 17) rfl wo.heap.size zcT (tC x q1 q2).toArray 43 H3.out.blk ?_ ?_ ?_ ?_ ?_ ?_); exact hszt2; exact hszzt; exact honet; rfl; rfl; intro w4 hk4 hg4; have h34 : Below wo.heap.size wo w4 := (H3.out.below.grown hg4 (by have := H3.out.size; omega) (fun b hb => (by injection hb with hb; omega))); have H4 := hide (And.intro hk4 h34); clear hk4 hg4 h34; simp only [Act.put, List.setIfInBounds_toArray, List.set_cons_zero, List.set_cons_succ]) | ((with_reducible refine at_slot 20 ?_); (refine wpList_value (o := ⟨some 20, _, _, _, _, _⟩) rfl (.agg (dC x.2 q1 q2).toArray) w4 (exec_load_mid (o := ⟨some 20, _, _, _, _, _⟩) 34 (.tmp 19) rfl wo.heap.size (20) rfl (dC x.2 q1 q2) _ w4 (item_drv HX.out.2.1 H4.out.1) Try.underlying34 rfl (by kernel_rfl)) ?_)))
      have hat4 : DrvAt w4 w4.heap.size x.2 q1 q2 := (HX.out.2.2.alike fun b hb => (H4.out.2.block b (by have := HI.out.below.size; omega)).trans (HI.out.below.block b hb)).widen (by have := HI.out.below.size; have := H4.out.2.size; omega)
      refine (put_any w4 x.2 q1 q2 hat4).mono ?_
      rintro e w5 ⟨pv, rfl, _, hb⟩
      dsimp only
      have h45 := H4.out.2.trans (Below.mono hb H4.out.2.size)
      have H5 := hide (And.intro (H4.out.1.below hb H4.out.1.lt) (And.intro (HI.out.grow h45) (And.intro h45 (hat4.alike9 hb))))
      clear hb h45 hat4
      obtain ⟨pe, hpe⟩ : ∃ pe, pe = putE x.2 := ⟨_, rfl⟩
      rw [← hpe]
      have HPE := hide hpe
      clear hpe
      by_cases he : pe = 0
      · subst he
        cases hkn : (mget (kmap (l.take j)) x.1).isSome
        · have HKN := hide hkn
          clear hkn
          cases hal : (clsP x.2.2.1).all fun c => (mget (kmap (l.take j)) c).isSome
          · have HAL := hide hal
            clear hal
            have HX9 : Hid (∀ W, Fre.Ext Bel w5 W → DrvAt W W.heap.size x.2 q1 q2) := hide fun W hW => H5.out.2.2.2.alike9 hW
            have HNR : Hid (Dr.rightP (l.map itP) = false) := hide (right_no HXX.out (by exact .inr (.inr HAL.out)))
            go_wp2_with fail
            refine Fre.wp_made (X := Bel) 18 [(31, OneH x.1), (39, OwnHs (clsP x.2.2.1))] (by kernel_rfl) (by kernel_rfl) (by intro p hp; simp only [List.mem_cons, List.not_mem_nil, or_false] at hp; rcases hp with rfl | rfl; exact oneH_ok _; exact ownHs_ok _) (by simp) (by simp) ?_
            simp only [List.take_succ_cons, List.take_zero, List.drop_succ_cons, List.drop_zero]
            refine Fre.made_val (.int .i64 0) (by kernel_rfl) (by kernel_rfl) (by kernel_rfl) (fun _ _ => by kernel_rfl) ?_
            simp only [Act.put, List.setIfInBounds_toArray, List.set_cons_zero, List.set_cons_succ]
            refine Fre.made_val (.bool false) (by kernel_rfl) (by kernel_rfl) (by kernel_rfl) (fun _ _ => by kernel_rfl) ?_
            simp only [Act.put, List.setIfInBounds_toArray, List.set_cons_zero, List.set_cons_succ]
            refine Fre.made_val (.bool false) (by kernel_rfl) (by kernel_rfl) (by kernel_rfl) (fun _ _ => by kernel_rfl) ?_
            simp only [Act.put, List.setIfInBounds_toArray, List.set_cons_zero, List.set_cons_succ]
            refine Fre.made_val (.pointer (some ⟨w.heap.size, 0, none⟩)) (by kernel_rfl) (by kernel_rfl) (by kernel_rfl) (fun _ _ => by kernel_rfl) ?_
            simp only [Act.put, List.setIfInBounds_toArray, List.set_cons_zero, List.set_cons_succ]
            refine Fre.made_val (.map (some mb)) (by kernel_rfl) (by kernel_rfl) (by kernel_rfl) (fun W9 hW9 => exec_load_cell (o := ⟨some 28, _, _, _, _, _⟩) 77 (.tmp 27) rfl ⟨w.heap.size, 0, none⟩ rfl _ _ W9 Try.underlying77 rfl ((H5.out.2.1.grow hW9).tbl.cell 0)) ?_
            simp only [Act.put, List.setIfInBounds_toArray, List.set_cons_zero, List.set_cons_succ]
            refine Fre.made_val (.pointer (some ⟨wo.heap.size, 0, none⟩)) (by kernel_rfl) (by kernel_rfl) (by kernel_rfl) (fun _ _ => by kernel_rfl) ?_
            simp only [Act.put, List.setIfInBounds_toArray, List.set_cons_zero, List.set_cons_succ]
            refine Fre.made_val (.agg (bv x.1).toArray) (by kernel_rfl) (by kernel_rfl) (by kernel_rfl) (fun W9 hW9 => exec_load_mid (o := ⟨some 30, _, _, _, _, _⟩) 27 (.tmp 29) rfl wo.heap.size (0) rfl (bv x.1) _ W9 (item_cls HX.out.2.1 (H5.out.1.below hW9 H5.out.1.lt)) Try.underlying27 rfl hszx) ?_
            simp only [Act.put, List.setIfInBounds_toArray, List.set_cons_zero, List.set_cons_succ]
            refine Fre.made_new 31 _ (by kernel_rfl) (by kernel_rfl) rfl rfl (fun W hW => one_new (o := ⟨some 31, _, _, _, _, _⟩) (.tmp 30) rfl HX.out.2.1 rfl W) ?_
            simp only [Act.put, List.setIfInBounds_toArray, List.set_cons_zero, List.set_cons_succ]
            refine Fre.made_call1 31 _ (.bool false) 43 (fun u => #[.map (some mb), u]) (by kernel_rfl) rfl (by kernel_rfl) (by kernel_rfl) (fun u W => by kernel_rfl) (fun u W hW hu => ?hc32) ?_
            case hc32 =>
              have h := all_any W mb _ (H5.out.2.1.grow hW).map_ [x.1] u (hu.at_ HX.out.2.1)
              rw [all_one] at h
              rw [HKN.out] at h
              exact h
            simp only [Act.put, List.setIfInBounds_toArray, List.set_cons_zero, List.set_cons_succ]
            refine Fre.made_val (.bool false) (by kernel_rfl) (by kernel_rfl) (by kernel_rfl) (fun _ _ => by kernel_rfl) ?_
            simp only [Act.put, List.setIfInBounds_toArray, List.set_cons_zero, List.set_cons_succ]
            refine Fre.made_val (.bool false) (by kernel_rfl) (by kernel_rfl) (by kernel_rfl) (fun _ _ => by kernel_rfl) ?_
            simp only [Act.put, List.setIfInBounds_toArray, List.set_cons_zero, List.set_cons_succ]
            refine Fre.made_val (.pointer (some ⟨w.heap.size, 0, none⟩)) (by kernel_rfl) (by kernel_rfl) (by kernel_rfl) (fun _ _ => by kernel_rfl) ?_
            simp only [Act.put, List.setIfInBounds_toArray, List.set_cons_zero, List.set_cons_succ]
            refine Fre.made_val (.map (some mb)) (by kernel_rfl) (by kernel_rfl) (by kernel_rfl) (fun W9 hW9 => exec_load_cell (o := ⟨some 36, _, _, _, _, _⟩) 77 (.tmp 35) rfl ⟨w.heap.size, 0, none⟩ rfl _ _ W9 Try.underlying77 rfl ((H5.out.2.1.grow hW9).tbl.cell 0)) ?_
            simp only [Act.put, List.setIfInBounds_toArray, List.set_cons_zero, List.set_cons_succ]
            refine Fre.made_val (.pointer (some ⟨wo.heap.size, 20, none⟩)) (by kernel_rfl) (by kernel_rfl) (by kernel_rfl) (fun _ _ => by kernel_rfl) ?_
            simp only [Act.put, List.setIfInBounds_toArray, List.set_cons_zero, List.set_cons_succ]
            refine Fre.made_val (.agg (dC x.2 q1 q2).toArray) (by kernel_rfl) (by kernel_rfl) (by kernel_rfl) (fun W9 hW9 => exec_load_mid (o := ⟨some 38, _, _, _, _, _⟩) 34 (.tmp 37) rfl wo.heap.size (20) rfl (dC x.2 q1 q2) _ W9 (item_drv HX.out.2.1 (H5.out.1.below hW9 H5.out.1.lt)) Try.underlying34 rfl (by kernel_rfl)) ?_
            simp only [Act.put, List.setIfInBounds_toArray, List.set_cons_zero, List.set_cons_succ]
            refine Fre.made_newcall 39 _ 34 #[.agg (dC x.2 q1 q2).toArray] (by kernel_rfl) (by kernel_rfl) rfl rfl (fun W => by kernel_rfl) (fun W hW => (classes_any W x.2 q1 q2 (HX9.out W hW) hbnd).mono (fun e w' ⟨u, h1, h2, h3⟩ => ⟨u, h1, h3, _, h2⟩)) ?_
            simp only [Act.put, List.setIfInBounds_toArray, List.set_cons_zero, List.set_cons_succ]
            refine Fre.made_call1 39 _ (.bool false) 43 (fun u => #[.map (some mb), u]) (by kernel_rfl) rfl (by kernel_rfl) (by kernel_rfl) (fun u W => by kernel_rfl) (fun u W hW hu => ?hc40) ?_
            case hc40 =>
              have h := all_any W mb _ (H5.out.2.1.grow hW).map_ (clsP x.2.2.1) u (hu.at_ (cls_ok HX.out.2.2.okn))
              rw [HAL.out] at h
              exact h
            simp only [Act.put, List.setIfInBounds_toArray, List.set_cons_zero, List.set_cons_succ]
            refine Fre.made_val (.bool true) (by kernel_rfl) (by kernel_rfl) (by kernel_rfl) (fun _ _ => by kernel_rfl) ?_
            simp only [Act.put, List.setIfInBounds_toArray, List.set_cons_zero, List.set_cons_succ]
            intro w6 hx6
            have H6 := hide (And.intro (H5.out.1.below hx6 H5.out.1.lt) (And.intro (H5.out.2.1.grow hx6) (H5.out.2.2.1.trans (Below.mono hx6 H5.out.2.2.1.size))))
            clear hx6
            dsimp only [Fre.ended, List.drop]
            rintro u31 _ u39 _
            go_wp2_with (first | ((with_reducible refine at_slot 43 ?_); (refine wpList_value (o := ⟨some 43, _, _, _, _, _⟩) rfl (.agg #[.map (some mb), .slice (some ⟨b, off, none⟩) l.length cap]) w6 (exec_load_blk (o := ⟨some 43, _, _, _, _, _⟩) 79 (.tmp 2) rfl w.heap.size rfl 79 _ _ w6 H6.out.2.1.tbl Try.underlying79 rfl (by kernel_rfl)) ?_)) | ((with_reducible refine at_store 2 43 ?_); (with_reducible refine wpList_store_blkA (o := ⟨none, _, _, _, _, _⟩) rfl 79 (.tmp 2) (.tmp 43) rfl w.heap.size #[.map (some mb), .slice (some ⟨b, off, none⟩) l.length cap] #[.map (some mb), .slice (some ⟨b, off, none⟩) l.length cap] 79 H6.out.2.1.tbl ?_ ?_ ?_ ?_ ?_ ?_); kernel_rfl; rfl; kernel_rfl; rfl; rfl; intro w7 hk7 hg7; have hb7 : Below w.heap.size w w7 := (H6.out.2.1.below.grown hg7 H6.out.2.1.below.size (fun b hb => (by injection hb with hb; omega))); have H7 := hide (And.intro hk7 hb7); clear hk7 hg7 hb7; simp only [Act.put, List.setIfInBounds_toArray, List.set_cons_zero, List.set_cons_succ]))
            refine bodyPost_ret (results_cell_tmp rfl _ _ w.heap.size 79 #[.map (some mb), .slice (some ⟨b, off, none⟩) l.length cap] (0, 0) _ rfl H7.out.1 Try.underlying79 rfl (by kernel_rfl)) rfl ?_
            exact ⟨mb, by rw [HNR.out]; rfl, (fun h => absurd (HNR.out.symm.trans h) (by decide)), H7.out.2⟩
          · have HAL := hide hal
            clear hal
            have HX9 : Hid (∀ W, Fre.Ext Bel w5 W → DrvAt W W.heap.size x.2 q1 q2) := hide fun W hW => H5.out.2.2.2.alike9 hW
            have HR9 := hide (right_yes HXX.out HI.out.right HPE.out.symm HKN.out HAL.out)
            go_wp2_with fail
            refine Fre.wp_made (X := Bel) 18 [(31, OneH x.1), (39, OwnHs (clsP x.2.2.1))] (by kernel_rfl) (by kernel_rfl) (by intro p hp; simp only [List.mem_cons, List.not_mem_nil, or_false] at hp; rcases hp with rfl | rfl; exact oneH_ok _; exact ownHs_ok _) (by simp) (by simp) ?_
            simp only [List.take_succ_cons, List.take_zero, List.drop_succ_cons, List.drop_zero]
            refine Fre.made_val (.int .i64 0) (by kernel_rfl) (by kernel_rfl) (by kernel_rfl) (fun _ _ => by kernel_rfl) ?_
            simp only [Act.put, List.setIfInBounds_toArray, List.set_cons_zero, List.set_cons_succ]
            refine Fre.made_val (.bool false) (by kernel_rfl) (by kernel_rfl) (by kernel_rfl) (fun _ _ => by kernel_rfl) ?_
            simp only [Act.put, List.setIfInBounds_toArray, List.set_cons_zero, List.set_cons_succ]
            refine Fre.made_val (.bool false) (by kernel_rfl) (by kernel_rfl) (by kernel_rfl) (fun _ _ => by kernel_rfl) ?_
            simp only [Act.put, List.setIfInBounds_toArray, List.set_cons_zero, List.set_cons_succ]
            refine Fre.made_val (.pointer (some ⟨w.heap.size, 0, none⟩)) (by kernel_rfl) (by kernel_rfl) (by kernel_rfl) (fun _ _ => by kernel_rfl) ?_
            simp only [Act.put, List.setIfInBounds_toArray, List.set_cons_zero, List.set_cons_succ]
            refine Fre.made_val (.map (some mb)) (by kernel_rfl) (by kernel_rfl) (by kernel_rfl) (fun W9 hW9 => exec_load_cell (o := ⟨some 28, _, _, _, _, _⟩) 77 (.tmp 27) rfl ⟨w.heap.size, 0, none⟩ rfl _ _ W9 Try.underlying77 rfl ((H5.out.2.1.grow hW9).tbl.cell 0)) ?_
            simp only [Act.put, List.setIfInBounds_toArray, List.set_cons_zero, List.set_cons_succ]
            refine Fre.made_val (.pointer (some ⟨wo.heap.size, 0, none⟩)) (by kernel_rfl) (by kernel_rfl) (by kernel_rfl) (fun _ _ => by kernel_rfl) ?_
            simp only [Act.put, List.setIfInBounds_toArray, List.set_cons_zero, List.set_cons_succ]
            refine Fre.made_val (.agg (bv x.1).toArray) (by kernel_rfl) (by kernel_rfl) (by kernel_rfl) (fun W9 hW9 => exec_load_mid (o := ⟨some 30, _, _, _, _, _⟩) 27 (.tmp 29) rfl wo.heap.size (0) rfl (bv x.1) _ W9 (item_cls HX.out.2.1 (H5.out.1.below hW9 H5.out.1.lt)) Try.underlying27 rfl hszx) ?_
            simp only [Act.put, List.setIfInBounds_toArray, List.set_cons_zero, List.set_cons_succ]
            refine Fre.made_new 31 _ (by kernel_rfl) (by kernel_rfl) rfl rfl (fun W hW => one_new (o := ⟨some 31, _, _, _, _, _⟩) (.tmp 30) rfl HX.out.2.1 rfl W) ?_
            simp only [Act.put, List.setIfInBounds_toArray, List.set_cons_zero, List.set_cons_succ]
            refine Fre.made_call1 31 _ (.bool false) 43 (fun u => #[.map (some mb), u]) (by kernel_rfl) rfl (by kernel_rfl) (by kernel_rfl) (fun u W => by kernel_rfl) (fun u W hW hu => ?hc32) ?_
            case hc32 =>
              have h := all_any W mb _ (H5.out.2.1.grow hW).map_ [x.1] u (hu.at_ HX.out.2.1)
              rw [all_one] at h
              rw [HKN.out] at h
              exact h
            simp only [Act.put, List.setIfInBounds_toArray, List.set_cons_zero, List.set_cons_succ]
            refine Fre.made_val (.bool false) (by kernel_rfl) (by kernel_rfl) (by kernel_rfl) (fun _ _ => by kernel_rfl) ?_
            simp only [Act.put, List.setIfInBounds_toArray, List.set_cons_zero, List.set_cons_succ]
            refine Fre.made_val (.bool false) (by kernel_rfl) (by kernel_rfl) (by kernel_rfl) (fun _ _ => by kernel_rfl) ?_
            simp only [Act.put, List.setIfInBounds_toArray, List.set_cons_zero, List.set_cons_succ]
            refine Fre.made_val (.pointer (some ⟨w.heap.size, 0, none⟩)) (by kernel_rfl) (by kernel_rfl) (by kernel_rfl) (fun _ _ => by kernel_rfl) ?_
            simp only [Act.put, List.setIfInBounds_toArray, List.set_cons_zero, List.set_cons_succ]
            refine Fre.made_val (.map (some mb)) (by kernel_rfl) (by kernel_rfl) (by kernel_rfl) (fun W9 hW9 => exec_load_cell (o := ⟨some 36, _, _, _, _, _⟩) 77 (.tmp 35) rfl ⟨w.heap.size, 0, none⟩ rfl _ _ W9 Try.underlying77 rfl ((H5.out.2.1.grow hW9).tbl.cell 0)) ?_
            simp only [Act.put, List.setIfInBounds_toArray, List.set_cons_zero, List.set_cons_succ]
            refine Fre.made_val (.pointer (some ⟨wo.heap.size, 20, none⟩)) (by kernel_rfl) (by kernel_rfl) (by kernel_rfl) (fun _ _ => by kernel_rfl) ?_
            simp only [Act.put, List.setIfInBounds_toArray, List.set_cons_zero, List.set_cons_succ]
            refine Fre.made_val (.agg (dC x.2 q1 q2).toArray) (by kernel_rfl) (by kernel_rfl) (by kernel_rfl) (fun W9 hW9 => exec_load_mid (o := ⟨some 38, _, _, _, _, _⟩) 34 (.tmp 37) rfl wo.heap.size (20) rfl (dC x.2 q1 q2) _ W9 (item_drv HX.out.2.1 (H5.out.1.below hW9 H5.out.1.lt)) Try.underlying34 rfl (by kernel_rfl)) ?_
            simp only [Act.put, List.setIfInBounds_toArray, List.set_cons_zero, List.set_cons_succ]
            refine Fre.made_newcall 39 _ 34 #[.agg (dC x.2 q1 q2).toArray] (by kernel_rfl) (by kernel_rfl) rfl rfl (fun W => by kernel_rfl) (fun W hW => (classes_any W x.2 q1 q2 (HX9.out W hW) hbnd).mono (fun e w' ⟨u, h1, h2, h3⟩ => ⟨u, h1, h3, _, h2⟩)) ?_
            simp only [Act.put, List.setIfInBounds_toArray, List.set_cons_zero, List.set_cons_succ]
            refine Fre.made_call1 39 _ (.bool true) 43 (fun u => #[.map (some mb), u]) (by kernel_rfl) rfl (by kernel_rfl) (by kernel_rfl) (fun u W => by kernel_rfl) (fun u W hW hu => ?hc40) ?_
            case hc40 =>
              have h := all_any W mb _ (H5.out.2.1.grow hW).map_ (clsP x.2.2.1) u (hu.at_ (cls_ok HX.out.2.2.okn))
              rw [HAL.out] at h
              exact h
            simp only [Act.put, List.setIfInBounds_toArray, List.set_cons_zero, List.set_cons_succ]
            refine Fre.made_val (.bool false) (by kernel_rfl) (by kernel_rfl) (by kernel_rfl) (fun _ _ => by kernel_rfl) ?_
            simp only [Act.put, List.setIfInBounds_toArray, List.set_cons_zero, List.set_cons_succ]
            intro w6 hx6
            have H6 := hide (And.intro (H5.out.1.below hx6 H5.out.1.lt) (And.intro (H5.out.2.1.grow hx6) (H5.out.2.2.1.trans (Below.mono hx6 H5.out.2.2.1.size))))
            clear hx6
            dsimp only [Fre.ended, List.drop]
            rintro u31 _ u39 _
            obtain ⟨w7, r1, r2, r3⟩ := MapIs.update H6.out.2.1.map_ hash_enc HX.out.2.1 Try.underlying77 j
            have HU := hide (And.intro r1 (And.intro r2 r3))
            clear r1 r2 r3
            go_wp2_with (first | ((with_reducible refine at_slot 45 ?_); (refine wpList_value (o := ⟨some 45, _, _, _, _, _⟩) rfl (.map (some mb)) w6 (exec_load_cell (o := ⟨some 45, _, _, _, _, _⟩) 77 (.tmp 44) rfl ⟨w.heap.size, 0, none⟩ rfl _ _ w6 Try.underlying77 rfl (show w6.cell? ⟨w.heap.size, 0, none⟩ = some (.map (some mb)) from H6.out.2.1.tbl.cell 0)) ?_)) | ((with_reducible refine at_slot 47 ?_); (refine wpList_value (o := ⟨some 47, _, _, _, _, _⟩) rfl (.agg (bv x.1).toArray) w6 (exec_load_mid (o := ⟨some 47, _, _, _, _, _⟩) 27 (.tmp 46) rfl wo.heap.size (0) rfl (bv x.1) _ w6 (item_cls HX.out.2.1 H6.out.1) Try.underlying27 rfl hszx) ?_)) | (refine wpList_mapUpdate (o := ⟨none, _, _, _, _, _⟩) rfl 77 (.tmp 45) (.tmp 47) (.tmp 48) rfl _ _ _ rfl rfl rfl HU.out.1 ?_))
            go_roundw
            case rel => exact ⟨j + 1, by omega, by go_num, (H6.out.2.1.put HXX.out HKN.out HU.out.2.1 HU.out.2.2 HR9.out)⟩
            case measure => simp [intOf]; omega
        · have HKN := hide hkn
          clear hkn
          have HNR : Hid (Dr.rightP (l.map itP) = false) := hide (right_no HXX.out (by exact .inr (.inl HKN.out)))
          go_wp2_with fail
          refine Fre.wp_made (X := Bel) 18 [(31, OneH x.1)] (by kernel_rfl) (by kernel_rfl) (by intro p hp; rw [List.mem_singleton.1 hp]; exact oneH_ok _) (by simp) (by simp) ?_
          simp only [List.take_succ_cons, List.take_zero, List.drop_succ_cons, List.drop_zero]
          refine Fre.made_val (.int .i64 0) (by kernel_rfl) (by kernel_rfl) (by kernel_rfl) (fun _ _ => by kernel_rfl) ?_
          simp only [Act.put, List.setIfInBounds_toArray, List.set_cons_zero, List.set_cons_succ]
          refine Fre.made_val (.bool false) (by kernel_rfl) (by kernel_rfl) (by kernel_rfl) (fun _ _ => by kernel_rfl) ?_
          simp only [Act.put, List.setIfInBounds_toArray, List.set_cons_zero, List.set_cons_succ]
          refine Fre.made_val (.bool false) (by kernel_rfl) (by kernel_rfl) (by kernel_rfl) (fun _ _ => by kernel_rfl) ?_
          simp only [Act.put, List.setIfInBounds_toArray, List.set_cons_zero, List.set_cons_succ]
          refine Fre.made_val (.pointer (some ⟨w.heap.size, 0, none⟩)) (by kernel_rfl) (by kernel_rfl) (by kernel_rfl) (fun _ _ => by kernel_rfl) ?_
          simp only [Act.put, List.setIfInBounds_toArray, List.set_cons_zero, List.set_cons_succ]
          refine Fre.made_val (.map (some mb)) (by kernel_rfl) (by kernel_rfl) (by kernel_rfl) (fun W9 hW9 => exec_load_cell (o := ⟨some 28, _, _, _, _, _⟩) 77 (.tmp 27) rfl ⟨w.heap.size, 0, none⟩ rfl _ _ W9 Try.underlying77 rfl ((H5.out.2.1.grow hW9).tbl.cell 0)) ?_
          simp only [Act.put, List.setIfInBounds_toArray, List.set_cons_zero, List.set_cons_succ]
          refine Fre.made_val (.pointer (some ⟨wo.heap.size, 0, none⟩)) (by kernel_rfl) (by kernel_rfl) (by kernel_rfl) (fun _ _ => by kernel_rfl) ?_
          simp only [Act.put, List.setIfInBounds_toArray, List.set_cons_zero, List.set_cons_succ]
          refine Fre.made_val (.agg (bv x.1).toArray) (by kernel_rfl) (by kernel_rfl) (by kernel_rfl) (fun W9 hW9 => exec_load_mid (o := ⟨some 30, _, _, _, _, _⟩) 27 (.tmp 29) rfl wo.heap.size (0) rfl (bv x.1) _ W9 (item_cls HX.out.2.1 (H5.out.1.below hW9 H5.out.1.lt)) Try.underlying27 rfl hszx) ?_
          simp only [Act.put, List.setIfInBounds_toArray, List.set_cons_zero, List.set_cons_succ]
          refine Fre.made_new 31 _ (by kernel_rfl) (by kernel_rfl) rfl rfl (fun W hW => one_new (o := ⟨some 31, _, _, _, _, _⟩) (.tmp 30) rfl HX.out.2.1 rfl W) ?_
          simp only [Act.put, List.setIfInBounds_toArray, List.set_cons_zero, List.set_cons_succ]
          refine Fre.made_call1 31 _ (.bool true) 43 (fun u => #[.map (some mb), u]) (by kernel_rfl) rfl (by kernel_rfl) (by kernel_rfl) (fun u W => by kernel_rfl) (fun u W hW hu => ?hc32) ?_
          case hc32 =>
            have h := all_any W mb _ (H5.out.2.1.grow hW).map_ [x.1] u (hu.at_ HX.out.2.1)
            rw [all_one] at h
            rw [HKN.out] at h
            exact h
          simp only [Act.put, List.setIfInBounds_toArray, List.set_cons_zero, List.set_cons_succ]
          refine Fre.made_val (.bool true) (by kernel_rfl) (by kernel_rfl) (by kernel_rfl) (fun _ _ => by kernel_rfl) ?_
          simp only [Act.put, List.setIfInBounds_toArray, List.set_cons_zero, List.set_cons_succ]
          refine Fre.made_val (.bool true) (by kernel_rfl) (by kernel_rfl) (by kernel_rfl) (fun _ _ => by kernel_rfl) ?_
          simp only [Act.put, List.setIfInBounds_toArray, List.set_cons_zero, List.set_cons_succ]
          refine Fre.made_skip (by kernel_rfl) (by kernel_rfl) (by kernel_rfl) ?_
          refine Fre.made_skip (by kernel_rfl) (by kernel_rfl) (by kernel_rfl) ?_
          refine Fre.made_skip (by kernel_rfl) (by kernel_rfl) (by kernel_rfl) ?_
          refine Fre.made_skip (by kernel_rfl) (by kernel_rfl) (by kernel_rfl) ?_
          refine Fre.made_skip (by kernel_rfl) (by kernel_rfl) (by kernel_rfl) ?_
          refine Fre.made_skip (by kernel_rfl) (by kernel_rfl) (by kernel_rfl) ?_
          refine Fre.made_skip (by kernel_rfl) (by kernel_rfl) (by kernel_rfl) ?_
          intro w6 hx6
          have H6 := hide (And.intro (H5.out.1.below hx6 H5.out.1.lt) (And.intro (H5.out.2.1.grow hx6) (H5.out.2.2.1.trans (Below.mono hx6 H5.out.2.2.1.size))))
          clear hx6
          dsimp only [Fre.ended, List.drop]
          rintro u31 _
          go_wp2_with (first | ((with_reducible refine at_slot 43 ?_); (refine wpList_value (o := ⟨some 43, _, _, _, _, _⟩) rfl (.agg #[.map (some mb), .slice (some ⟨b, off, none⟩) l.length cap]) w6 (exec_load_blk (o := ⟨some 43, _, _, _, _, _⟩) 79 (.tmp 2) rfl w.heap.size rfl 79 _ _ w6 H6.out.2.1.tbl Try.underlying79 rfl (by kernel_rfl)) ?_)) | ((with_reducible refine at_store 2 43 ?_); (with_reducible refine wpList_store_blkA (o := ⟨none, _, _, _, _, _⟩) rfl 79 (.tmp 2) (.tmp 43) rfl w.heap.size #[.map (some mb), .slice (some ⟨b, off, none⟩) l.length cap] #[.map (some mb), .slice (some ⟨b, off, none⟩) l.length cap] 79 H6.out.2.1.tbl ?_ ?_ ?_ ?_ ?_ ?_); kernel_rfl; rfl; kernel_rfl; rfl; rfl; intro w7 hk7 hg7; have hb7 : Below w.heap.size w w7 := (H6.out.2.1.below.grown hg7 H6.out.2.1.below.size (fun b hb => (by injection hb with hb; omega))); have H7 := hide (And.intro hk7 hb7); clear hk7 hg7 hb7; simp only [Act.put, List.setIfInBounds_toArray, List.set_cons_zero, List.set_cons_succ]))
          refine bodyPost_ret (results_cell_tmp rfl _ _ w.heap.size 79 #[.map (some mb), .slice (some ⟨b, off, none⟩) l.length cap] (0, 0) _ rfl H7.out.1 Try.underlying79 rfl (by kernel_rfl)) rfl ?_
          exact ⟨mb, by rw [HNR.out]; rfl, (fun h => absurd (HNR.out.symm.trans h) (by decide)), H7.out.2⟩
      · have hne : (pe != 0) = true := by simpa using he
        have HHE := hide he
        clear he
        have HNR : Hid (Dr.rightP (l.map itP) = false) := hide (right_no HXX.out (by rw [← HPE.out]; exact .inl HHE.out))
        go_wp2_with fail
        refine Fre.wp_made (X := Bel) 18 [] (by kernel_rfl) (by kernel_rfl) (by simp) (by simp) (by simp) ?_
        simp only [List.take_succ_cons, List.take_zero, List.drop_succ_cons, List.drop_zero]
        refine Fre.made_val (.int .i64 pe) (by kernel_rfl) (by kernel_rfl) (by kernel_rfl) (fun _ _ => by kernel_rfl) ?_
        simp only [Act.put, List.setIfInBounds_toArray, List.set_cons_zero, List.set_cons_succ]
        refine Fre.made_val (.bool true) (by kernel_rfl) (by kernel_rfl) (by kernel_rfl) (fun W9 hW9 => ?hs1) ?_
        case hs1 =>
          go_simp
          done
        simp only [Act.put, List.setIfInBounds_toArray, List.set_cons_zero, List.set_cons_succ]
        refine Fre.made_val (.bool true) (by kernel_rfl) (by kernel_rfl) (by kernel_rfl) (fun _ _ => by kernel_rfl) ?_
        simp only [Act.put, List.setIfInBounds_toArray, List.set_cons_zero, List.set_cons_succ]
        refine Fre.made_skip (by kernel_rfl) (by kernel_rfl) (by kernel_rfl) ?_
        refine Fre.made_skip (by kernel_rfl) (by kernel_rfl) (by kernel_rfl) ?_
        refine Fre.made_skip (by kernel_rfl) (by kernel_rfl) (by kernel_rfl) ?_
        refine Fre.made_skip (by kernel_rfl) (by kernel_rfl) (by kernel_rfl) ?_
        refine Fre.made_skip (by kernel_rfl) (by kernel_rfl) (by kernel_rfl) ?_
        refine Fre.made_skip (by kernel_rfl) (by kernel_rfl) (by kernel_rfl) ?_
        refine Fre.made_val (.bool true) (by kernel_rfl) (by kernel_rfl) (by kernel_rfl) (fun _ _ => by kernel_rfl) ?_
        simp only [Act.put, List.setIfInBounds_toArray, List.set_cons_zero, List.set_cons_succ]
        refine Fre.made_val (.bool true) (by kernel_rfl) (by kernel_rfl) (by kernel_rfl) (fun _ _ => by kernel_rfl) ?_
        simp only [Act.put, List.setIfInBounds_toArray, List.set_cons_zero, List.set_cons_succ]
        refine Fre.made_skip (by kernel_rfl) (by kernel_rfl) (by kernel_rfl) ?_
        refine Fre.made_skip (by kernel_rfl) (by kernel_rfl) (by kernel_rfl) ?_
        refine Fre.made_skip (by kernel_rfl) (by kernel_rfl) (by kernel_rfl) ?_
        refine Fre.made_skip (by kernel_rfl) (by kernel_rfl) (by kernel_rfl) ?_
        refine Fre.made_skip (by kernel_rfl) (by kernel_rfl) (by kernel_rfl) ?_
        refine Fre.made_skip (by kernel_rfl) (by kernel_rfl) (by kernel_rfl) ?_
        refine Fre.made_skip (by kernel_rfl) (by kernel_rfl) (by kernel_rfl) ?_
        intro w6 hx6
        have H6 := hide (And.intro (H5.out.1.below hx6 H5.out.1.lt) (And.intro (H5.out.2.1.grow hx6) (H5.out.2.2.1.trans (Below.mono hx6 H5.out.2.2.1.size))))
        clear hx6
        dsimp only [Fre.ended, List.drop]
        go_wp2_with (first | ((with_reducible refine at_slot 43 ?_); (refine wpList_value (o := ⟨some 43, _, _, _, _, _⟩) rfl (.agg #[.map (some mb), .slice (some ⟨b, off, none⟩) l.length cap]) w6 (exec_load_blk (o := ⟨some 43, _, _, _, _, _⟩) 79 (.tmp 2) rfl w.heap.size rfl 79 _ _ w6 H6.out.2.1.tbl Try.underlying79 rfl (by kernel_rfl)) ?_)) | ((with_reducible refine at_store 2 43 ?_); (with_reducible refine wpList_store_blkA (o := ⟨none, _, _, _, _, _⟩) rfl 79 (.tmp 2) (.tmp 43) rfl w.heap.size #[.map (some mb), .slice (some ⟨b, off, none⟩) l.length cap] #[.map (some mb), .slice (some ⟨b, off, none⟩) l.length cap] 79 H6.out.2.1.tbl ?_ ?_ ?_ ?_ ?_ ?_); kernel_rfl; rfl; kernel_rfl; rfl; rfl; intro w7 hk7 hg7; have hb7 : Below w.heap.size w w7 := (H6.out.2.1.below.grown hg7 H6.out.2.1.below.size (fun b hb => (by injection hb with hb; omega))); have H7 := hide (And.intro hk7 hb7); clear hk7 hg7 hb7; simp only [Act.put, List.setIfInBounds_toArray, List.set_cons_zero, List.set_cons_succ]))
        refine bodyPost_ret (results_cell_tmp rfl _ _ w.heap.size 79 #[.map (some mb), .slice (some ⟨b, off, none⟩) l.length cap] (0, 0) _ rfl H7.out.1 Try.underlying79 rfl (by kernel_rfl)) rfl ?_
        exact ⟨mb, by rw [HNR.out]; rfl, (fun h => absurd (HNR.out.symm.trans h) (by decide)), H7.out.2⟩
    · obtain rfl : j = l.length := by omega
      have HRR := HI.out.right
      rw [List.take_length] at HRR
      have HM := HI.out.map_
      rw [List.take_length] at HM
      have HQ := hide (And.intro HRR HM)
      clear HRR HM
      go_wp2_with (first | ((with_reducible refine at_slot 50 ?_); (refine wpList_value (o := ⟨some 50, _, _, _, _, _⟩) rfl (.agg #[.map (some mb), .slice A l.length cap]) wo (exec_load_blk (o := ⟨some 50, _, _, _, _, _⟩) 79 (.tmp 2) rfl w.heap.size rfl 79 _ _ wo HI.out.tbl Try.underlying79 rfl (by kernel_rfl)) ?_)) | ((with_reducible refine at_store 2 50 ?_); (with_reducible refine wpList_store_blkA (o := ⟨none, _, _, _, _, _⟩) rfl 79 (.tmp 2) (.tmp 50) rfl w.heap.size #[.map (some mb), .slice A l.length cap] #[.map (some mb), .slice A l.length cap] 79 HI.out.tbl ?_ ?_ ?_ ?_ ?_ ?_); kernel_rfl; rfl; kernel_rfl; rfl; rfl; intro w7 hk7 hg7; have hb7 : Below w.heap.size w w7 := (HI.out.below.grown hg7 HI.out.below.size (fun b hb => (by injection hb with hb; omega))); have H7 := hide (And.intro hk7 (And.intro hb7 (HQ.out.2.of_eq (hg7.block mb HI.out.map_.lt (fun e => (by injection e with e; have := HI.out.ne; omega)))))); clear hk7 hg7 hb7; simp only [Act.put, List.setIfInBounds_toArray, List.set_cons_zero, List.set_cons_succ]))
      refine bodyPost_ret (results_cell_tmp rfl _ _ w.heap.size 79 #[.map (some mb), .slice A l.length cap] (0, 0) _ rfl H7.out.1 Try.underlying79 rfl (by kernel_rfl)) rfl ?_
      exact ⟨mb, by rw [HQ.out.1]; rfl, (fun _ => ⟨HI.out.ne, H7.out.2.2⟩), H7.out.2.1⟩
end Go.Proofs.Ytidiepbmbbflhaa
end
section
namespace Go.Proofs.Ytidiepbmbbflhaa
open Go Go.RowKit Go.Shelf
def noDefer (o : Oper) : Bool := match o.op with | .defer _ => false | _ => true
theorem noDefer_ne {o : Oper} (h : noDefer o = true) : ∀ c, o.op ≠ .defer c := fun c e => by
  unfold noDefer at h
  rw [e] at h
  cases h
section
variable {P : Program} {ops : Array Oper} {Q : Exit → Act → World → Prop} {r n : Nat}
theorem rows_in {row : String} {args : Array Value} {w : World} {R : Value → World → Prop} {m : Nat} (h : Rows P row args w R) : RowsIn (Fence.wide.inRound r) m P row args w R :=
  fun c cs _ => let ⟨v, w', h1, h2⟩ := h c cs; ⟨v, w', h1, stepsIn_wide.2 h2⟩
theorem upon_in {o : Oper} {a : Act} {next next' : Act → World → Prop} (hn : ∀ a w, next a w → next' a w) : ∀ (res : Result Next), o.upon P a next Q res → o.uponIn (Fence.wide.inRound r) n P a next' Q res := by
  intro res h
  match res, h with
  | .ok (.value v) w', h => exact hn _ _ h
  | .ok .skip w', h => exact hn _ _ h
  | .ok (.defer d) w', h => exact hn _ _ h
  | .ok (.enter f args) w', h =>
    refine ⟨fun e => (by cases e), CallsIn.inRound r (callsIn_wide.2 (Calls.mono h ?_))⟩
    intro e w'' he
    cases e with
    | returned v => exact hn _ _ he
    | panicked c => exact he
    | outgrown => exact he
  | .ok (.row row args) w', h =>
    refine ⟨fun e => (by cases e), rows_in (Rows.mono h ?_)⟩
    intro v w'' he
    exact hn _ _ he
  | .halt (.panic v) w', h => exact h
theorem oper_in {o : Oper} {a : Act} {w : World} {next next' : Act → World → Prop} (hd : noDefer o = true) (hn : ∀ a w, next a w → next' a w) (h : o.wp P a w next Q) : o.wpIn (Fence.wide.inRound r) n P a w next' Q := by
  unfold Oper.wp at h
  refine ⟨fun _ _ => trivial, ?_⟩
  rw [Oper.semAt_eq _ _ _ (noDefer_ne hd)]
  exact upon_in hn _ h
/-- a list of operations, walked plainly -/
theorem list_in (hno : ¬ LetsOut Q) : ∀ (l : List Oper), l.all noDefer = true → ∀ (a : Act) (w : World), wpList P ops Q l a w → wpListIn (Fence.wide.inRound r) n P ops Q l a w
  | [], _, _, _, h => h
  | o :: rest, hd, a, w, h => by
    rw [List.all_cons, Bool.and_eq_true] at hd
    unfold wpList at h
    unfold wpListIn
    split at h
    · rename_i hw
      rw [if_pos hw]
      rcases h with h | h
      · exact oper_in hd.1 (fun a w hk => list_in hno rest hd.2 a w hk) h
      · exact absurd h.2 hno
    · rename_i hw
      rw [if_neg hw]
      exact ⟨fun _ _ => trivial, list_in hno rest hd.2 _ _ h⟩
theorem any_in (hno : ¬ LetsOut Q) (hd : ops.all noDefer = true) {md : Region.Mode} : ∀ (fuel : Nat) (listed : Array Bool) (a : Act) (w : World), wpAny P md ops Q fuel listed a w → wpAnyIn (Fence.wide.inRound r) n P md ops Q fuel listed a w
  | 0, _, _, _, h => h
  | fuel + 1, listed, a, w, h => by
    refine ⟨h.1, fun i hi => ?_⟩
    have h2 := h.2 i hi
    unfold wpOp at h2
    unfold wpOpIn
    cases ho : ops[i]? with
    | none =>
      rw [ho] at h2
      exact any_in hno hd fuel _ a w h2
    | some o =>
      rw [ho] at h2
      dsimp only at h2 ⊢
      have hdo : noDefer o = true := by
        rw [Array.all_eq_true'] at hd
        exact hd o (Array.mem_of_getElem? ho)
      split at h2
      · rename_i hw
        rw [if_pos hw]
        rcases h2 with h2 | h2
        · exact oper_in hdo (fun a w hk => any_in hno hd fuel _ a w hk) h2
        · exact absurd h2.2 hno
      · rename_i hw
        rw [if_neg hw]
        exact ⟨fun _ _ => trivial, any_in hno hd fuel _ _ _ h2⟩
theorem region_in {id : Nat} {l : List Oper} {a : Act} {w : World} (hno : ¬ LetsOut Q) (hd : l.all noDefer = true) (h : wpList P l.toArray Q l a w) : (Code.region id l.toArray false).wpIn (Fence.wide.inRound r) n P Q a w :=
  wpIn_region_lit (list_in hno l hd a w h)
theorem draws_in {id : Nat} {l : List Oper} {a : Act} {w : World} (hm : P.follows .mixedOrders = true) (hno : ¬ LetsOut Q) (hd : l.all noDefer = true) (h : wpAny P .any l.toArray Q l.toArray.size (Array.replicate l.toArray.size false) a w.drew) : (Code.region id l.toArray true).wpIn (Fence.wide.inRound r) n P Q a w :=
  wpIn_region_any hm (any_in hno (by simpa using hd) _ _ a _ h)
theorem not_out_then {K : Act → World → Prop} (h : ¬ LetsOut Q) : ¬ LetsOut (Exit.then K Q) := fun ⟨a, w, hq⟩ => h ⟨a, w, hq⟩
theorem not_out_block {id : Nat} (h : ¬ LetsOut Q) : ¬ LetsOut (Exit.inBlock id Q) := fun ⟨a, w, hq⟩ => h ⟨a, w, hq⟩
theorem not_out_G {α : Type} {B : Nat} {Kp : World → World → Prop} {I : List α → World → Prop} {Ix : Code → List α → World → Prop} {xs : List α} {W : World} : ¬ LetsOut (ownPostG B Kp I Ix xs W) := fun ⟨_, _, h⟩ => h
end
end Go.Proofs.Ytidiepbmbbflhaa
end
