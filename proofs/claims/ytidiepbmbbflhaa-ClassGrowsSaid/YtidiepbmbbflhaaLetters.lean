/- base.Letters. -/
import Derived.Test.YtidiepbmbbflhaaAt
import Derived.Test.YtidiepbmbbflhaaWrite
import Derived.Test.YtidiepbmbbflhaaShelfS
import Derived.Test.YtidiepbmbbflhaaPaths
import Derived.Test.YtidiepbmbbflhaaTools
import Derived.Lib.EndianBits
import Derived.Laws.BitsLemmas
import Derived.Laws.Strings
namespace Go.Proofs.Ytidiepbmbbflhaa
open Go Go.RowKit
set_option maxRecDepth 100000
def alphabet : List UInt8 := [48, 49, 50, 51, 52, 53, 54, 55, 56, 57, 97, 98, 99, 100, 102, 103, 104, 105, 106, 107, 108, 109, 110, 112, 113, 114, 115, 118, 119, 120, 121, 122]
def letterAt (k : Nat) : UInt8 := alphabet.getD k 0
/-- letters are taken while there are five bits -/
def drain : Nat → Nat → Nat → List UInt8 → Nat × Nat × List UInt8
  | 0, h, m, o => (h, m, o)
  | f + 1, h, m, o => if 5 ≤ m then drain f (h / 32) (m - 5) (o ++ [letterAt (h % 32)]) else (h, m, o)
def ltStep (s : Nat × Nat × List UInt8) (x : UInt8) : Nat × Nat × List UInt8 := drain 2 (s.1 + x.toNat * 2 ^ s.2.1) (s.2.1 + 8) s.2.2
/-- a hash's letters -/
def lettersP (h : List UInt8) : List UInt8 := (h.foldl ltStep (0, 0, [])).2.2
theorem drain_len : ∀ (f h m : Nat) (o : List UInt8), (drain f h m o).2.2.length ≤ o.length + f
  | 0, h, m, o => by simp [drain]
  | f + 1, h, m, o => by
    rw [drain]
    split
    · refine Nat.le_trans (drain_len f _ _ _) ?_
      rw [List.length_append, List.length_singleton]
      omega
    · dsimp only
      omega
theorem letters_len (h : List UInt8) : (lettersP h).length ≤ 2 * h.length := by
  have key : ∀ (h : List UInt8) (s : Nat × Nat × List UInt8), (h.foldl ltStep s).2.2.length ≤ s.2.2.length + 2 * h.length := by
    intro h
    induction h with
    | nil => intro s; simp
    | cons x h ih =>
      intro s
      refine Nat.le_trans (ih _) ?_
      have := drain_len 2 (s.1 + x.toNat * 2 ^ s.2.1) (s.2.1 + 8) s.2.2
      rw [List.length_cons]
      unfold ltStep
      omega
  have := key h (0, 0, [])
  unfold lettersP
  simpa using this
theorem join_many (held many x : Nat) (h1 : held < 2 ^ many) (h2 : many < 5) (h3 : x ≤ 255) : bits .or .u32 (held : Int) ((x : Int) * 2 ^ many % 4294967296) = ((held + x * 2 ^ many : Nat) : Int) := by
  have h4 : (2 : Nat) ^ many ≤ 16 := by
    have : many = 0 ∨ many = 1 ∨ many = 2 ∨ many = 3 ∨ many = 4 := by omega
    rcases this with rfl | rfl | rfl | rfl | rfl <;> decide
  have h5 : x * 2 ^ many ≤ 255 * 16 := Nat.mul_le_mul h3 h4
  have e1 : (x : Int) * 2 ^ many = ((x * 2 ^ many : Nat) : Int) := by rw [Int.natCast_mul, Int.natCast_pow]; rfl
  have e2 : ((2 : Int) ^ many) = ((2 ^ many : Nat) : Int) := by rw [Int.natCast_pow]; rfl
  have e3 : (x * 2 ^ many) % 2 ^ many = 0 := Nat.mul_mod_left _ _
  rw [e1]
  generalize x * 2 ^ many = n at h5 e3 ⊢
  rw [show (n : Int) % 4294967296 = (n : Int) by omega, bits_join_low .u32 32 (by decide) wraps_u32 many _ _ (by omega) (by rw [e2]; omega) (by omega) (by omega) (by rw [e2, ← Int.natCast_emod, e3]; rfl) (by omega)]
  omega
theorem low_five (hd : Nat) (h : hd < 4294967296) : bits .and .u32 (hd : Int) 31 = ((hd % 32 : Nat) : Int) := by
  have h1 := bits_mask .u32 32 (by decide) wraps_u32 5 (by decide) (hd : Int) (by omega) (by omega)
  rw [show (2 : Int) ^ 5 - 1 = 31 by decide] at h1
  rw [h1]
  omega
def alphaS : ByteArray := ⟨#[48, 49, 50, 51, 52, 53, 54, 55, 56, 57, 97, 98, 99, 100, 102, 103, 104, 105, 106, 107, 108, 109, 110, 112, 113, 114, 115, 118, 119, 120, 121, 122]⟩
theorem alpha_at (k : Nat) (hk : k < 32) (t : TypeId) (ht : Try.prog.underlying t = some .string) (w : World) : (Instr.index t (.string alphaS) (.int .u32 (k : Int))).run Try.prog w = .ok (.int .u8 ((letterAt k).toNat : Int)) w := by
  have h := run_index_string (P := Try.prog) w t alphaS .u32 (k : Int) ht
  have h3 : ∀ k : Fin 32, (alphaS[k.val]'(k.isLt)).toNat = (letterAt k.val).toNat := by decide
  have h2 : 0 ≤ (k : Int) ∧ (k : Int) < (alphaS.size : Int) := ⟨by omega, by rw [show alphaS.size = 32 from rfl]; omega⟩
  rw [h, dif_pos h2]
  have h4 := h3 ⟨k, hk⟩
  dsimp only at h4
  have h5 : (alphaS[(k : Int).toNat]'(by rw [Int.toNat_natCast]; exact hk)).toNat = (letterAt k).toNat := h4
  rw [h5]
theorem letters_any (w : World) (h : Hsh) (hh : okH h) :
    Calls Try.prog 64 #[.agg (bv h).toArray] w fun e w' => e = .returned (.string ⟨(lettersP h).toArray⟩) ∧ Below w.heap.size w w' := by
  have hsz := hsz hh
  obtain ⟨w1, hw1⟩ : ∃ w1, w1 = w.alloc (.cells (bv h).toArray 27) := ⟨_, rfl⟩
  obtain ⟨w2, hw2⟩ : ∃ w2, w2 = w1.alloc (.cells #[.pointer none, .slice none 0 0] 131) := ⟨_, rfl⟩
  have hb1 : Below w.heap.size w w1 := by rw [hw1]; exact (Below.refl _ w).alloc (Nat.le_refl _) _
  have hk1 : Blk w1 w.heap.size 27 (bv h).toArray := by rw [hw1]; exact Blk.new _ _ _
  have hb2 : Below w1.heap.size w1 w2 := by rw [hw2]; exact (Below.refl _ w1).alloc (Nat.le_refl _) _
  have hk2 : Blk w2 w1.heap.size 131 #[.pointer none, .slice none 0 0] := by rw [hw2]; exact Blk.new _ _ _
  have hbd : BldAt w2 w1.heap.size w1.heap.size (.pointer none) (.slice none 0 0) [] := ⟨Nat.le_refl _, .inl rfl, hk2, World.ownsRow_nil _ _ _ _⟩
  have H2 := hide (And.intro (hk1.below hb2 hk1.lt) (And.intro hbd (hb1.trans (Below.mono hb2 hb1.size))))
  have hz := hide hb1.size
  have HW1 := hide hw1
  have HW2 := hide hw2
  have HSZ := hide hsz
  clear hsz hb1 hk1 hb2 hk2 hbd hw1 hw2
  go_enter Try.func64, Try.ntmps64
  go_wp2_with (first | ((with_reducible refine at_slot 1 ?_); refine wpList_value (o := ⟨some 1, _, _, _, _, _⟩) rfl (.pointer (some ⟨w.heap.size, 0, none⟩)) w1 (by rw [HW1.out]; kernel_rfl) ?_) | ((with_reducible refine at_slot 3 ?_); refine wpList_value (o := ⟨some 3, _, _, _, _, _⟩) rfl (.pointer (some ⟨w1.heap.size, 0, none⟩)) w2 (by rw [HW2.out]; kernel_rfl) ?_) | ((with_reducible refine at_slot 8 ?_); refine wpList_value (o := ⟨some 8, _, _, _, _, _⟩) rfl (.agg (bv h).toArray) w2 (exec_load_blk (o := ⟨some 8, _, _, _, _, _⟩) 27 (.tmp 1) rfl w.heap.size rfl 27 _ _ w2 H2.out.1 Try.underlying27 rfl HSZ.out) ?_))
  go_loopw [4, 5, 9] (fun x4 x5 x9 wr => ∃ (j held many : Nat) (out : List UInt8) (p u : Value), j ≤ 20 ∧ x9 = .int .i64 (j : Int) ∧ x4 = .int .u32 (held : Int) ∧ x5 = .int .u32 (many : Int) ∧ (h.take j).foldl ltStep (0, 0, []) = (held, many, out) ∧ held < 2 ^ many ∧ many < 5 ∧ out.length ≤ 2 * j ∧ BldAt wr w1.heap.size w1.heap.size p u (Lib.byteCells out) ∧ Below w1.heap.size w2 wr) (fun _ _ x9 _ => 20 - (intOf x9).toNat)
  case atStart => exact ⟨0, 0, 0, [], _, _, by omega, rfl, rfl, rfl, rfl, by decide, by decide, by decide, H2.out.2.1, Below.refl _ _⟩
  case round =>
    obtain ⟨wo, rfl⟩ : ∃ wo, wo = wr := ⟨_, rfl⟩
    obtain ⟨j, held, many, out, p, u, hj, rfl, rfl, rfl, hfo, hhe, hma, hol, hbd, hb⟩ := hrel
    have HI := hide (And.intro hfo (And.intro hbd hb))
    clear hfo hbd hb
    have j0 : (0 : Int) ≤ (j : Int) := by omega
    by_cases hj2 : j < 20
    · have j1 : (j : Int) < 20 := by omega
      obtain ⟨x, hx⟩ : ∃ x, h[j]? = some x := ⟨_, List.getElem?_eq_getElem (by rw [show h.length = 20 from hh]; exact hj2)⟩
      have HXX := hide hx
      have hv := bv_get h j (by rw [show h.length = 20 from hh]; exact hj2)
      have hxd : h.getD j 0 = x := by rw [List.getD_eq_getElem?_getD, hx]; rfl
      rw [hxd] at hv
      have hidx := run_index_int (P := Try.prog) 27 5 20 .u8 Try.underlying27 Try.underlying5 (by kernel_rfl) (bv h).toArray j hj2 _ hv
      clear hx hv hxd
      have x0 : (0 : Int) ≤ (x.toNat : Int) := by omega
      have x1 : (x.toNat : Int) ≤ 255 := by have := x.toNat_lt; omega
      obtain ⟨hd, hhd⟩ : ∃ hd, hd = held + x.toNat * 2 ^ many := ⟨_, rfl⟩
      have hor := join_many held many x.toNat hhe hma (by omega)
      rw [← hhd] at hor
      obtain ⟨D, hD⟩ : ∃ D, D = drain 2 hd (many + 8) out := ⟨_, rfl⟩
      have hstep : (h.take (j + 1)).foldl ltStep (0, 0, []) = D := by
        rw [List.take_add_one, HXX.out, List.foldl_append, HI.out.1, hD, hhd]
        rfl
      have hlt : hd < 2 ^ (many + 8) := by
        have h4 : x.toNat < 256 := by omega
        have h5 : x.toNat * 2 ^ many ≤ 255 * 2 ^ many := Nat.mul_le_mul_right _ (by omega)
        rw [hhd, Nat.pow_add]
        omega
      have HS := hide (And.intro hstep (And.intro hD hlt))
      clear hstep hD hlt hhd
      go_wp2_with fail
      go_loopw [4, 5] (fun x4 x5 wr => ∃ (f hd mn : Nat) (o : List UInt8) (p u : Value), x4 = .int .u32 (hd : Int) ∧ x5 = .int .u32 (mn : Int) ∧ drain f hd mn o = D ∧ hd < 2 ^ mn ∧ mn ≤ 5 * f + 4 ∧ mn ≤ 12 ∧ o.length + f ≤ 2 * j + 2 ∧ BldAt wr w1.heap.size w1.heap.size p u (Lib.byteCells o) ∧ Below w1.heap.size w2 wr) (fun _ x5 _ => (intOf x5).toNat)
      case atStart => exact ⟨2, hd, many + 8, out, p, u, rfl, by go_num, HS.out.2.1.symm, HS.out.2.2, by omega, by omega, by omega, HI.out.2.1, HI.out.2.2⟩
      case round =>
        obtain ⟨wi, rfl⟩ : ∃ wi, wi = wr := ⟨_, rfl⟩
        obtain ⟨f, hd2, mn, o, p2, u2, rfl, rfl, hdr, hlt2, hmf, hm12, hof, hbd2, hb2⟩ := hrel
        have HJ := hide (And.intro hdr (And.intro hbd2 hb2))
        clear hdr hbd2 hb2
        have h32 : hd2 < 4294967296 := Nat.lt_of_lt_of_le hlt2 (Nat.le_trans (Nat.pow_le_pow_right (by decide) hm12) (by decide))
        by_cases hm5 : 5 ≤ mn
        · obtain ⟨f, rfl⟩ : ∃ f', f = f' + 1 := ⟨f - 1, by omega⟩
          have hand := low_five hd2 h32
          obtain ⟨k, hk⟩ : ∃ k, k = hd2 % 32 := ⟨_, rfl⟩
          rw [← hk] at hand
          have hk32 : k < 32 := by omega
          have hix := fun W => alpha_at k hk32 9 Try.underlying9 W
          unfold alphaS at hix
          have hdr2 : drain f (hd2 / 32) (mn - 5) (o ++ [letterAt k]) = D := by
            have := HJ.out.1
            rw [drain, if_pos hm5, ← hk] at this
            exact this
          have hlt3 : hd2 / 32 < 2 ^ (mn - 5) := by
            rw [Nat.div_lt_iff_lt_mul (by decide), show (32 : Nat) = 2 ^ 5 from rfl, ← Nat.pow_add, show mn - 5 + 5 = mn by omega]
            exact hlt2
          have HR := hide (And.intro hdr2 hlt3)
          clear hdr2 hlt3 hk
          go_wp2_with fail
          refine (putByte_any wi w1.heap.size w1.heap.size p2 u2 (Lib.byteCells o) _ HJ.out.2.1 (by simp [Lib.byteCells]; omega) (Nat.le_of_lt HJ.out.2.1.2.2.1.lt)).mono ?_
          rintro e w5 ⟨rfl, ⟨u5, hbd5⟩, hb5⟩
          dsimp only
          have hbc : Lib.byteCells o ++ [Value.int .u8 ((letterAt k).toNat : Int)] = Lib.byteCells (o ++ [letterAt k]) := by simp [Lib.byteCells]
          rw [hbc] at hbd5
          have H5 := hide (And.intro hbd5 (HJ.out.2.2.trans hb5))
          clear hbd5 hb5 hbc
          go_wp2_with fail
          go_roundw
          case rel => exact ⟨f, hd2 / 32, mn - 5, o ++ [letterAt k], _, u5, by go_num, by go_num, HR.out.1, HR.out.2, by omega, by omega, by rw [List.length_append, List.length_singleton]; omega, H5.out.1, H5.out.2⟩
          case measure => simp [intOf]; omega
        · have hf : drain f hd2 mn o = (hd2, mn, o) := by
            cases f with
            | zero => rfl
            | succ f => rw [drain, if_neg hm5]
          have HF := hide (hf.symm.trans HJ.out.1)
          clear hf
          go_wp2_with fail
          go_roundw
          case rel => exact ⟨j + 1, hd2, mn, o, p2, u2, by omega, by go_num, rfl, rfl, HS.out.1.trans HF.out.symm, hlt2, by omega, by omega, HJ.out.2.1, HJ.out.2.2⟩
          case measure => simp [intOf]; omega
    · obtain rfl : j = 20 := by omega
      have e9 : lettersP h = out := by
        unfold lettersP
        rw [← List.take_of_length_le (l := h) (i := 20) (by rw [show h.length = 20 from hh]; exact Nat.le_refl _), HI.out.1]
      have HE := hide e9
      clear e9
      go_wp2_with fail
      refine (Try.Builder_String_any w1.heap.size w1.heap.size out wo HI.out.2.1.is (by have := HI.out.2.1.2.2.1.lt; omega)).mono ?_
      rintro e w5 ⟨rfl, hb5⟩
      dsimp only
      have H5 := hide (H2.out.2.2.trans (Below.mono (HI.out.2.2.trans hb5) hz.out))
      go_wp2_with fail
      go_ret
      exact ⟨by rw [HE.out]; rfl, H5.out⟩
end Go.Proofs.Ytidiepbmbbflhaa
