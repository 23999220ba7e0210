/- base.sign, base.Name. -/
import Derived.Test.YtidiepbmbbflhaaDrvA
import Derived.Lib.Strings
import Derived.Lib.Walk
import Derived.Lib.Bytealg
import Derived.Lib.OthersKept
namespace Go.Proofs.Ytidiepbmbbflhaa
open Go Go.RowKit Go.Maps
set_option maxRecDepth 100000
theorem litIndex_any (s : ByteArray) (c : Int) (w : World) :
    Calls Try.prog 84 #[.string s, .int .u8 c] w fun e w' => e = .returned (.int .i64 (Lib.indexByte s.data.toList c.toNat.toUInt8)) ∧ w' = w := by
  go_enter Try.func84, Try.ntmps84
  go_wp2
  rw [run_callFunc_extern Try.func85 (by kernel_rfl) (by kernel_rfl) (by kernel_rfl) (e := Extern.BytealgIndexByte.indexByte) (by kernel_rfl), Lib.run_indexByteString]
  simp only [Result.andThen]
  rw [Oper.upon_value]
  go_wp2
  go_ret
  exact ⟨rfl, rfl⟩
theorem index_any (s : ByteArray) (c : Int) (w : World) :
    Calls Try.prog 80 #[.string s, .int .u8 c] w fun e w' => e = .returned (.int .i64 (Lib.indexByte s.data.toList c.toNat.toUInt8)) ∧ w' = w := by
  go_enter Try.func80, Try.ntmps80
  go_wp2_with (go_at_call 84; refine (litIndex_any _ _ _).mono ?_; rintro e w' ⟨rfl, rfl⟩)
  go_ret
  exact ⟨rfl, rfl⟩
/-- may a sign stand in a name? -/
def signP (c : Int) : Bool := decide (c < 128) && (decide (65 ≤ c) && decide (97 ≤ bits BinOp.or IntKind.i32 c 32) && decide (bits BinOp.or IntKind.i32 c 32 ≤ 122) || decide (48 ≤ c) && decide (c ≤ 57) || decide (0 ≤ Lib.indexByte [46, 95, 43, 45] c.toNat.toUInt8))
theorem sign_any (c : Int) (hc : 0 ≤ c) (w : World) : Calls Try.prog 73 #[.int .i32 c] w fun e w' => e = .returned (.bool (signP c)) ∧ w' = w := by
  by_cases h8 : c < 128
  · obtain ⟨q, hq⟩ : ∃ q, q = signP c := ⟨_, rfl⟩
    rw [← hq]
    unfold signP at hq
    rw [decide_eq_true h8, Bool.true_and] at hq
    have HQ := hide hq
    clear hq
    go_enter Try.func73, Try.ntmps73
    go_wp2_with (go_at_call 80; refine (index_any _ _ _).mono ?_; rintro e w' ⟨rfl, rfl⟩)
    all_goals (go_ret; refine ⟨?_, rfl⟩; rw [HQ.out]; simp_all <;> (first | done | omega | (rw [show decide (c ≤ 57) = false from decide_eq_false (by omega)]; simp; try (intros; exfalso; omega))))
  · have e : signP c = false := by unfold signP; rw [decide_eq_false h8]; rfl
    rw [e]
    go_enter Try.func73, Try.ntmps73
    go_wp2_with fail
    go_ret
    exact ⟨rfl, rfl⟩
/-- may all of a text's signs, from a place on, stand in a name? -/
def runesOk (s : ByteArray) : Nat → Nat → Bool
  | 0, _ => true
  | f + 1, pos => if pos < s.size then signP ((Utf8.decode s pos).1 : Int) && runesOk s f (pos + (Utf8.decode s pos).2) else true
theorem runesOk_end (s : ByteArray) (fuel pos : Nat) (h : ¬ pos < s.size) : runesOk s fuel pos = true := by
  cases fuel with
  | zero => rfl
  | succ f => simp [runesOk, h]
theorem width_pos (s : ByteArray) (pos : Nat) (h : pos < s.size) : 1 ≤ (Utf8.decode s pos).2 := by
  by_cases ha : (s[pos]'h).toNat < 128
  · rw [decode_ascii s pos h ha]
    exact Nat.le_refl _
  · exact (decode_high s pos h (by omega)).2
def restP (s : ByteArray) : Bool := !s.toList.isEmpty && (decide ((s.size : Int) ≤ 24) && (if h : 0 < s.size then ((s[0].toNat : Int) != 46) else false))
def nameP (s : ByteArray) : Bool := runesOk s s.size 0 && restP s
theorem name_any (s : ByteArray) (hs : s.size ≤ maxLen) (w : World) : Calls Try.prog 63 #[.string s] w fun e w' => e = .returned (.bool (nameP s)) ∧ Below w.heap.size w w' := by
  have hs9 : s.size ≤ 9223372036854775807 := by simp only [maxLen] at hs; omega
  go_enter Try.func63, Try.ntmps63
  go_wp2_with fail
  go_loopw [] (fun wr => ∃ (pos fuel : Nat), wr.heap[w.heap.size]? = some (.stringIter s pos) ∧ Below w.heap.size w wr ∧ runesOk s s.size 0 = runesOk s fuel pos ∧ s.size ≤ pos + fuel) (fun wr => s.size - wr.iterPos w.heap.size)
  case atStart =>
    refine ⟨0, s.size, ?_, (Below.refl _ w).alloc (Nat.le_refl _) _, rfl, by omega⟩
    have := World.iter_heap w s 0
    simpa using this
  case round =>
    obtain ⟨pos, fuel, hit, hbw, hok, hfu⟩ := hrel
    have hsz : w.heap.size < wr.heap.size := (Array.getElem?_eq_some_iff.1 hit).1
    by_cases hp : pos < s.size
    · have hnx : ∀ ty, (Instr.next (.pointer (some ⟨w.heap.size, 0, none⟩)) true ty).run Try.prog wr = _ := fun ty => Lib.run_next_any_at wr w.heap.size s pos ty hit hp
      have hwd := width_pos s pos hp
      have hd1 := decode_le s pos
      have hit2 := Lib.iterAt_heap wr w.heap.size s pos (pos + (Utf8.decode s pos).2) hit
      have hbw2 := Lib.below_iterAt hbw (k := w.heap.size) (by omega) s (pos + (Utf8.decode s pos).2)
      obtain ⟨f, rfl⟩ : ∃ f, fuel = f + 1 := ⟨fuel - 1, by omega⟩
      have hst : runesOk s (f + 1) pos = (signP ((Utf8.decode s pos).1 : Int) && runesOk s f (pos + (Utf8.decode s pos).2)) := by rw [runesOk, if_pos hp]
      rw [hst] at hok
      have HOK := hide hok
      have HB2 := hide hbw2
      clear hok hst hbw2
      obtain ⟨wn, hwn⟩ : ∃ wn, wn = wr.iterAt w.heap.size s (pos + (Utf8.decode s pos).2) := ⟨_, rfl⟩
      have HWN := hide hwn
      go_wp2_with fail
      rw [← HWN.out]
      refine (sign_any ((Utf8.decode s pos).1 : Int) (by omega) wn).mono ?_
      rintro e w' ⟨rfl, rfl⟩
      dsimp only
      rw [hwn] 
      by_cases hsg : signP ((Utf8.decode s pos).1 : Int) = true
      · have hok2 := HOK.out
        rw [hsg, Bool.true_and] at hok2
        have HO2 := hide hok2
        clear hok2 hwn HWN
        go_wp2_with fail
        go_roundw
        case rel => exact ⟨pos + (Utf8.decode s pos).2, f, hit2, HB2.out, HO2.out, by omega⟩
        case measure =>
          simp only [World.iterPos, hit2, hit]
          omega
      · have hsg' : signP ((Utf8.decode s pos).1 : Int) = false := by simpa using hsg
        have hnm : nameP s = false := by unfold nameP; rw [HOK.out, hsg']; rfl
        have HNM := hide hnm
        clear hnm hwn HWN
        go_wp2_with fail
        go_ret
        exact ⟨by rw [HNM.out]; rfl, HB2.out⟩
    · have hnx : ∀ ty, (Instr.next (.pointer (some ⟨w.heap.size, 0, none⟩)) true ty).run Try.prog wr = _ := fun ty => Lib.run_next_end_at wr w.heap.size s pos ty hit hp
      rw [runesOk_end s fuel pos hp] at hok
      have hnm : nameP s = restP s := by unfold nameP; rw [hok]; rfl
      have HNM := hide hnm
      have HBW := hide hbw
      clear hnm hok hbw
      by_cases h0 : s = ⟨#[]⟩
      · subst h0
        have e0 : restP ⟨#[]⟩ = false := by kernel_rfl
        rw [e0] at HNM
        go_wp2_with fail
        go_ret
        exact ⟨by rw [HNM.out]; rfl, HBW.out⟩
      · have h1 : 0 < s.size := by
          rcases Nat.eq_zero_or_pos s.size with h | h
          · exact absurd (by cases s with | mk a => simp [ByteArray.size] at h; rw [h]) h0
          · exact h
        cases hem : s.toList.isEmpty with
        | true =>
          have e : restP s = false := by unfold restP; rw [hem]; rfl
          rw [e] at HNM
          go_wp2_with fail
          go_ret
          exact ⟨by rw [HNM.out]; rfl, HBW.out⟩
        | false =>
          by_cases h24 : (s.size : Int) ≤ 24
          · have e : restP s = ((s[0].toNat : Int) != 46) := by unfold restP; rw [hem, decide_eq_true h24, dif_pos h1]; rfl
            rw [e] at HNM
            go_wp2_with fail
            go_ret
            exact ⟨by rw [HNM.out]; rfl, HBW.out⟩
          · have e : restP s = false := by unfold restP; rw [hem, decide_eq_false h24]; rfl
            rw [e] at HNM
            go_wp2_with fail
            go_ret
            exact ⟨by rw [HNM.out]; rfl, HBW.out⟩
end Go.Proofs.Ytidiepbmbbflhaa
