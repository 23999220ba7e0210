/- More small words: slices of arrays behind a pointer. -/
import Derived.Test.YtidiepbmbbflhaaBase
namespace Go.Proofs.Ytidiepbmbbflhaa
open Go.RowKit

section
variable {P : Program} (t e n : Nat) (ht : P.underlying t = some (.array n e)) (hs : (P.info? e).map (·.size) = some 1)
include ht hs
theorem run_sliceAt_l (b o q : Nat) (hq : q < n) (w : World) :
    (Instr.sliceAt t (.pointer (some ⟨b, o, none⟩)) (some (.int .i64 (q : Int))) none none).run P w = .ok (.slice (some ⟨b, o + q, none⟩) (n - q) (n - q)) w := by
  have e1 : P.arrayLen t = n := by simp [Program.arrayLen, ht]
  have e2 : P.elem t = e := by simp [Program.elem, ht]
  have h := run_sliceAt_array_l (P := P) w t ⟨b, o, none⟩ (by rw [e1, e2]; exact ht) .i64 (q : Int) (by omega) (by rw [e1]; omega)
  rw [h, e1, e2]
  cases hi : P.info? e with
  | none => simp [hi] at hs
  | some i =>
    have h1 : i.size = 1 := by simpa [hi] using hs
    have h2 : ¬ n = q := by omega
    simp [sizeOf, typeInfo, hi, h1, slicedAt, h2, Addr.add_mid]
end

section
variable {P : Program} (t e : Nat) (ht : P.underlying t = some (.slice e)) (hs : (P.info? e).map (·.size) = some 1)
include ht hs
theorem run_slice_from (A : Option Addr) (len cap n : Nat) (hn : n ≤ len) (w : World) :
    (Instr.slice t (.slice A len cap) (some (.int .i64 (n : Int))) none none).run P w = .ok (.slice (if cap = n then A else A.map (·.add n)) (len - n) (cap - n)) w := by
  have e2 : P.elem t = e := by simp [Program.elem, ht]
  have h := run_slice_l (P := P) w t A len cap (by rw [e2]; exact ht) .i64 (n : Int) (by omega) (by omega)
  rw [h, e2]
  cases hi : P.info? e with
  | none => simp [hi] at hs
  | some i =>
    have h1 : i.size = 1 := by simpa [hi] using hs
    simp [sizeOf, typeInfo, hi, h1, sliced]
theorem run_sliceAt_from (A : Option Addr) (len cap n : Nat) (hn : n ≤ len) (w : World) :
    (Instr.sliceAt t (.slice A len cap) (some (.int .i64 (n : Int))) none none).run P w = .ok (.slice (if cap = n then A else A.map (·.add n)) (len - n) (cap - n)) w := by
  have e2 : P.elem t = e := by simp [Program.elem, ht]
  rw [run_sliceAt_slice w t _ _ _ _ (by rw [e2]; exact ht)]
  exact run_slice_from t e ht hs A len cap n hn w
end
end Go.Proofs.Ytidiepbmbbflhaa
