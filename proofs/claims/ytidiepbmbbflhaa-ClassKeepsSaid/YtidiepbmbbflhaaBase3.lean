/- More small words: an element of an array by value. -/
import Derived.Test.YtidiepbmbbflhaaBase2
namespace Go.Proofs.Ytidiepbmbbflhaa
open Go.RowKit
theorem run_index_int {P : Program} (t e n : Nat) (k : IntKind) (ht : P.underlying t = some (.array n e)) (he : P.underlying e = some (.int k)) (hs : (P.info? e).map (·.size) = some 1)
    (cs : Array Value) (i : Nat) (hi : i < n) (v : Value) (hv : cs[i]? = some v) (w : World) : (Instr.index t (.agg cs) (.int .i64 (i : Int))).run P w = .ok v w := by
  cases hq : P.info? e with
  | none => simp [hq] at hs
  | some j =>
    have h1 : j.size = 1 := by simpa [hq] using hs
    simp [Instr.index, asIntOf, run_underlying ht, hi, part, isAgg, run_underlying he, sizeOf, typeInfo, hq, h1, hv]
end Go.Proofs.Ytidiepbmbbflhaa
