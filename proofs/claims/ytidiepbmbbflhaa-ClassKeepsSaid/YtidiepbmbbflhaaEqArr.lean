/- Arrays of bytes against one another. -/
import Derived.Test.YtidiepbmbbflhaaBase3
import Derived.Test.YtidiepbmbbflhaaBytes
import Derived.Stop.BytesEq
namespace Go.Proofs.Ytidiepbmbbflhaa
open Go.RowKit
theorem size_run {P : Program} (e : Nat) (hs : (P.info? e).map (·.size) = some 1) (w : World) : (sizeOf e).run P w = .ok 1 w := by
  cases hq : P.info? e with
  | none => simp [hq] at hs
  | some j =>
    have h1 : j.size = 1 := by simpa [hq] using hs
    simp [sizeOf, typeInfo, hq, h1]
section
variable {P : Program} (t e n : Nat) (ht : P.underlying t = some (.array n e)) (he : P.underlying e = some (.int .u8)) (hs : (P.info? e).map (·.size) = some 1)
include ht he hs
theorem run_eql_bv (xs ys : List UInt8) (hx : xs.length = n) (hy : ys.length = n) (w : World) :
    (binOp .eql t (.agg (bv xs).toArray) (.agg (bv ys).toArray)).run P w = .ok (.bool (xs == ys)) w :=
  run_eql_bytes w t e n ht he (size_run e hs) xs ys hx hy
theorem run_neq_bv (xs ys : List UInt8) (hx : xs.length = n) (hy : ys.length = n) (w : World) :
    (binOp .neq t (.agg (bv xs).toArray) (.agg (bv ys).toArray)).run P w = .ok (.bool (!(xs == ys))) w := by
  have h := run_equalIn_bytes (P := P) w 9998 t e n ht he (size_run e hs) xs ys hx hy
  have e2 : (Op.equal t (.agg (bv xs).toArray) (.agg (bv ys).toArray)).run P w = .ok (xs == ys) w := h
  simp only [binOp, Sem.run_bind, e2, Result.andThen_ok, Sem.run_pure]
end
end Go.Proofs.Ytidiepbmbbflhaa
