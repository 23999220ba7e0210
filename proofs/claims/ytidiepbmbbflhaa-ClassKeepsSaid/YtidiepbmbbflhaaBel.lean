/- The relation of worlds of a drawn region that only makes memory. -/
import Derived.Test.YtidiepbmbbflhaaFre3
import Derived.Test.YtidiepbmbbflhaaFreAll
import Derived.Below
namespace Go.Proofs.Ytidiepbmbbflhaa
open Go Go.RowKit
def Bel (w w' : World) : Prop := Below w.heap.size w w'
instance : Fre.RelOk Bel where
  refl := fun w => Below.refl _ w
  trans := fun _ _ _ h k => Below.trans h (Below.mono k h.size)
  drew := fun w => (Below.refl _ w).drew
end Go.Proofs.Ytidiepbmbbflhaa
