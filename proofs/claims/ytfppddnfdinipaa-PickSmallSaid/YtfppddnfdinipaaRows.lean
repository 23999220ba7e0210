/-
  No cell of these rows narrows 'for every input' (looked for: loops, veiled, ifaces, maps, wideKeys, modest, calm, conditions, laid).
  DERIVED. THE GIVEN ROWS OF THIS SEAT. 7 by the template 'for every input the law returns true; each argument reads behind the call as it read before'; 0 by the template 'total and deterministic' (their statements: YtfppddnfdinipaaTotals.lean).
  GIVEN WITH THE SEED: the statements are not yours to turn. If you find one false, say at which input.
  Laid BY PROGRAM, IN A SANDBOX (cutbox-rows.mjs): the forced cells as the released guide's own fill.sh prints them over the translation 6e4a968dbd089766… (all of the seat's roots in one cut). By AI agents, Wed Nov 11 2026. No macro, syntax, notation, axiom, sorry.
-/
import Derived.Test.YtfppddnfdinipaaChecked
import GoSem.Claim
import GoSem.ClaimJoined
import GoSem.ClaimMapViews
import Derived.JoinedTies
import Derived.KernelRfl
namespace Go.Proofs.Ytfppddnfdinipaa
/- THE CELL 'sum', in the pinned program and in every row, IS THE sha256 OF THE DUMP (.gsa) THAT YtfppddnfdinipaaProg.lean LOADS. Nothing in Lean hashes anything: it is a label: what it is worth is what the hold of that sum in a sandbox is worth. -/
noncomputable def Try.pinned : Pinned := { name := "ytfppddnfdinipaa", sum := "6e4a968dbd089766b2d8b23f2df385eb236e3f7d5fe86c26b0263b4cd7abbd15", checked := Try.checked }
namespace Rows
def none {H : Type} : Left H := { results := [], args := [] }

/-- 'spencelaw24.PickLeast': WHATEVER THE INPUT: true; the input reads as it did. -/
def pickLeastSpec : ChangeSpec := { name := "pickLeast", fn := fun _ => fun
  | [d1, d2] => { results := [.lit (.bool true)], args := [d1, d2] }
  | _ => none }
def pickLeastRow : OpenClaim := { program := "ytfppddnfdinipaa", sum := "6e4a968dbd089766b2d8b23f2df385eb236e3f7d5fe86c26b0263b4cd7abbd15", func := "spence/spencelaw24.PickLeast", spec := "pickLeast", unfollowed := true, recurses := true, plainKeys := false, apart := false }
def PickLeastSaid : Prop := pickLeastRow.holds Try.pinned (OpenSpec.ofChange pickLeastSpec)

/-- ITS FALSE NEIGHBOUR: 'it returns false'. Refute it at one input. -/
def pickLeastWrong : ChangeSpec := { name := "pickLeast", fn := fun _ => fun
  | [d1, d2] => { results := [.lit (.bool false)], args := [d1, d2] }
  | _ => none }
def PickLeastWrongFalsely : Prop := pickLeastRow.holds Try.pinned (OpenSpec.ofChange pickLeastWrong)

/-- 'spencelaw24.PickFree': WHATEVER THE INPUT: true; the input reads as it did. -/
def pickFreeSpec : ChangeSpec := { name := "pickFree", fn := fun _ => fun
  | [d1, d2] => { results := [.lit (.bool true)], args := [d1, d2] }
  | _ => none }
def pickFreeRow : OpenClaim := { program := "ytfppddnfdinipaa", sum := "6e4a968dbd089766b2d8b23f2df385eb236e3f7d5fe86c26b0263b4cd7abbd15", func := "spence/spencelaw24.PickFree", spec := "pickFree", unfollowed := true, recurses := true, plainKeys := false, apart := false }
def PickFreeSaid : Prop := pickFreeRow.holds Try.pinned (OpenSpec.ofChange pickFreeSpec)

/-- ITS FALSE NEIGHBOUR: 'it returns false'. Refute it at one input. -/
def pickFreeWrong : ChangeSpec := { name := "pickFree", fn := fun _ => fun
  | [d1, d2] => { results := [.lit (.bool false)], args := [d1, d2] }
  | _ => none }
def PickFreeWrongFalsely : Prop := pickFreeRow.holds Try.pinned (OpenSpec.ofChange pickFreeWrong)

/-- 'spencelaw24.PickSmall': WHATEVER THE INPUT: true; the input reads as it did. -/
def pickSmallSpec : ChangeSpec := { name := "pickSmall", fn := fun _ => fun
  | [] => { results := [.lit (.bool true)], args := [] }
  | _ => none }
def pickSmallRow : OpenClaim := { program := "ytfppddnfdinipaa", sum := "6e4a968dbd089766b2d8b23f2df385eb236e3f7d5fe86c26b0263b4cd7abbd15", func := "spence/spencelaw24.PickSmall", spec := "pickSmall", unfollowed := true, recurses := true, plainKeys := false, apart := false }
def PickSmallSaid : Prop := pickSmallRow.holds Try.pinned (OpenSpec.ofChange pickSmallSpec)

/-- ITS FALSE NEIGHBOUR: 'it returns false'. Refute it at one input. -/
def pickSmallWrong : ChangeSpec := { name := "pickSmall", fn := fun _ => fun
  | [] => { results := [.lit (.bool false)], args := [] }
  | _ => none }
def PickSmallWrongFalsely : Prop := pickSmallRow.holds Try.pinned (OpenSpec.ofChange pickSmallWrong)

/-- 'spencelaw24.PickBest': WHATEVER THE INPUT: true; the input reads as it did. -/
def pickBestSpec : ChangeSpec := { name := "pickBest", fn := fun _ => fun
  | [d] => { results := [.lit (.bool true)], args := [d] }
  | _ => none }
def pickBestRow : OpenClaim := { program := "ytfppddnfdinipaa", sum := "6e4a968dbd089766b2d8b23f2df385eb236e3f7d5fe86c26b0263b4cd7abbd15", func := "spence/spencelaw24.PickBest", spec := "pickBest", unfollowed := true, recurses := true, plainKeys := false, apart := false }
def PickBestSaid : Prop := pickBestRow.holds Try.pinned (OpenSpec.ofChange pickBestSpec)

/-- ITS FALSE NEIGHBOUR: 'it returns false'. Refute it at one input. -/
def pickBestWrong : ChangeSpec := { name := "pickBest", fn := fun _ => fun
  | [d] => { results := [.lit (.bool false)], args := [d] }
  | _ => none }
def PickBestWrongFalsely : Prop := pickBestRow.holds Try.pinned (OpenSpec.ofChange pickBestWrong)

/-- 'spencelaw24.PickFuel': WHATEVER THE INPUT: true; the input reads as it did. -/
def pickFuelSpec : ChangeSpec := { name := "pickFuel", fn := fun _ => fun
  | [d1, d2] => { results := [.lit (.bool true)], args := [d1, d2] }
  | _ => none }
def pickFuelRow : OpenClaim := { program := "ytfppddnfdinipaa", sum := "6e4a968dbd089766b2d8b23f2df385eb236e3f7d5fe86c26b0263b4cd7abbd15", func := "spence/spencelaw24.PickFuel", spec := "pickFuel", unfollowed := true, recurses := true, plainKeys := false, apart := false }
def PickFuelSaid : Prop := pickFuelRow.holds Try.pinned (OpenSpec.ofChange pickFuelSpec)

/-- ITS FALSE NEIGHBOUR: 'it returns false'. Refute it at one input. -/
def pickFuelWrong : ChangeSpec := { name := "pickFuel", fn := fun _ => fun
  | [d1, d2] => { results := [.lit (.bool false)], args := [d1, d2] }
  | _ => none }
def PickFuelWrongFalsely : Prop := pickFuelRow.holds Try.pinned (OpenSpec.ofChange pickFuelWrong)

/-- 'spencelaw07.BlobKeeps': WHATEVER THE INPUT: true; the input reads as it did. -/
def blobKeepsSpec : ChangeSpec := { name := "blobKeeps", fn := fun _ => fun
  | [d1, d2, d3] => { results := [.lit (.bool true)], args := [d1, d2, d3] }
  | _ => none }
def blobKeepsRow : OpenClaim := { program := "ytfppddnfdinipaa", sum := "6e4a968dbd089766b2d8b23f2df385eb236e3f7d5fe86c26b0263b4cd7abbd15", func := "spence/spencelaw07.BlobKeeps", spec := "blobKeeps", unfollowed := true, recurses := true, plainKeys := false, apart := false }
def BlobKeepsSaid : Prop := blobKeepsRow.holds Try.pinned (OpenSpec.ofChange blobKeepsSpec)

/-- ITS FALSE NEIGHBOUR: 'it returns false'. Refute it at one input. -/
def blobKeepsWrong : ChangeSpec := { name := "blobKeeps", fn := fun _ => fun
  | [d1, d2, d3] => { results := [.lit (.bool false)], args := [d1, d2, d3] }
  | _ => none }
def BlobKeepsWrongFalsely : Prop := blobKeepsRow.holds Try.pinned (OpenSpec.ofChange blobKeepsWrong)

/-- 'spencelaw07.BlobEnds': WHATEVER THE INPUT: true; the input reads as it did. -/
def blobEndsSpec : ChangeSpec := { name := "blobEnds", fn := fun _ => fun
  | [] => { results := [.lit (.bool true)], args := [] }
  | _ => none }
def blobEndsRow : OpenClaim := { program := "ytfppddnfdinipaa", sum := "6e4a968dbd089766b2d8b23f2df385eb236e3f7d5fe86c26b0263b4cd7abbd15", func := "spence/spencelaw07.BlobEnds", spec := "blobEnds", unfollowed := true, recurses := true, plainKeys := false, apart := false }
def BlobEndsSaid : Prop := blobEndsRow.holds Try.pinned (OpenSpec.ofChange blobEndsSpec)

/-- ITS FALSE NEIGHBOUR: 'it returns false'. Refute it at one input. -/
def blobEndsWrong : ChangeSpec := { name := "blobEnds", fn := fun _ => fun
  | [] => { results := [.lit (.bool false)], args := [] }
  | _ => none }
def BlobEndsWrongFalsely : Prop := blobEndsRow.holds Try.pinned (OpenSpec.ofChange blobEndsWrong)

/- THE SECOND FORM. 'bulk': how many values and letters a reading holds, each counted each time it is reached (what is shared counts as often as it is met; a slice's spare places count too). A statement '..UptoSaid' is the law's where the arguments, and the package variables that the reading takes, are together of bulk at most 1048576: NARROWER than '..Said'. Prove '..Said' where nothing that the law and all that it calls make is longer than what came in: it says more and counts as full. Else prove '..UptoSaid'. A law counts once. -/
mutual
def uptoBulk {H : Type} : DataW H → Nat
  | .lit (.string bytes) => bytes.length + 1
  | .lit _ => 1
  | .nil => 1
  | .ptr d => uptoBulk d + 1
  | .slice elems spare => uptoBulkAll elems + uptoBulkAll spare + 1
  | .agg parts => uptoBulkAll parts + 1
  | .iface _ d => uptoBulk d + 1
  | .map entries => uptoBulkEntries entries + 1
  | .held _ => 1
def uptoBulkAll {H : Type} : List (DataW H) → Nat
  | [] => 0
  | d :: r => uptoBulk d + uptoBulkAll r
def uptoBulkEntries {H : Type} : List (Lit × DataW H) → Nat
  | [] => 0
  | x :: r => uptoBulkEntry x + uptoBulkEntries r
def uptoBulkEntry {H : Type} : Lit × DataW H → Nat
  | (.string bytes, d) => bytes.length + uptoBulk d + 1
  | (_, d) => uptoBulk d + 1
 end
def uptoSmall : (H : Type) → List (DataW H) → Bool := fun _ ds => decide (uptoBulkAll ds ≤ 1048576)
def OpenSpec.upto (s : _root_.Go.ChangeSpec) : _root_.Go.OpenSpec := { _root_.Go.OpenSpec.ofChange s with cond := some uptoSmall }

/-- 'spencelaw24.PickLeast', WHERE WHAT IT READS IS OF BULK AT MOST 1048576: true; the input reads as it did. -/
def pickLeastUptoRow : OpenClaim := { program := "ytfppddnfdinipaa", sum := "6e4a968dbd089766b2d8b23f2df385eb236e3f7d5fe86c26b0263b4cd7abbd15", func := "spence/spencelaw24.PickLeast", spec := "pickLeast", unfollowed := true, recurses := true, plainKeys := false, apart := false, narrowed := true }
def PickLeastUptoSaid : Prop := pickLeastUptoRow.holds Try.pinned (OpenSpec.upto pickLeastSpec)

/-- 'spencelaw24.PickFree', WHERE WHAT IT READS IS OF BULK AT MOST 1048576: true; the input reads as it did. -/
def pickFreeUptoRow : OpenClaim := { program := "ytfppddnfdinipaa", sum := "6e4a968dbd089766b2d8b23f2df385eb236e3f7d5fe86c26b0263b4cd7abbd15", func := "spence/spencelaw24.PickFree", spec := "pickFree", unfollowed := true, recurses := true, plainKeys := false, apart := false, narrowed := true }
def PickFreeUptoSaid : Prop := pickFreeUptoRow.holds Try.pinned (OpenSpec.upto pickFreeSpec)

/-- 'spencelaw24.PickSmall', WHERE WHAT IT READS IS OF BULK AT MOST 1048576: true; the input reads as it did. -/
def pickSmallUptoRow : OpenClaim := { program := "ytfppddnfdinipaa", sum := "6e4a968dbd089766b2d8b23f2df385eb236e3f7d5fe86c26b0263b4cd7abbd15", func := "spence/spencelaw24.PickSmall", spec := "pickSmall", unfollowed := true, recurses := true, plainKeys := false, apart := false, narrowed := true }
def PickSmallUptoSaid : Prop := pickSmallUptoRow.holds Try.pinned (OpenSpec.upto pickSmallSpec)

/-- 'spencelaw24.PickBest', WHERE WHAT IT READS IS OF BULK AT MOST 1048576: true; the input reads as it did. -/
def pickBestUptoRow : OpenClaim := { program := "ytfppddnfdinipaa", sum := "6e4a968dbd089766b2d8b23f2df385eb236e3f7d5fe86c26b0263b4cd7abbd15", func := "spence/spencelaw24.PickBest", spec := "pickBest", unfollowed := true, recurses := true, plainKeys := false, apart := false, narrowed := true }
def PickBestUptoSaid : Prop := pickBestUptoRow.holds Try.pinned (OpenSpec.upto pickBestSpec)

/-- 'spencelaw24.PickFuel', WHERE WHAT IT READS IS OF BULK AT MOST 1048576: true; the input reads as it did. -/
def pickFuelUptoRow : OpenClaim := { program := "ytfppddnfdinipaa", sum := "6e4a968dbd089766b2d8b23f2df385eb236e3f7d5fe86c26b0263b4cd7abbd15", func := "spence/spencelaw24.PickFuel", spec := "pickFuel", unfollowed := true, recurses := true, plainKeys := false, apart := false, narrowed := true }
def PickFuelUptoSaid : Prop := pickFuelUptoRow.holds Try.pinned (OpenSpec.upto pickFuelSpec)

/-- 'spencelaw07.BlobKeeps', WHERE WHAT IT READS IS OF BULK AT MOST 1048576: true; the input reads as it did. -/
def blobKeepsUptoRow : OpenClaim := { program := "ytfppddnfdinipaa", sum := "6e4a968dbd089766b2d8b23f2df385eb236e3f7d5fe86c26b0263b4cd7abbd15", func := "spence/spencelaw07.BlobKeeps", spec := "blobKeeps", unfollowed := true, recurses := true, plainKeys := false, apart := false, narrowed := true }
def BlobKeepsUptoSaid : Prop := blobKeepsUptoRow.holds Try.pinned (OpenSpec.upto blobKeepsSpec)

/-- 'spencelaw07.BlobEnds', WHERE WHAT IT READS IS OF BULK AT MOST 1048576: true; the input reads as it did. -/
def blobEndsUptoRow : OpenClaim := { program := "ytfppddnfdinipaa", sum := "6e4a968dbd089766b2d8b23f2df385eb236e3f7d5fe86c26b0263b4cd7abbd15", func := "spence/spencelaw07.BlobEnds", spec := "blobEnds", unfollowed := true, recurses := true, plainKeys := false, apart := false, narrowed := true }
def BlobEndsUptoSaid : Prop := blobEndsUptoRow.holds Try.pinned (OpenSpec.upto blobEndsSpec)

end Rows
end Go.Proofs.Ytfppddnfdinipaa
