/-
  No cell of these rows narrows 'for every input' (looked for: loops, veiled, ifaces, maps, wideKeys, modest, calm, conditions, laid).
  DERIVED. THE GIVEN ROWS OF THIS SEAT. 9 by the template 'for every input the law returns true; each argument reads behind the call as it read before'; 0 by the template 'total and deterministic' (their statements: YtajeohmmobgcjaaTotals.lean).
  GIVEN WITH THE SEED: the statements are not yours to turn. If you find one false, say at which input.
  Laid BY PROGRAM, IN A SANDBOX (cutbox-rows.mjs): the forced cells as the released guide's own fill.sh prints them over the translation 4ae20ae81e260d32… (all of the seat's roots in one cut). By AI agents, Wed Nov 11 2026. No macro, syntax, notation, axiom, sorry.
-/
import Derived.Test.YtajeohmmobgcjaaChecked
import GoSem.Claim
import GoSem.ClaimJoined
import GoSem.ClaimMapViews
import Derived.JoinedTies
import Derived.KernelRfl
namespace Go.Proofs.Ytajeohmmobgcjaa
/- THE CELL 'sum', in the pinned program and in every row, IS THE sha256 OF THE DUMP (.gsa) THAT YtajeohmmobgcjaaProg.lean LOADS. Nothing in Lean hashes anything: it is a label: what it is worth is what the hold of that sum in a sandbox is worth. -/
noncomputable def Try.pinned : Pinned := { name := "ytajeohmmobgcjaa", sum := "4ae20ae81e260d321aebfbf81957ab8f6dca51f22f406edc09f85c853bae770f", checked := Try.checked }
namespace Rows
def none {H : Type} : Left H := { results := [], args := [] }

/-- 'spencelaw07.BlobFinds': WHATEVER THE INPUT: true; the input reads as it did. -/
def blobFindsSpec : ChangeSpec := { name := "blobFinds", fn := fun _ => fun
  | [d1, d2, d3] => { results := [.lit (.bool true)], args := [d1, d2, d3] }
  | _ => none }
def blobFindsRow : OpenClaim := { program := "ytajeohmmobgcjaa", sum := "4ae20ae81e260d321aebfbf81957ab8f6dca51f22f406edc09f85c853bae770f", func := "spence/spencelaw07.BlobFinds", spec := "blobFinds", unfollowed := true, recurses := true, apart := false }
def BlobFindsSaid : Prop := blobFindsRow.holds Try.pinned (OpenSpec.ofChange blobFindsSpec)

/-- ITS FALSE NEIGHBOUR: 'it returns false'. Refute it at one input. -/
def blobFindsWrong : ChangeSpec := { name := "blobFinds", fn := fun _ => fun
  | [d1, d2, d3] => { results := [.lit (.bool false)], args := [d1, d2, d3] }
  | _ => none }
def BlobFindsWrongFalsely : Prop := blobFindsRow.holds Try.pinned (OpenSpec.ofChange blobFindsWrong)

/-- 'spencelaw07.BlobFirst': WHATEVER THE INPUT: true; the input reads as it did. -/
def blobFirstSpec : ChangeSpec := { name := "blobFirst", fn := fun _ => fun
  | [d1, d2, d3] => { results := [.lit (.bool true)], args := [d1, d2, d3] }
  | _ => none }
def blobFirstRow : OpenClaim := { program := "ytajeohmmobgcjaa", sum := "4ae20ae81e260d321aebfbf81957ab8f6dca51f22f406edc09f85c853bae770f", func := "spence/spencelaw07.BlobFirst", spec := "blobFirst", unfollowed := true, recurses := true, apart := false }
def BlobFirstSaid : Prop := blobFirstRow.holds Try.pinned (OpenSpec.ofChange blobFirstSpec)

/-- ITS FALSE NEIGHBOUR: 'it returns false'. Refute it at one input. -/
def blobFirstWrong : ChangeSpec := { name := "blobFirst", fn := fun _ => fun
  | [d1, d2, d3] => { results := [.lit (.bool false)], args := [d1, d2, d3] }
  | _ => none }
def BlobFirstWrongFalsely : Prop := blobFirstRow.holds Try.pinned (OpenSpec.ofChange blobFirstWrong)

/-- 'spencelaw04.DevWhole': WHATEVER THE INPUT: true; the input reads as it did. -/
def devWholeSpec : ChangeSpec := { name := "devWhole", fn := fun _ => fun
  | [d1, d2, d3, d4] => { results := [.lit (.bool true)], args := [d1, d2, d3, d4] }
  | _ => none }
def devWholeRow : OpenClaim := { program := "ytajeohmmobgcjaa", sum := "4ae20ae81e260d321aebfbf81957ab8f6dca51f22f406edc09f85c853bae770f", func := "spence/spencelaw04.DevWhole", spec := "devWhole", unfollowed := true, recurses := true, apart := false }
def DevWholeSaid : Prop := devWholeRow.holds Try.pinned (OpenSpec.ofChange devWholeSpec)

/-- ITS FALSE NEIGHBOUR: 'it returns false'. Refute it at one input. -/
def devWholeWrong : ChangeSpec := { name := "devWhole", fn := fun _ => fun
  | [d1, d2, d3, d4] => { results := [.lit (.bool false)], args := [d1, d2, d3, d4] }
  | _ => none }
def DevWholeWrongFalsely : Prop := devWholeRow.holds Try.pinned (OpenSpec.ofChange devWholeWrong)

/-- 'spencelaw04.DevFuse': WHATEVER THE INPUT: true; the input reads as it did. -/
def devFuseSpec : ChangeSpec := { name := "devFuse", fn := fun _ => fun
  | [d1, d2] => { results := [.lit (.bool true)], args := [d1, d2] }
  | _ => none }
def devFuseRow : OpenClaim := { program := "ytajeohmmobgcjaa", sum := "4ae20ae81e260d321aebfbf81957ab8f6dca51f22f406edc09f85c853bae770f", func := "spence/spencelaw04.DevFuse", spec := "devFuse", unfollowed := true, recurses := true, apart := false }
def DevFuseSaid : Prop := devFuseRow.holds Try.pinned (OpenSpec.ofChange devFuseSpec)

/-- ITS FALSE NEIGHBOUR: 'it returns false'. Refute it at one input. -/
def devFuseWrong : ChangeSpec := { name := "devFuse", fn := fun _ => fun
  | [d1, d2] => { results := [.lit (.bool false)], args := [d1, d2] }
  | _ => none }
def DevFuseWrongFalsely : Prop := devFuseRow.holds Try.pinned (OpenSpec.ofChange devFuseWrong)

/-- 'spencelaw04.DevDoes': WHATEVER THE INPUT: true; the input reads as it did. -/
def devDoesSpec : ChangeSpec := { name := "devDoes", fn := fun _ => fun
  | [d1, d2] => { results := [.lit (.bool true)], args := [d1, d2] }
  | _ => none }
def devDoesRow : OpenClaim := { program := "ytajeohmmobgcjaa", sum := "4ae20ae81e260d321aebfbf81957ab8f6dca51f22f406edc09f85c853bae770f", func := "spence/spencelaw04.DevDoes", spec := "devDoes", unfollowed := true, recurses := true, apart := false }
def DevDoesSaid : Prop := devDoesRow.holds Try.pinned (OpenSpec.ofChange devDoesSpec)

/-- ITS FALSE NEIGHBOUR: 'it returns false'. Refute it at one input. -/
def devDoesWrong : ChangeSpec := { name := "devDoes", fn := fun _ => fun
  | [d1, d2] => { results := [.lit (.bool false)], args := [d1, d2] }
  | _ => none }
def DevDoesWrongFalsely : Prop := devDoesRow.holds Try.pinned (OpenSpec.ofChange devDoesWrong)

/-- 'spencelaw04.DevSteps': WHATEVER THE INPUT: true; the input reads as it did. -/
def devStepsSpec : ChangeSpec := { name := "devSteps", fn := fun _ => fun
  | [] => { results := [.lit (.bool true)], args := [] }
  | _ => none }
def devStepsRow : OpenClaim := { program := "ytajeohmmobgcjaa", sum := "4ae20ae81e260d321aebfbf81957ab8f6dca51f22f406edc09f85c853bae770f", func := "spence/spencelaw04.DevSteps", spec := "devSteps", unfollowed := true, recurses := true, apart := false }
def DevStepsSaid : Prop := devStepsRow.holds Try.pinned (OpenSpec.ofChange devStepsSpec)

/-- ITS FALSE NEIGHBOUR: 'it returns false'. Refute it at one input. -/
def devStepsWrong : ChangeSpec := { name := "devSteps", fn := fun _ => fun
  | [] => { results := [.lit (.bool false)], args := [] }
  | _ => none }
def DevStepsWrongFalsely : Prop := devStepsRow.holds Try.pinned (OpenSpec.ofChange devStepsWrong)

/-- 'spencelaw07.BlobKeeps': WHATEVER THE INPUT: true; the input reads as it did. -/
def blobKeepsSpec : ChangeSpec := { name := "blobKeeps", fn := fun _ => fun
  | [d1, d2, d3] => { results := [.lit (.bool true)], args := [d1, d2, d3] }
  | _ => none }
def blobKeepsRow : OpenClaim := { program := "ytajeohmmobgcjaa", sum := "4ae20ae81e260d321aebfbf81957ab8f6dca51f22f406edc09f85c853bae770f", func := "spence/spencelaw07.BlobKeeps", spec := "blobKeeps", unfollowed := true, recurses := true, apart := false }
def BlobKeepsSaid : Prop := blobKeepsRow.holds Try.pinned (OpenSpec.ofChange blobKeepsSpec)

/-- ITS FALSE NEIGHBOUR: 'it returns false'. Refute it at one input. -/
def blobKeepsWrong : ChangeSpec := { name := "blobKeeps", fn := fun _ => fun
  | [d1, d2, d3] => { results := [.lit (.bool false)], args := [d1, d2, d3] }
  | _ => none }
def BlobKeepsWrongFalsely : Prop := blobKeepsRow.holds Try.pinned (OpenSpec.ofChange blobKeepsWrong)

/-- 'spencelaw07.BlobWrites': WHATEVER THE INPUT: true; the input reads as it did. -/
def blobWritesSpec : ChangeSpec := { name := "blobWrites", fn := fun _ => fun
  | [d1, d2, d3] => { results := [.lit (.bool true)], args := [d1, d2, d3] }
  | _ => none }
def blobWritesRow : OpenClaim := { program := "ytajeohmmobgcjaa", sum := "4ae20ae81e260d321aebfbf81957ab8f6dca51f22f406edc09f85c853bae770f", func := "spence/spencelaw07.BlobWrites", spec := "blobWrites", unfollowed := true, recurses := true, apart := false }
def BlobWritesSaid : Prop := blobWritesRow.holds Try.pinned (OpenSpec.ofChange blobWritesSpec)

/-- ITS FALSE NEIGHBOUR: 'it returns false'. Refute it at one input. -/
def blobWritesWrong : ChangeSpec := { name := "blobWrites", fn := fun _ => fun
  | [d1, d2, d3] => { results := [.lit (.bool false)], args := [d1, d2, d3] }
  | _ => none }
def BlobWritesWrongFalsely : Prop := blobWritesRow.holds Try.pinned (OpenSpec.ofChange blobWritesWrong)

/-- 'spencelaw07.BlobEnds': WHATEVER THE INPUT: true; the input reads as it did. -/
def blobEndsSpec : ChangeSpec := { name := "blobEnds", fn := fun _ => fun
  | [] => { results := [.lit (.bool true)], args := [] }
  | _ => none }
def blobEndsRow : OpenClaim := { program := "ytajeohmmobgcjaa", sum := "4ae20ae81e260d321aebfbf81957ab8f6dca51f22f406edc09f85c853bae770f", func := "spence/spencelaw07.BlobEnds", spec := "blobEnds", unfollowed := true, recurses := true, apart := false }
def BlobEndsSaid : Prop := blobEndsRow.holds Try.pinned (OpenSpec.ofChange blobEndsSpec)

/-- ITS FALSE NEIGHBOUR: 'it returns false'. Refute it at one input. -/
def blobEndsWrong : ChangeSpec := { name := "blobEnds", fn := fun _ => fun
  | [] => { results := [.lit (.bool false)], args := [] }
  | _ => none }
def BlobEndsWrongFalsely : Prop := blobEndsRow.holds Try.pinned (OpenSpec.ofChange blobEndsWrong)

/- THE SECOND FORM. 'bulk': how many values and letters a reading holds, each counted each time it is reached (what is shared counts as often as it is met; a slice's spare places count too). A statement '..UptoSaid' is the law's where the arguments, and the package variables that the reading takes, are together of bulk at most 1048576: NARROWER than '..Said'. Prove '..Said' where nothing that the law and all that it calls make is longer than what came in: it says more and counts as full. Else prove '..UptoSaid'. A law counts once. -/
mutual
def uptoBulk {H : Type} : DataW H → Nat
  | .lit (.string bytes) => bytes.length + 1
  | .lit _ => 1
  | .nil => 1
  | .ptr d => uptoBulk d + 1
  | .slice elems spare => uptoBulkAll elems + uptoBulkAll spare + 1
  | .agg parts => uptoBulkAll parts + 1
  | .iface _ d => uptoBulk d + 1
  | .map entries => uptoBulkEntries entries + 1
  | .held _ => 1
def uptoBulkAll {H : Type} : List (DataW H) → Nat
  | [] => 0
  | d :: r => uptoBulk d + uptoBulkAll r
def uptoBulkEntries {H : Type} : List (Lit × DataW H) → Nat
  | [] => 0
  | x :: r => uptoBulkEntry x + uptoBulkEntries r
def uptoBulkEntry {H : Type} : Lit × DataW H → Nat
  | (.string bytes, d) => bytes.length + uptoBulk d + 1
  | (_, d) => uptoBulk d + 1
 end
def uptoSmall : (H : Type) → List (DataW H) → Bool := fun _ ds => decide (uptoBulkAll ds ≤ 1048576)
def OpenSpec.upto (s : _root_.Go.ChangeSpec) : _root_.Go.OpenSpec := { _root_.Go.OpenSpec.ofChange s with cond := some uptoSmall }

/-- 'spencelaw07.BlobFinds', WHERE WHAT IT READS IS OF BULK AT MOST 1048576: true; the input reads as it did. -/
def blobFindsUptoRow : OpenClaim := { program := "ytajeohmmobgcjaa", sum := "4ae20ae81e260d321aebfbf81957ab8f6dca51f22f406edc09f85c853bae770f", func := "spence/spencelaw07.BlobFinds", spec := "blobFinds", unfollowed := true, recurses := true, apart := false, narrowed := true }
def BlobFindsUptoSaid : Prop := blobFindsUptoRow.holds Try.pinned (OpenSpec.upto blobFindsSpec)

/-- 'spencelaw07.BlobFirst', WHERE WHAT IT READS IS OF BULK AT MOST 1048576: true; the input reads as it did. -/
def blobFirstUptoRow : OpenClaim := { program := "ytajeohmmobgcjaa", sum := "4ae20ae81e260d321aebfbf81957ab8f6dca51f22f406edc09f85c853bae770f", func := "spence/spencelaw07.BlobFirst", spec := "blobFirst", unfollowed := true, recurses := true, apart := false, narrowed := true }
def BlobFirstUptoSaid : Prop := blobFirstUptoRow.holds Try.pinned (OpenSpec.upto blobFirstSpec)

/-- 'spencelaw04.DevWhole', WHERE WHAT IT READS IS OF BULK AT MOST 1048576: true; the input reads as it did. -/
def devWholeUptoRow : OpenClaim := { program := "ytajeohmmobgcjaa", sum := "4ae20ae81e260d321aebfbf81957ab8f6dca51f22f406edc09f85c853bae770f", func := "spence/spencelaw04.DevWhole", spec := "devWhole", unfollowed := true, recurses := true, apart := false, narrowed := true }
def DevWholeUptoSaid : Prop := devWholeUptoRow.holds Try.pinned (OpenSpec.upto devWholeSpec)

/-- 'spencelaw04.DevFuse', WHERE WHAT IT READS IS OF BULK AT MOST 1048576: true; the input reads as it did. -/
def devFuseUptoRow : OpenClaim := { program := "ytajeohmmobgcjaa", sum := "4ae20ae81e260d321aebfbf81957ab8f6dca51f22f406edc09f85c853bae770f", func := "spence/spencelaw04.DevFuse", spec := "devFuse", unfollowed := true, recurses := true, apart := false, narrowed := true }
def DevFuseUptoSaid : Prop := devFuseUptoRow.holds Try.pinned (OpenSpec.upto devFuseSpec)

/-- 'spencelaw04.DevDoes', WHERE WHAT IT READS IS OF BULK AT MOST 1048576: true; the input reads as it did. -/
def devDoesUptoRow : OpenClaim := { program := "ytajeohmmobgcjaa", sum := "4ae20ae81e260d321aebfbf81957ab8f6dca51f22f406edc09f85c853bae770f", func := "spence/spencelaw04.DevDoes", spec := "devDoes", unfollowed := true, recurses := true, apart := false, narrowed := true }
def DevDoesUptoSaid : Prop := devDoesUptoRow.holds Try.pinned (OpenSpec.upto devDoesSpec)

/-- 'spencelaw04.DevSteps', WHERE WHAT IT READS IS OF BULK AT MOST 1048576: true; the input reads as it did. -/
def devStepsUptoRow : OpenClaim := { program := "ytajeohmmobgcjaa", sum := "4ae20ae81e260d321aebfbf81957ab8f6dca51f22f406edc09f85c853bae770f", func := "spence/spencelaw04.DevSteps", spec := "devSteps", unfollowed := true, recurses := true, apart := false, narrowed := true }
def DevStepsUptoSaid : Prop := devStepsUptoRow.holds Try.pinned (OpenSpec.upto devStepsSpec)

/-- 'spencelaw07.BlobKeeps', WHERE WHAT IT READS IS OF BULK AT MOST 1048576: true; the input reads as it did. -/
def blobKeepsUptoRow : OpenClaim := { program := "ytajeohmmobgcjaa", sum := "4ae20ae81e260d321aebfbf81957ab8f6dca51f22f406edc09f85c853bae770f", func := "spence/spencelaw07.BlobKeeps", spec := "blobKeeps", unfollowed := true, recurses := true, apart := false, narrowed := true }
def BlobKeepsUptoSaid : Prop := blobKeepsUptoRow.holds Try.pinned (OpenSpec.upto blobKeepsSpec)

/-- 'spencelaw07.BlobWrites', WHERE WHAT IT READS IS OF BULK AT MOST 1048576: true; the input reads as it did. -/
def blobWritesUptoRow : OpenClaim := { program := "ytajeohmmobgcjaa", sum := "4ae20ae81e260d321aebfbf81957ab8f6dca51f22f406edc09f85c853bae770f", func := "spence/spencelaw07.BlobWrites", spec := "blobWrites", unfollowed := true, recurses := true, apart := false, narrowed := true }
def BlobWritesUptoSaid : Prop := blobWritesUptoRow.holds Try.pinned (OpenSpec.upto blobWritesSpec)

/-- 'spencelaw07.BlobEnds', WHERE WHAT IT READS IS OF BULK AT MOST 1048576: true; the input reads as it did. -/
def blobEndsUptoRow : OpenClaim := { program := "ytajeohmmobgcjaa", sum := "4ae20ae81e260d321aebfbf81957ab8f6dca51f22f406edc09f85c853bae770f", func := "spence/spencelaw07.BlobEnds", spec := "blobEnds", unfollowed := true, recurses := true, apart := false, narrowed := true }
def BlobEndsUptoSaid : Prop := blobEndsUptoRow.holds Try.pinned (OpenSpec.upto blobEndsSpec)

end Rows
end Go.Proofs.Ytajeohmmobgcjaa
