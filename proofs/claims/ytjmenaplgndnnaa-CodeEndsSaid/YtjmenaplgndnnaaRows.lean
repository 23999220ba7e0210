/-
  No cell of these rows narrows 'for every input' (looked for: loops, veiled, ifaces, maps, wideKeys, modest, calm, conditions, laid).
  DERIVED. THE GIVEN ROWS OF THIS SEAT. 4 by the template 'for every input the law returns true; each argument reads behind the call as it read before'; 0 by the template 'total and deterministic' (their statements: YtjmenaplgndnnaaTotals.lean).
  GIVEN WITH THE SEED: the statements are not yours to turn. If you find one false, say at which input.
  Laid BY PROGRAM, IN A SANDBOX (cutbox-rows.mjs): the forced cells as the released guide's own fill.sh prints them over the translation f6e2b812591b2841… (all of the seat's roots in one cut). By AI agents, Wed Nov 11 2026. No macro, syntax, notation, axiom, sorry.
-/
import Derived.Test.YtjmenaplgndnnaaChecked
import GoSem.Claim
import GoSem.ClaimJoined
import GoSem.ClaimMapViews
import Derived.JoinedTies
import Derived.KernelRfl
namespace Go.Proofs.Ytjmenaplgndnnaa
/- THE CELL 'sum', in the pinned program and in every row, IS THE sha256 OF THE DUMP (.gsa) THAT YtjmenaplgndnnaaProg.lean LOADS. Nothing in Lean hashes anything: it is a label: what it is worth is what the hold of that sum in a sandbox is worth. -/
noncomputable def Try.pinned : Pinned := { name := "ytjmenaplgndnnaa", sum := "f6e2b812591b2841044d29aa33c4132c13f50ddc5ce5c16da1f60cd9da16925d", checked := Try.checked }
namespace Rows
def none {H : Type} : Left H := { results := [], args := [] }

/-- 'spencelaw01.CodeMakes': WHATEVER THE INPUT: true; the input reads as it did. -/
def codeMakesSpec : ChangeSpec := { name := "codeMakes", fn := fun _ => fun
  | [d] => { results := [.lit (.bool true)], args := [d] }
  | _ => none }
def codeMakesRow : OpenClaim := { program := "ytjmenaplgndnnaa", sum := "f6e2b812591b2841044d29aa33c4132c13f50ddc5ce5c16da1f60cd9da16925d", func := "spence/spencelaw01.CodeMakes", spec := "codeMakes", recurses := true, apart := false }
def CodeMakesSaid : Prop := codeMakesRow.holds Try.pinned (OpenSpec.ofChange codeMakesSpec)

/-- ITS FALSE NEIGHBOUR: 'it returns false'. Refute it at one input. -/
def codeMakesWrong : ChangeSpec := { name := "codeMakes", fn := fun _ => fun
  | [d] => { results := [.lit (.bool false)], args := [d] }
  | _ => none }
def CodeMakesWrongFalsely : Prop := codeMakesRow.holds Try.pinned (OpenSpec.ofChange codeMakesWrong)

/-- 'spencelaw01.CodeEnds': WHATEVER THE INPUT: true; the input reads as it did. -/
def codeEndsSpec : ChangeSpec := { name := "codeEnds", fn := fun _ => fun
  | [] => { results := [.lit (.bool true)], args := [] }
  | _ => none }
def codeEndsRow : OpenClaim := { program := "ytjmenaplgndnnaa", sum := "f6e2b812591b2841044d29aa33c4132c13f50ddc5ce5c16da1f60cd9da16925d", func := "spence/spencelaw01.CodeEnds", spec := "codeEnds", recurses := true, apart := false }
def CodeEndsSaid : Prop := codeEndsRow.holds Try.pinned (OpenSpec.ofChange codeEndsSpec)

/-- ITS FALSE NEIGHBOUR: 'it returns false'. Refute it at one input. -/
def codeEndsWrong : ChangeSpec := { name := "codeEnds", fn := fun _ => fun
  | [] => { results := [.lit (.bool false)], args := [] }
  | _ => none }
def CodeEndsWrongFalsely : Prop := codeEndsRow.holds Try.pinned (OpenSpec.ofChange codeEndsWrong)

/-- 'spencelaw02.HashFolds': WHATEVER THE INPUT: true; the input reads as it did. -/
def hashFoldsSpec : ChangeSpec := { name := "hashFolds", fn := fun _ => fun
  | [d1, d2, d3] => { results := [.lit (.bool true)], args := [d1, d2, d3] }
  | _ => none }
def hashFoldsRow : OpenClaim := { program := "ytjmenaplgndnnaa", sum := "f6e2b812591b2841044d29aa33c4132c13f50ddc5ce5c16da1f60cd9da16925d", func := "spence/spencelaw02.HashFolds", spec := "hashFolds", apart := false }
def HashFoldsSaid : Prop := hashFoldsRow.holds Try.pinned (OpenSpec.ofChange hashFoldsSpec)

/-- ITS FALSE NEIGHBOUR: 'it returns false'. Refute it at one input. -/
def hashFoldsWrong : ChangeSpec := { name := "hashFolds", fn := fun _ => fun
  | [d1, d2, d3] => { results := [.lit (.bool false)], args := [d1, d2, d3] }
  | _ => none }
def HashFoldsWrongFalsely : Prop := hashFoldsRow.holds Try.pinned (OpenSpec.ofChange hashFoldsWrong)

/-- 'spencelaw02.HashEnds': WHATEVER THE INPUT: true; the input reads as it did. -/
def hashEndsSpec : ChangeSpec := { name := "hashEnds", fn := fun _ => fun
  | [] => { results := [.lit (.bool true)], args := [] }
  | _ => none }
def hashEndsRow : OpenClaim := { program := "ytjmenaplgndnnaa", sum := "f6e2b812591b2841044d29aa33c4132c13f50ddc5ce5c16da1f60cd9da16925d", func := "spence/spencelaw02.HashEnds", spec := "hashEnds", apart := false }
def HashEndsSaid : Prop := hashEndsRow.holds Try.pinned (OpenSpec.ofChange hashEndsSpec)

/-- ITS FALSE NEIGHBOUR: 'it returns false'. Refute it at one input. -/
def hashEndsWrong : ChangeSpec := { name := "hashEnds", fn := fun _ => fun
  | [] => { results := [.lit (.bool false)], args := [] }
  | _ => none }
def HashEndsWrongFalsely : Prop := hashEndsRow.holds Try.pinned (OpenSpec.ofChange hashEndsWrong)

/- THE SECOND FORM. 'bulk': how many values and letters a reading holds, each counted each time it is reached (what is shared counts as often as it is met; a slice's spare places count too). A statement '..UptoSaid' is the law's where the arguments, and the package variables that the reading takes, are together of bulk at most 1048576: NARROWER than '..Said'. Prove '..Said' where nothing that the law and all that it calls make is longer than what came in: it says more and counts as full. Else prove '..UptoSaid'. A law counts once. -/
mutual
def uptoBulk {H : Type} : DataW H → Nat
  | .lit (.string bytes) => bytes.length + 1
  | .lit _ => 1
  | .nil => 1
  | .ptr d => uptoBulk d + 1
  | .slice elems spare => uptoBulkAll elems + uptoBulkAll spare + 1
  | .agg parts => uptoBulkAll parts + 1
  | .iface _ d => uptoBulk d + 1
  | .map entries => uptoBulkEntries entries + 1
  | .held _ => 1
def uptoBulkAll {H : Type} : List (DataW H) → Nat
  | [] => 0
  | d :: r => uptoBulk d + uptoBulkAll r
def uptoBulkEntries {H : Type} : List (Lit × DataW H) → Nat
  | [] => 0
  | x :: r => uptoBulkEntry x + uptoBulkEntries r
def uptoBulkEntry {H : Type} : Lit × DataW H → Nat
  | (.string bytes, d) => bytes.length + uptoBulk d + 1
  | (_, d) => uptoBulk d + 1
 end
def uptoSmall : (H : Type) → List (DataW H) → Bool := fun _ ds => decide (uptoBulkAll ds ≤ 1048576)
def OpenSpec.upto (s : _root_.Go.ChangeSpec) : _root_.Go.OpenSpec := { _root_.Go.OpenSpec.ofChange s with cond := some uptoSmall }

/-- 'spencelaw01.CodeMakes', WHERE WHAT IT READS IS OF BULK AT MOST 1048576: true; the input reads as it did. -/
def codeMakesUptoRow : OpenClaim := { program := "ytjmenaplgndnnaa", sum := "f6e2b812591b2841044d29aa33c4132c13f50ddc5ce5c16da1f60cd9da16925d", func := "spence/spencelaw01.CodeMakes", spec := "codeMakes", recurses := true, apart := false, narrowed := true }
def CodeMakesUptoSaid : Prop := codeMakesUptoRow.holds Try.pinned (OpenSpec.upto codeMakesSpec)

/-- 'spencelaw01.CodeEnds', WHERE WHAT IT READS IS OF BULK AT MOST 1048576: true; the input reads as it did. -/
def codeEndsUptoRow : OpenClaim := { program := "ytjmenaplgndnnaa", sum := "f6e2b812591b2841044d29aa33c4132c13f50ddc5ce5c16da1f60cd9da16925d", func := "spence/spencelaw01.CodeEnds", spec := "codeEnds", recurses := true, apart := false, narrowed := true }
def CodeEndsUptoSaid : Prop := codeEndsUptoRow.holds Try.pinned (OpenSpec.upto codeEndsSpec)

/-- 'spencelaw02.HashFolds', WHERE WHAT IT READS IS OF BULK AT MOST 1048576: true; the input reads as it did. -/
def hashFoldsUptoRow : OpenClaim := { program := "ytjmenaplgndnnaa", sum := "f6e2b812591b2841044d29aa33c4132c13f50ddc5ce5c16da1f60cd9da16925d", func := "spence/spencelaw02.HashFolds", spec := "hashFolds", apart := false, narrowed := true }
def HashFoldsUptoSaid : Prop := hashFoldsUptoRow.holds Try.pinned (OpenSpec.upto hashFoldsSpec)

/-- 'spencelaw02.HashEnds', WHERE WHAT IT READS IS OF BULK AT MOST 1048576: true; the input reads as it did. -/
def hashEndsUptoRow : OpenClaim := { program := "ytjmenaplgndnnaa", sum := "f6e2b812591b2841044d29aa33c4132c13f50ddc5ce5c16da1f60cd9da16925d", func := "spence/spencelaw02.HashEnds", spec := "hashEnds", apart := false, narrowed := true }
def HashEndsUptoSaid : Prop := hashEndsUptoRow.holds Try.pinned (OpenSpec.upto hashEndsSpec)

end Rows
end Go.Proofs.Ytjmenaplgndnnaa
