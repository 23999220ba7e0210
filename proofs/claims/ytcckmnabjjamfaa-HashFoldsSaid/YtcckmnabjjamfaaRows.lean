/-
  No cell of these rows narrows 'for every input' (looked for: loops, veiled, ifaces, maps, wideKeys, modest, calm, conditions, laid).
  DERIVED. THE GIVEN ROWS OF THIS SEAT. 9 by the template 'for every input the law returns true; each argument reads behind the call as it read before'; 0 by the template 'total and deterministic' (their statements: YtcckmnabjjamfaaTotals.lean).
  GIVEN WITH THE SEED: the statements are not yours to turn. If you find one false, say at which input.
  Laid BY PROGRAM, IN A SANDBOX (cutbox-rows.mjs): the forced cells as the released guide's own fill.sh prints them over the translation 6548e22d3e8527c1… (all of the seat's roots in one cut). By AI agents, Wed Nov 11 2026. No macro, syntax, notation, axiom, sorry.
-/
import Derived.Test.YtcckmnabjjamfaaChecked
import GoSem.Claim
import GoSem.ClaimJoined
import GoSem.ClaimMapViews
import Derived.JoinedTies
import Derived.KernelRfl
namespace Go.Proofs.Ytcckmnabjjamfaa
/- THE CELL 'sum', in the pinned program and in every row, IS THE sha256 OF THE DUMP (.gsa) THAT YtcckmnabjjamfaaProg.lean LOADS. Nothing in Lean hashes anything: it is a label: what it is worth is what the hold of that sum in a sandbox is worth. -/
noncomputable def Try.pinned : Pinned := { name := "ytcckmnabjjamfaa", sum := "6548e22d3e8527c14cae2558435a557fd7b6aae2cf21e5faea0f32586474d326", checked := Try.checked }
namespace Rows
def none {H : Type} : Left H := { results := [], args := [] }

/-- 'spencelaw02.HashSums': WHATEVER THE INPUT: true; the input reads as it did. -/
def hashSumsSpec : ChangeSpec := { name := "hashSums", fn := fun _ => fun
  | [d] => { results := [.lit (.bool true)], args := [d] }
  | _ => none }
def hashSumsRow : OpenClaim := { program := "ytcckmnabjjamfaa", sum := "6548e22d3e8527c14cae2558435a557fd7b6aae2cf21e5faea0f32586474d326", func := "spence/spencelaw02.HashSums", spec := "hashSums", apart := false }
def HashSumsSaid : Prop := hashSumsRow.holds Try.pinned (OpenSpec.ofChange hashSumsSpec)

/-- ITS FALSE NEIGHBOUR: 'it returns false'. Refute it at one input. -/
def hashSumsWrong : ChangeSpec := { name := "hashSums", fn := fun _ => fun
  | [d] => { results := [.lit (.bool false)], args := [d] }
  | _ => none }
def HashSumsWrongFalsely : Prop := hashSumsRow.holds Try.pinned (OpenSpec.ofChange hashSumsWrong)

/-- 'spencelaw02.HashFold': WHATEVER THE INPUT: true; the input reads as it did. -/
def hashFoldSpec : ChangeSpec := { name := "hashFold", fn := fun _ => fun
  | [d1, d2, d3, d4] => { results := [.lit (.bool true)], args := [d1, d2, d3, d4] }
  | _ => none }
def hashFoldRow : OpenClaim := { program := "ytcckmnabjjamfaa", sum := "6548e22d3e8527c14cae2558435a557fd7b6aae2cf21e5faea0f32586474d326", func := "spence/spencelaw02.HashFold", spec := "hashFold", apart := false }
def HashFoldSaid : Prop := hashFoldRow.holds Try.pinned (OpenSpec.ofChange hashFoldSpec)

/-- ITS FALSE NEIGHBOUR: 'it returns false'. Refute it at one input. -/
def hashFoldWrong : ChangeSpec := { name := "hashFold", fn := fun _ => fun
  | [d1, d2, d3, d4] => { results := [.lit (.bool false)], args := [d1, d2, d3, d4] }
  | _ => none }
def HashFoldWrongFalsely : Prop := hashFoldRow.holds Try.pinned (OpenSpec.ofChange hashFoldWrong)

/-- 'spencelaw01.CodeMakes': WHATEVER THE INPUT: true; the input reads as it did. -/
def codeMakesSpec : ChangeSpec := { name := "codeMakes", fn := fun _ => fun
  | [d] => { results := [.lit (.bool true)], args := [d] }
  | _ => none }
def codeMakesRow : OpenClaim := { program := "ytcckmnabjjamfaa", sum := "6548e22d3e8527c14cae2558435a557fd7b6aae2cf21e5faea0f32586474d326", func := "spence/spencelaw01.CodeMakes", spec := "codeMakes", recurses := true, apart := false }
def CodeMakesSaid : Prop := codeMakesRow.holds Try.pinned (OpenSpec.ofChange codeMakesSpec)

/-- ITS FALSE NEIGHBOUR: 'it returns false'. Refute it at one input. -/
def codeMakesWrong : ChangeSpec := { name := "codeMakes", fn := fun _ => fun
  | [d] => { results := [.lit (.bool false)], args := [d] }
  | _ => none }
def CodeMakesWrongFalsely : Prop := codeMakesRow.holds Try.pinned (OpenSpec.ofChange codeMakesWrong)

/-- 'spencelaw01.CodeEnds': WHATEVER THE INPUT: true; the input reads as it did. -/
def codeEndsSpec : ChangeSpec := { name := "codeEnds", fn := fun _ => fun
  | [] => { results := [.lit (.bool true)], args := [] }
  | _ => none }
def codeEndsRow : OpenClaim := { program := "ytcckmnabjjamfaa", sum := "6548e22d3e8527c14cae2558435a557fd7b6aae2cf21e5faea0f32586474d326", func := "spence/spencelaw01.CodeEnds", spec := "codeEnds", recurses := true, apart := false }
def CodeEndsSaid : Prop := codeEndsRow.holds Try.pinned (OpenSpec.ofChange codeEndsSpec)

/-- ITS FALSE NEIGHBOUR: 'it returns false'. Refute it at one input. -/
def codeEndsWrong : ChangeSpec := { name := "codeEnds", fn := fun _ => fun
  | [] => { results := [.lit (.bool false)], args := [] }
  | _ => none }
def CodeEndsWrongFalsely : Prop := codeEndsRow.holds Try.pinned (OpenSpec.ofChange codeEndsWrong)

/-- 'spencelaw01.CodeBack': WHATEVER THE INPUT: true; the input reads as it did. -/
def codeBackSpec : ChangeSpec := { name := "codeBack", fn := fun _ => fun
  | [d1, d2] => { results := [.lit (.bool true)], args := [d1, d2] }
  | _ => none }
def codeBackRow : OpenClaim := { program := "ytcckmnabjjamfaa", sum := "6548e22d3e8527c14cae2558435a557fd7b6aae2cf21e5faea0f32586474d326", func := "spence/spencelaw01.CodeBack", spec := "codeBack", apart := false }
def CodeBackSaid : Prop := codeBackRow.holds Try.pinned (OpenSpec.ofChange codeBackSpec)

/-- ITS FALSE NEIGHBOUR: 'it returns false'. Refute it at one input. -/
def codeBackWrong : ChangeSpec := { name := "codeBack", fn := fun _ => fun
  | [d1, d2] => { results := [.lit (.bool false)], args := [d1, d2] }
  | _ => none }
def CodeBackWrongFalsely : Prop := codeBackRow.holds Try.pinned (OpenSpec.ofChange codeBackWrong)

/-- 'spencelaw01.CodeOne': WHATEVER THE INPUT: true; the input reads as it did. -/
def codeOneSpec : ChangeSpec := { name := "codeOne", fn := fun _ => fun
  | [d1, d2, d3, d4] => { results := [.lit (.bool true)], args := [d1, d2, d3, d4] }
  | _ => none }
def codeOneRow : OpenClaim := { program := "ytcckmnabjjamfaa", sum := "6548e22d3e8527c14cae2558435a557fd7b6aae2cf21e5faea0f32586474d326", func := "spence/spencelaw01.CodeOne", spec := "codeOne", apart := false }
def CodeOneSaid : Prop := codeOneRow.holds Try.pinned (OpenSpec.ofChange codeOneSpec)

/-- ITS FALSE NEIGHBOUR: 'it returns false'. Refute it at one input. -/
def codeOneWrong : ChangeSpec := { name := "codeOne", fn := fun _ => fun
  | [d1, d2, d3, d4] => { results := [.lit (.bool false)], args := [d1, d2, d3, d4] }
  | _ => none }
def CodeOneWrongFalsely : Prop := codeOneRow.holds Try.pinned (OpenSpec.ofChange codeOneWrong)

/-- 'spencelaw02.HashFolds': WHATEVER THE INPUT: true; the input reads as it did. -/
def hashFoldsSpec : ChangeSpec := { name := "hashFolds", fn := fun _ => fun
  | [d1, d2, d3] => { results := [.lit (.bool true)], args := [d1, d2, d3] }
  | _ => none }
def hashFoldsRow : OpenClaim := { program := "ytcckmnabjjamfaa", sum := "6548e22d3e8527c14cae2558435a557fd7b6aae2cf21e5faea0f32586474d326", func := "spence/spencelaw02.HashFolds", spec := "hashFolds", apart := false }
def HashFoldsSaid : Prop := hashFoldsRow.holds Try.pinned (OpenSpec.ofChange hashFoldsSpec)

/-- ITS FALSE NEIGHBOUR: 'it returns false'. Refute it at one input. -/
def hashFoldsWrong : ChangeSpec := { name := "hashFolds", fn := fun _ => fun
  | [d1, d2, d3] => { results := [.lit (.bool false)], args := [d1, d2, d3] }
  | _ => none }
def HashFoldsWrongFalsely : Prop := hashFoldsRow.holds Try.pinned (OpenSpec.ofChange hashFoldsWrong)

/-- 'spencelaw02.HashEnds': WHATEVER THE INPUT: true; the input reads as it did. -/
def hashEndsSpec : ChangeSpec := { name := "hashEnds", fn := fun _ => fun
  | [] => { results := [.lit (.bool true)], args := [] }
  | _ => none }
def hashEndsRow : OpenClaim := { program := "ytcckmnabjjamfaa", sum := "6548e22d3e8527c14cae2558435a557fd7b6aae2cf21e5faea0f32586474d326", func := "spence/spencelaw02.HashEnds", spec := "hashEnds", apart := false }
def HashEndsSaid : Prop := hashEndsRow.holds Try.pinned (OpenSpec.ofChange hashEndsSpec)

/-- ITS FALSE NEIGHBOUR: 'it returns false'. Refute it at one input. -/
def hashEndsWrong : ChangeSpec := { name := "hashEnds", fn := fun _ => fun
  | [] => { results := [.lit (.bool false)], args := [] }
  | _ => none }
def HashEndsWrongFalsely : Prop := hashEndsRow.holds Try.pinned (OpenSpec.ofChange hashEndsWrong)

/-- 'spencelaw02.HashParts': WHATEVER THE INPUT: true; the input reads as it did. -/
def hashPartsSpec : ChangeSpec := { name := "hashParts", fn := fun _ => fun
  | [d1, d2, d3, d4] => { results := [.lit (.bool true)], args := [d1, d2, d3, d4] }
  | _ => none }
def hashPartsRow : OpenClaim := { program := "ytcckmnabjjamfaa", sum := "6548e22d3e8527c14cae2558435a557fd7b6aae2cf21e5faea0f32586474d326", func := "spence/spencelaw02.HashParts", spec := "hashParts", apart := false }
def HashPartsSaid : Prop := hashPartsRow.holds Try.pinned (OpenSpec.ofChange hashPartsSpec)

/-- ITS FALSE NEIGHBOUR: 'it returns false'. Refute it at one input. -/
def hashPartsWrong : ChangeSpec := { name := "hashParts", fn := fun _ => fun
  | [d1, d2, d3, d4] => { results := [.lit (.bool false)], args := [d1, d2, d3, d4] }
  | _ => none }
def HashPartsWrongFalsely : Prop := hashPartsRow.holds Try.pinned (OpenSpec.ofChange hashPartsWrong)

/- THE SECOND FORM. 'bulk': how many values and letters a reading holds, each counted each time it is reached (what is shared counts as often as it is met; a slice's spare places count too). A statement '..UptoSaid' is the law's where the arguments, and the package variables that the reading takes, are together of bulk at most 1048576: NARROWER than '..Said'. Prove '..Said' where nothing that the law and all that it calls make is longer than what came in: it says more and counts as full. Else prove '..UptoSaid'. A law counts once. -/
mutual
def uptoBulk {H : Type} : DataW H → Nat
  | .lit (.string bytes) => bytes.length + 1
  | .lit _ => 1
  | .nil => 1
  | .ptr d => uptoBulk d + 1
  | .slice elems spare => uptoBulkAll elems + uptoBulkAll spare + 1
  | .agg parts => uptoBulkAll parts + 1
  | .iface _ d => uptoBulk d + 1
  | .map entries => uptoBulkEntries entries + 1
  | .held _ => 1
def uptoBulkAll {H : Type} : List (DataW H) → Nat
  | [] => 0
  | d :: r => uptoBulk d + uptoBulkAll r
def uptoBulkEntries {H : Type} : List (Lit × DataW H) → Nat
  | [] => 0
  | x :: r => uptoBulkEntry x + uptoBulkEntries r
def uptoBulkEntry {H : Type} : Lit × DataW H → Nat
  | (.string bytes, d) => bytes.length + uptoBulk d + 1
  | (_, d) => uptoBulk d + 1
 end
def uptoSmall : (H : Type) → List (DataW H) → Bool := fun _ ds => decide (uptoBulkAll ds ≤ 1048576)
def OpenSpec.upto (s : _root_.Go.ChangeSpec) : _root_.Go.OpenSpec := { _root_.Go.OpenSpec.ofChange s with cond := some uptoSmall }

/-- 'spencelaw02.HashSums', WHERE WHAT IT READS IS OF BULK AT MOST 1048576: true; the input reads as it did. -/
def hashSumsUptoRow : OpenClaim := { program := "ytcckmnabjjamfaa", sum := "6548e22d3e8527c14cae2558435a557fd7b6aae2cf21e5faea0f32586474d326", func := "spence/spencelaw02.HashSums", spec := "hashSums", apart := false, narrowed := true }
def HashSumsUptoSaid : Prop := hashSumsUptoRow.holds Try.pinned (OpenSpec.upto hashSumsSpec)

/-- 'spencelaw02.HashFold', WHERE WHAT IT READS IS OF BULK AT MOST 1048576: true; the input reads as it did. -/
def hashFoldUptoRow : OpenClaim := { program := "ytcckmnabjjamfaa", sum := "6548e22d3e8527c14cae2558435a557fd7b6aae2cf21e5faea0f32586474d326", func := "spence/spencelaw02.HashFold", spec := "hashFold", apart := false, narrowed := true }
def HashFoldUptoSaid : Prop := hashFoldUptoRow.holds Try.pinned (OpenSpec.upto hashFoldSpec)

/-- 'spencelaw01.CodeMakes', WHERE WHAT IT READS IS OF BULK AT MOST 1048576: true; the input reads as it did. -/
def codeMakesUptoRow : OpenClaim := { program := "ytcckmnabjjamfaa", sum := "6548e22d3e8527c14cae2558435a557fd7b6aae2cf21e5faea0f32586474d326", func := "spence/spencelaw01.CodeMakes", spec := "codeMakes", recurses := true, apart := false, narrowed := true }
def CodeMakesUptoSaid : Prop := codeMakesUptoRow.holds Try.pinned (OpenSpec.upto codeMakesSpec)

/-- 'spencelaw01.CodeEnds', WHERE WHAT IT READS IS OF BULK AT MOST 1048576: true; the input reads as it did. -/
def codeEndsUptoRow : OpenClaim := { program := "ytcckmnabjjamfaa", sum := "6548e22d3e8527c14cae2558435a557fd7b6aae2cf21e5faea0f32586474d326", func := "spence/spencelaw01.CodeEnds", spec := "codeEnds", recurses := true, apart := false, narrowed := true }
def CodeEndsUptoSaid : Prop := codeEndsUptoRow.holds Try.pinned (OpenSpec.upto codeEndsSpec)

/-- 'spencelaw01.CodeBack', WHERE WHAT IT READS IS OF BULK AT MOST 1048576: true; the input reads as it did. -/
def codeBackUptoRow : OpenClaim := { program := "ytcckmnabjjamfaa", sum := "6548e22d3e8527c14cae2558435a557fd7b6aae2cf21e5faea0f32586474d326", func := "spence/spencelaw01.CodeBack", spec := "codeBack", apart := false, narrowed := true }
def CodeBackUptoSaid : Prop := codeBackUptoRow.holds Try.pinned (OpenSpec.upto codeBackSpec)

/-- 'spencelaw01.CodeOne', WHERE WHAT IT READS IS OF BULK AT MOST 1048576: true; the input reads as it did. -/
def codeOneUptoRow : OpenClaim := { program := "ytcckmnabjjamfaa", sum := "6548e22d3e8527c14cae2558435a557fd7b6aae2cf21e5faea0f32586474d326", func := "spence/spencelaw01.CodeOne", spec := "codeOne", apart := false, narrowed := true }
def CodeOneUptoSaid : Prop := codeOneUptoRow.holds Try.pinned (OpenSpec.upto codeOneSpec)

/-- 'spencelaw02.HashFolds', WHERE WHAT IT READS IS OF BULK AT MOST 1048576: true; the input reads as it did. -/
def hashFoldsUptoRow : OpenClaim := { program := "ytcckmnabjjamfaa", sum := "6548e22d3e8527c14cae2558435a557fd7b6aae2cf21e5faea0f32586474d326", func := "spence/spencelaw02.HashFolds", spec := "hashFolds", apart := false, narrowed := true }
def HashFoldsUptoSaid : Prop := hashFoldsUptoRow.holds Try.pinned (OpenSpec.upto hashFoldsSpec)

/-- 'spencelaw02.HashEnds', WHERE WHAT IT READS IS OF BULK AT MOST 1048576: true; the input reads as it did. -/
def hashEndsUptoRow : OpenClaim := { program := "ytcckmnabjjamfaa", sum := "6548e22d3e8527c14cae2558435a557fd7b6aae2cf21e5faea0f32586474d326", func := "spence/spencelaw02.HashEnds", spec := "hashEnds", apart := false, narrowed := true }
def HashEndsUptoSaid : Prop := hashEndsUptoRow.holds Try.pinned (OpenSpec.upto hashEndsSpec)

/-- 'spencelaw02.HashParts', WHERE WHAT IT READS IS OF BULK AT MOST 1048576: true; the input reads as it did. -/
def hashPartsUptoRow : OpenClaim := { program := "ytcckmnabjjamfaa", sum := "6548e22d3e8527c14cae2558435a557fd7b6aae2cf21e5faea0f32586474d326", func := "spence/spencelaw02.HashParts", spec := "hashParts", apart := false, narrowed := true }
def HashPartsUptoSaid : Prop := hashPartsUptoRow.holds Try.pinned (OpenSpec.upto hashPartsSpec)

end Rows
end Go.Proofs.Ytcckmnabjjamfaa
