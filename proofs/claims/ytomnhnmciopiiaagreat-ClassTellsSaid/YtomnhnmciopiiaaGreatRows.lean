/-
  No cell of these rows narrows 'for every input' (looked for: loops, veiled, ifaces, maps, wideKeys, modest, calm, conditions, laid).
  DERIVED. THE GIVEN ROWS OF THIS SEAT. 4 by the template 'for every input the law returns true; each argument reads behind the call as it read before'; 0 by the template 'total and deterministic' (their statements: YtomnhnmciopiiaaGreatTotals.lean).
  GIVEN WITH THE SEED: the statements are not yours to turn. If you find one false, say at which input.
  Laid BY PROGRAM, IN A SANDBOX (cutbox-rows.mjs): the forced cells as the released guide's own fill.sh prints them over the translation 164a38d61c89defa… (all of the seat's roots in one cut). By AI agents, Wed Nov 11 2026. No macro, syntax, notation, axiom, sorry.
-/
import Derived.Test.YtomnhnmciopiiaaGreatChecked
import GoSem.Claim
import GoSem.ClaimJoined
import GoSem.ClaimMapViews
import Derived.JoinedTies
import Derived.KernelRfl
namespace Go.Proofs.YtomnhnmciopiiaaGreat
/- THE CELL 'sum', in the pinned program and in every row, IS THE sha256 OF THE DUMP (.gsa) THAT YtomnhnmciopiiaaGreatProg.lean LOADS. Nothing in Lean hashes anything: it is a label: what it is worth is what the hold of that sum in a sandbox is worth. -/
noncomputable def Tryz.pinned : Pinned := { name := "ytomnhnmciopiiaagreat", sum := "164a38d61c89defa2828371f766ebbeb3fb6c05fd101356c50d9537b7bb01755", checked := Tryz.checked }
namespace Rows
def none {H : Type} : Left H := { results := [], args := [] }

/-- 'spencelaw19.ClassTells': WHATEVER THE INPUT: true; the input reads as it did. -/
def classTellsSpec : ChangeSpec := { name := "classTells", fn := fun _ => fun
  | [d1, d2, d3] => { results := [.lit (.bool true)], args := [d1, d2, d3] }
  | _ => none }
def classTellsRow : OpenClaim := { program := "ytomnhnmciopiiaagreat", sum := "164a38d61c89defa2828371f766ebbeb3fb6c05fd101356c50d9537b7bb01755", func := "spence/spencelaw19.ClassTells", spec := "classTells", inPlace := ["internal/bytealg.IndexByteString", "internal/abi.NoEscape", "internal/bytealg.MakeNoZero"], unfollowed := true, recurses := true, plainKeys := false, apart := false }
def ClassTellsSaid : Prop := classTellsRow.holds Tryz.pinned (OpenSpec.ofChange classTellsSpec)

/-- ITS FALSE NEIGHBOUR: 'it returns false'. Refute it at one input. -/
def classTellsWrong : ChangeSpec := { name := "classTells", fn := fun _ => fun
  | [d1, d2, d3] => { results := [.lit (.bool false)], args := [d1, d2, d3] }
  | _ => none }
def ClassTellsWrongFalsely : Prop := classTellsRow.holds Tryz.pinned (OpenSpec.ofChange classTellsWrong)

/-- 'spencelaw19.ClassSmall': WHATEVER THE INPUT: true; the input reads as it did. -/
def classSmallSpec : ChangeSpec := { name := "classSmall", fn := fun _ => fun
  | [] => { results := [.lit (.bool true)], args := [] }
  | _ => none }
def classSmallRow : OpenClaim := { program := "ytomnhnmciopiiaagreat", sum := "164a38d61c89defa2828371f766ebbeb3fb6c05fd101356c50d9537b7bb01755", func := "spence/spencelaw19.ClassSmall", spec := "classSmall", inPlace := ["internal/bytealg.IndexByteString", "internal/abi.NoEscape", "internal/bytealg.MakeNoZero"], unfollowed := true, recurses := true, plainKeys := false, apart := false }
def ClassSmallSaid : Prop := classSmallRow.holds Tryz.pinned (OpenSpec.ofChange classSmallSpec)

/-- ITS FALSE NEIGHBOUR: 'it returns false'. Refute it at one input. -/
def classSmallWrong : ChangeSpec := { name := "classSmall", fn := fun _ => fun
  | [] => { results := [.lit (.bool false)], args := [] }
  | _ => none }
def ClassSmallWrongFalsely : Prop := classSmallRow.holds Tryz.pinned (OpenSpec.ofChange classSmallWrong)

/-- 'spencelaw18.DrvTells': WHATEVER THE INPUT: true; the input reads as it did. -/
def drvTellsSpec : ChangeSpec := { name := "drvTells", fn := fun _ => fun
  | [d1, d2] => { results := [.lit (.bool true)], args := [d1, d2] }
  | _ => none }
def drvTellsRow : OpenClaim := { program := "ytomnhnmciopiiaagreat", sum := "164a38d61c89defa2828371f766ebbeb3fb6c05fd101356c50d9537b7bb01755", func := "spence/spencelaw18.DrvTells", spec := "drvTells", inPlace := ["internal/bytealg.IndexByteString", "internal/abi.NoEscape", "internal/bytealg.MakeNoZero", "internal/bytealg.Compare"], unfollowed := true, recurses := true, plainKeys := false, apart := false }
def DrvTellsSaid : Prop := drvTellsRow.holds Tryz.pinned (OpenSpec.ofChange drvTellsSpec)

/-- ITS FALSE NEIGHBOUR: 'it returns false'. Refute it at one input. -/
def drvTellsWrong : ChangeSpec := { name := "drvTells", fn := fun _ => fun
  | [d1, d2] => { results := [.lit (.bool false)], args := [d1, d2] }
  | _ => none }
def DrvTellsWrongFalsely : Prop := drvTellsRow.holds Tryz.pinned (OpenSpec.ofChange drvTellsWrong)

/-- 'spencelaw18.DrvSmall': WHATEVER THE INPUT: true; the input reads as it did. -/
def drvSmallSpec : ChangeSpec := { name := "drvSmall", fn := fun _ => fun
  | [] => { results := [.lit (.bool true)], args := [] }
  | _ => none }
def drvSmallRow : OpenClaim := { program := "ytomnhnmciopiiaagreat", sum := "164a38d61c89defa2828371f766ebbeb3fb6c05fd101356c50d9537b7bb01755", func := "spence/spencelaw18.DrvSmall", spec := "drvSmall", inPlace := ["internal/bytealg.IndexByteString", "internal/abi.NoEscape", "internal/bytealg.MakeNoZero", "internal/bytealg.Compare"], unfollowed := true, recurses := true, plainKeys := false, apart := false }
def DrvSmallSaid : Prop := drvSmallRow.holds Tryz.pinned (OpenSpec.ofChange drvSmallSpec)

/-- ITS FALSE NEIGHBOUR: 'it returns false'. Refute it at one input. -/
def drvSmallWrong : ChangeSpec := { name := "drvSmall", fn := fun _ => fun
  | [] => { results := [.lit (.bool false)], args := [] }
  | _ => none }
def DrvSmallWrongFalsely : Prop := drvSmallRow.holds Tryz.pinned (OpenSpec.ofChange drvSmallWrong)

/- THE SECOND FORM. 'bulk': how many values and letters a reading holds, each counted each time it is reached (what is shared counts as often as it is met; a slice's spare places count too). A statement '..UptoSaid' is the law's where the arguments, and the package variables that the reading takes, are together of bulk at most 1048576: NARROWER than '..Said'. Prove '..Said' where nothing that the law and all that it calls make is longer than what came in: it says more and counts as full. Else prove '..UptoSaid'. A law counts once. -/
mutual
def uptoBulk {H : Type} : DataW H → Nat
  | .lit (.string bytes) => bytes.length + 1
  | .lit _ => 1
  | .nil => 1
  | .ptr d => uptoBulk d + 1
  | .slice elems spare => uptoBulkAll elems + uptoBulkAll spare + 1
  | .agg parts => uptoBulkAll parts + 1
  | .iface _ d => uptoBulk d + 1
  | .map entries => uptoBulkEntries entries + 1
  | .held _ => 1
def uptoBulkAll {H : Type} : List (DataW H) → Nat
  | [] => 0
  | d :: r => uptoBulk d + uptoBulkAll r
def uptoBulkEntries {H : Type} : List (Lit × DataW H) → Nat
  | [] => 0
  | x :: r => uptoBulkEntry x + uptoBulkEntries r
def uptoBulkEntry {H : Type} : Lit × DataW H → Nat
  | (.string bytes, d) => bytes.length + uptoBulk d + 1
  | (_, d) => uptoBulk d + 1
 end
def uptoSmall : (H : Type) → List (DataW H) → Bool := fun _ ds => decide (uptoBulkAll ds ≤ 1048576)
def OpenSpec.upto (s : _root_.Go.ChangeSpec) : _root_.Go.OpenSpec := { _root_.Go.OpenSpec.ofChange s with cond := some uptoSmall }

/-- 'spencelaw19.ClassTells', WHERE WHAT IT READS IS OF BULK AT MOST 1048576: true; the input reads as it did. -/
def classTellsUptoRow : OpenClaim := { program := "ytomnhnmciopiiaagreat", sum := "164a38d61c89defa2828371f766ebbeb3fb6c05fd101356c50d9537b7bb01755", func := "spence/spencelaw19.ClassTells", spec := "classTells", inPlace := ["internal/bytealg.IndexByteString", "internal/abi.NoEscape", "internal/bytealg.MakeNoZero"], unfollowed := true, recurses := true, plainKeys := false, apart := false, narrowed := true }
def ClassTellsUptoSaid : Prop := classTellsUptoRow.holds Tryz.pinned (OpenSpec.upto classTellsSpec)

/-- 'spencelaw19.ClassSmall', WHERE WHAT IT READS IS OF BULK AT MOST 1048576: true; the input reads as it did. -/
def classSmallUptoRow : OpenClaim := { program := "ytomnhnmciopiiaagreat", sum := "164a38d61c89defa2828371f766ebbeb3fb6c05fd101356c50d9537b7bb01755", func := "spence/spencelaw19.ClassSmall", spec := "classSmall", inPlace := ["internal/bytealg.IndexByteString", "internal/abi.NoEscape", "internal/bytealg.MakeNoZero"], unfollowed := true, recurses := true, plainKeys := false, apart := false, narrowed := true }
def ClassSmallUptoSaid : Prop := classSmallUptoRow.holds Tryz.pinned (OpenSpec.upto classSmallSpec)

/-- 'spencelaw18.DrvTells', WHERE WHAT IT READS IS OF BULK AT MOST 1048576: true; the input reads as it did. -/
def drvTellsUptoRow : OpenClaim := { program := "ytomnhnmciopiiaagreat", sum := "164a38d61c89defa2828371f766ebbeb3fb6c05fd101356c50d9537b7bb01755", func := "spence/spencelaw18.DrvTells", spec := "drvTells", inPlace := ["internal/bytealg.IndexByteString", "internal/abi.NoEscape", "internal/bytealg.MakeNoZero", "internal/bytealg.Compare"], unfollowed := true, recurses := true, plainKeys := false, apart := false, narrowed := true }
def DrvTellsUptoSaid : Prop := drvTellsUptoRow.holds Tryz.pinned (OpenSpec.upto drvTellsSpec)

/-- 'spencelaw18.DrvSmall', WHERE WHAT IT READS IS OF BULK AT MOST 1048576: true; the input reads as it did. -/
def drvSmallUptoRow : OpenClaim := { program := "ytomnhnmciopiiaagreat", sum := "164a38d61c89defa2828371f766ebbeb3fb6c05fd101356c50d9537b7bb01755", func := "spence/spencelaw18.DrvSmall", spec := "drvSmall", inPlace := ["internal/bytealg.IndexByteString", "internal/abi.NoEscape", "internal/bytealg.MakeNoZero", "internal/bytealg.Compare"], unfollowed := true, recurses := true, plainKeys := false, apart := false, narrowed := true }
def DrvSmallUptoSaid : Prop := drvSmallUptoRow.holds Tryz.pinned (OpenSpec.upto drvSmallSpec)

end Rows
end Go.Proofs.YtomnhnmciopiiaaGreat
