/- derivations and items, in memory. -/
import Derived.Test.YtidiepbmbbflhaaPaths
import Derived.Test.YtidiepbmbbflhaaDrvLaw2
namespace Go.Proofs.Ytidiepbmbbflhaa
open Go Go.RowKit Go.Maps
set_option maxRecDepth 100000
abbrev Inp := Pth × Hsh × Bool
abbrev Nam := ByteArray × Inp
abbrev Drv := ByteArray × List Nam × List Int
abbrev Itm := Hsh × Drv
def okI (x : Inp) : Prop := okP x.1 ∧ okH x.2.1
def okN (x : Nam) : Prop := x.1.size ≤ maxLen ∧ okI x.2
def iC (x : Inp) : List Value := pC x.1 ++ (bv x.2.1 ++ [.bool x.2.2])
def nC (x : Nam) : List Value := .string x.1 :: iC x.2
def dC (d : Drv) (v1 v2 : Value) : List Value := [.string d.1, v1, v2]
def tC (x : Itm) (v1 v2 : Value) : List Value := bv x.1 ++ dC x.2 v1 v2
def inpLay : Lay Inp := Lay.struct 70 (.cons pathLay (.cons hashLay (.cons (Lay.bool 4) .nil))) fun x => (x.1, x.2.1, x.2.2, ())
def namLay : Lay Nam := Lay.struct 72 (.cons (Lay.str 9) (.cons inpLay .nil)) fun x => (x.1, x.2, ())
def namsLay : Lay (List Nam) := Lay.slice 31 namLay
def bytesLay : Lay (List Int) := Lay.slice 32 (Lay.int 5 .u8)
def drvLay : Lay Drv := Lay.struct 34 (.cons (Lay.str 9) (.cons namsLay (.cons bytesLay .nil))) fun d => (d.1, d.2.1, d.2.2, ())
def itmLay : Lay Itm := Lay.struct 43 (.cons hashLay (.cons drvLay .nil)) fun x => (x.1, x.2, ())
def itmsLay : Lay (List Itm) := Lay.slice 25 itmLay
theorem inpLay_opens : inpLay.Opens Try.prog := opens_struct (fun b => (b.1, b.2.1, b.2.2.1)) (fun _ => rfl) (opens_cons pathLay_opens (opens_cons hashLay_opens (opens_cons (opens_bool Try.underlying4 (by kernel_rfl)) opens_nil))) Try.underlying70 (by kernel_rfl) (by kernel_rfl)
theorem namLay_opens : namLay.Opens Try.prog := opens_struct (fun b => (b.1, b.2.1)) (fun _ => rfl) (opens_cons (opens_str Try.underlying9 cells_str) (opens_cons inpLay_opens opens_nil)) Try.underlying72 (by kernel_rfl) (by kernel_rfl)
theorem namsLay_opens : namsLay.Opens Try.prog := opens_slice namLay_opens (by decide) Try.underlying31 (by kernel_rfl)
theorem bytesLay_opens : bytesLay.Opens Try.prog := opens_slice (opens_int Try.underlying5 cells_u8) (by decide) Try.underlying32 (by kernel_rfl)
theorem drvLay_opens : drvLay.Opens Try.prog := opens_struct (fun b => (b.1, b.2.1, b.2.2.1)) (fun _ => rfl) (opens_cons (opens_str Try.underlying9 cells_str) (opens_cons namsLay_opens (opens_cons bytesLay_opens opens_nil))) Try.underlying34 (by kernel_rfl) (by kernel_rfl)
theorem itmLay_opens : itmLay.Opens Try.prog := opens_struct (fun b => (b.1, b.2.1)) (fun _ => rfl) (opens_cons hashLay_opens (opens_cons drvLay_opens opens_nil)) Try.underlying43 (by kernel_rfl) (by kernel_rfl)
theorem itmsLay_opens : itmsLay.Opens Try.prog := opens_slice itmLay_opens (by decide) Try.underlying25 (by kernel_rfl)
theorem inpLay_at {w : World} {B : Nat} {cs : List Value} {x : Inp} : inpLay.At w B cs x ↔ cs = iC x ∧ okI x := by
  constructor
  · rintro ⟨c1, d1, rfl, h1, c2, d2, rfl, ⟨rfl, h2⟩, c3, d3, rfl, h3, h4⟩
    have h3 : c3 = [.bool x.2.2] := h3
    have h4 : d3 = [] := h4
    subst h3 h4
    obtain ⟨rfl, h5⟩ := pathLay_at.1 h1
    exact ⟨rfl, h5, h2⟩
  · rintro ⟨rfl, h1, h2⟩
    exact ⟨pC x.1, _, rfl, pathLay_at.2 ⟨rfl, h1⟩, bv x.2.1, _, rfl, ⟨rfl, h2⟩, [.bool x.2.2], [], rfl, rfl, rfl⟩
theorem namLay_at {w : World} {B : Nat} {cs : List Value} {x : Nam} : namLay.At w B cs x ↔ cs = nC x ∧ okN x := by
  constructor
  · rintro ⟨c1, d1, rfl, ⟨rfl, h1⟩, c2, d2, rfl, h2, h3⟩
    have h3 : d2 = [] := h3
    subst h3
    obtain ⟨rfl, h5⟩ := inpLay_at.1 h2
    exact ⟨by simp [nC], h1, h5⟩
  · rintro ⟨rfl, h1, h2⟩
    exact ⟨[.string x.1], iC x.2, rfl, ⟨rfl, h1⟩, iC x.2, [], by simp, inpLay_at.2 ⟨rfl, h2⟩, rfl⟩
theorem slice1' {α : Type} {t : TypeId} {L : Lay α} {w : World} {B : Nat} {cs : List Value} {l : List α} (h : (Lay.slice t L).At w B cs l) : ∃ v, cs = [v] := by
  obtain ⟨A, cap, e, _⟩ := h
  exact ⟨_, e⟩
structure DrvAt (w : World) (B : Nat) (d : Drv) (v1 v2 : Value) : Prop where
  name : d.1.size ≤ maxLen
  ins : namsLay.At w B [v1] d.2.1
  rcp : bytesLay.At w B [v2] d.2.2
theorem drvLay_at {w : World} {B : Nat} {cs : List Value} {d : Drv} : drvLay.At w B cs d ↔ ∃ v1 v2, cs = dC d v1 v2 ∧ DrvAt w B d v1 v2 := by
  constructor
  · rintro ⟨c1, d1, rfl, ⟨rfl, h1⟩, c2, d2, rfl, h2, c3, d3, rfl, h3, h4⟩
    have h4 : d3 = [] := h4
    subst h4
    obtain ⟨v1, rfl⟩ := slice1' h2
    obtain ⟨v2, rfl⟩ := slice1' h3
    exact ⟨v1, v2, rfl, h1, h2, h3⟩
  · rintro ⟨v1, v2, rfl, h1, h2, h3⟩
    exact ⟨[.string d.1], [v1, v2], rfl, ⟨rfl, h1⟩, [v1], [v2], rfl, h2, [v2], [], rfl, h3, rfl⟩
theorem itmLay_at {w : World} {B : Nat} {cs : List Value} {x : Itm} : itmLay.At w B cs x ↔ ∃ v1 v2, cs = tC x v1 v2 ∧ okH x.1 ∧ DrvAt w B x.2 v1 v2 := by
  constructor
  · rintro ⟨c1, d1, rfl, ⟨rfl, h1⟩, c2, d2, rfl, h2, h3⟩
    have h3 : d2 = [] := h3
    subst h3
    obtain ⟨v1, v2, rfl, h5⟩ := drvLay_at.1 h2
    exact ⟨v1, v2, by simp [tC], h1, h5⟩
  · rintro ⟨v1, v2, rfl, h1, h2⟩
    exact ⟨bv x.1, dC x.2 v1 v2, rfl, ⟨rfl, h1⟩, dC x.2 v1 v2, [], by simp, drvLay_at.2 ⟨v1, v2, rfl, h2⟩, rfl⟩
/-- the classes that are inputs, each once -/
def clsP (l : List Nam) : List Hsh := l.foldl (fun out x => if x.2.2.2 = true ∧ x.2.2.1 ∉ out then out ++ [x.2.2.1] else out) []
end Go.Proofs.Ytidiepbmbbflhaa
