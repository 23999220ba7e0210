/- package pick: a search that begins. -/
import Derived.Test.YtfppddnfdinipaaPickO
namespace Go.Proofs.Ytfppddnfdinipaa
open Go Go.RowKit Go.Maps
def S0 (fuel : Int) : Sst := { cm := [], cv := fun _ => .slice none 0 0, tm := [], hm := [], im := fun _ => [], bad := 0, steps := 0, fuel := fuel }
theorem sum_none (own : Hsh) (f : Int) : ∀ U : List Hsh, badU own U (S0 f) = 0
  | [] => rfl
  | h :: U => by
    have ih := sum_none own f U
    unfold badU at ih ⊢
    rw [List.map_cons, List.sum_cons, ih]
    rfl
theorem inv_new {own : Hsh} {U : List Hsh} {V : List Pth} (hU : U.Nodup) (f : Int) : InvP own U V (S0 f) (fun _ => 0) (fun _ => []) (there (fun _ => 0) (fun _ => [])) where
  tm := fun _ => rfl
  cls := fun _ => rfl
  nod := fun _ => List.nodup_nil
  mem := fun h p => ⟨(fun hp => by cases hp), (fun hp => by cases hp.1)⟩
  mnod := fun _ => List.nodup_nil
  mU := fun _ _ h => by cases h
  rV := fun _ _ h => by cases h.1
  unod := hU
  bad := (sum_none own f U).symm
theorem sat_new {B : Nat} {w : World} {s cb tb hb : Nat} {c : Cvs} {f : Int} (ho : okH c.own) (hs : Blk w s 104 (srchCells c cb tb hb (S0 f)).toArray) (h1 : MapIs pV okP (fun v : Value => v) w cb ([] : List (Pth × Value))) (h2 : MapIs pV okP intV w tb ([] : List (Pth × Int))) (h3 : MapIs hV okH mapV w hb ([] : List (Hsh × Nat))) (hlow : B ≤ s ∧ B ≤ cb ∧ B ≤ tb ∧ B ≤ hb) (hne : cb ≠ tb ∧ cb ≠ hb ∧ tb ≠ hb) : SAt B w s cb tb hb c (S0 f) :=
  ⟨ho, hs, h1, h2, h3, (fun e he => by cases he), (fun e he => by cases he), ⟨hlow.1, hlow.2.1, hlow.2.2.1, hlow.2.2.2, fun e he => by cases he⟩, ⟨hne.1, hne.2.1, hne.2.2, fun e he => by cases he⟩, List.nodup_nil, (fun e he => by cases he)⟩
end Go.Proofs.Ytfppddnfdinipaa
