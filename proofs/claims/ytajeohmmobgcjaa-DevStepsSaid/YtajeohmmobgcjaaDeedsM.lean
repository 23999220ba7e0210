/- spencelaw04: deeds in memory. -/
import Derived.Test.YtajeohmmobgcjaaBytes
import Derived.Test.YtajeohmmobgcjaaBase3
namespace Go.Proofs.Ytajeohmmobgcjaa
open Go.RowKit
structure Deed where
  what : Int
  n : Int
  most : Int
  b : List UInt8
def i64 (z : Int) : Prop := -9223372036854775808 ≤ z ∧ z ≤ 9223372036854775807
/-- a part's four cells -/
structure DeedAt (w : World) (B b o : Nat) (p : Deed) : Prop where
  c0 : w.cell? ⟨b, o, none⟩ = some (.int .i64 p.what)
  c1 : w.cell? ⟨b, o + 1, none⟩ = some (.int .i64 p.n)
  c2 : w.cell? ⟨b, o + 2, none⟩ = some (.int .i64 p.most)
  c3 : ∃ A c, w.cell? ⟨b, o + 3, none⟩ = some (.slice A p.b.length c) ∧ BytesAt w B (.slice A p.b.length c) p.b ∧ (A = none → c = 0)
  k0 : i64 p.what
  k1 : i64 p.n
  k2 : i64 p.most
def DeedsM (w : World) (B : Nat) (v : Value) (ls : List Deed) : Prop :=
  ∃ A cap, v = .slice A ls.length cap ∧ ls.length ≤ cap ∧ (0 < ls.length → ∃ b off, A = some ⟨b, off, none⟩ ∧ b < B ∧ ∀ j, j < ls.length → DeedAt w B b (off + j * 4) (ls.getD j ⟨0, 0, 0, []⟩))
theorem DeedAt.alike {w w' : World} {B b o : Nat} {p : Deed} (h : DeedAt w B b o p) (hb : b < B) (ha : Alike B w w') : DeedAt w' B b o p := by
  obtain ⟨A, c, h1, h2, h3⟩ := h.c3
  have e : ∀ q, w'.cell? ⟨b, q, none⟩ = w.cell? ⟨b, q, none⟩ := fun q => ha.cell (p := ⟨b, q, none⟩) hb
  exact ⟨(e _).trans h.c0, (e _).trans h.c1, (e _).trans h.c2, ⟨A, c, (e _).trans h1, h2.alike ha, h3⟩, h.k0, h.k1, h.k2⟩
theorem DeedsM.alike {w w' : World} {B : Nat} {v : Value} {ls : List Deed} (h : DeedsM w B v ls) (ha : Alike B w w') : DeedsM w' B v ls := by
  obtain ⟨A, cap, hv, hc, hA⟩ := h
  exact ⟨A, cap, hv, hc, fun h0 => by
    obtain ⟨b, off, h1, h2, h3⟩ := hA h0
    exact ⟨b, off, h1, h2, fun j hj => (h3 j hj).alike h2 ha⟩⟩
/-- how many bytes some parts have -/
def many (ls : List Deed) : Nat := (ls.map fun p => p.b.length).sum
theorem many_take (ls : List Deed) (k : Nat) (h : k < ls.length) : many (ls.take (k + 1)) = many (ls.take k) + (ls.getD k ⟨0, 0, 0, []⟩).b.length := by
  unfold many
  rw [List.take_succ_eq_append_getElem h, List.map_append, List.sum_append]
  simp [List.getD, h]
theorem many_take_le (ls : List Deed) (k : Nat) : many (ls.take k) ≤ many ls := by
  have h : many ls = many (ls.take k) + many (ls.drop k) := by
    unfold many
    rw [← List.sum_append, ← List.map_append, List.take_append_drop]
  omega
theorem many_get (ls : List Deed) (k : Nat) (h : k < ls.length) : (ls.getD k ⟨0, 0, 0, []⟩).b.length ≤ many ls := by
  have h1 := many_take ls k h
  have h2 := many_take_le ls (k + 1)
  omega
end Go.Proofs.Ytajeohmmobgcjaa
