/- spencelaw02.HashEnds: what its drawn statement makes. -/
import Derived.Test.YtjmenaplgndnnaaEndsA
import Derived.Test.YtjmenaplgndnnaaHashOf2
import Derived.Test.YtjmenaplgndnnaaAwakeHash
import Derived.Lib.BufferRead
namespace Go.Proofs.Ytjmenaplgndnnaa
open Go.RowKit
/-- slices of bytes, by their form -/
def RowN (w : World) (us : List Value) (ls : List (List UInt8)) : Prop :=
  us.length = ls.length ∧ ∀ j, j < ls.length → ∃ A c, us.getD j undef = .slice A (ls.getD j []).length c ∧ BytesAt w w.heap.size (.slice A (ls.getD j []).length c) (ls.getD j []) ∧ (A = none → c = 0)
theorem RowN.nil (w : World) : RowN w [] [] := ⟨rfl, fun j hj => absurd hj (by simp)⟩
theorem RowN.cons {w : World} {A : Option Addr} {c n : Nat} {l : List UInt8} {us : List Value} {ls : List (List UInt8)} (h : BytesAt w w.heap.size (.slice A n c) l) (hn : A = none → c = 0) (k : RowN w us ls) : RowN w (.slice A n c :: us) (l :: ls) := by
  have hl : n = l.length := by obtain ⟨_, _, e, _⟩ := h; injection e
  subst hl
  refine ⟨by rw [List.length_cons, List.length_cons, k.1], fun j hj => ?_⟩
  cases j with
  | zero => exact ⟨A, c, rfl, h, hn⟩
  | succ j =>
    have hj2 : j < ls.length := by simpa using hj
    obtain ⟨A', c', h1, h2, h3⟩ := k.2 j hj2
    exact ⟨A', c', by simpa using h1, by simpa using h2, h3⟩
theorem bytes_mono {w : World} {B B' : Nat} {v : Value} {l : List UInt8} (h : BytesAt w B v l) (hB : B ≤ B') : BytesAt w B' v l := by
  obtain ⟨A, cap, hv, hc, hA⟩ := h
  exact ⟨A, cap, hv, hc, fun h0 => by obtain ⟨b, off, h1, h2, h3⟩ := hA h0; exact ⟨b, off, h1, by omega, h3⟩⟩
theorem rows_made {w W : World} {B0 : Nat} {ty : TypeId} {us : List Value} {ls : List (List UInt8)} {u : Value} (h : madeSlc B0 ty us.toArray u W) (hx : Ext w W) (hr : RowN w us ls) : RowsAt W W.heap.size u ls := by
  obtain ⟨r, rfl, _, hb⟩ := h
  have hl := hr.1
  have hs : us.toArray.size = ls.length := by simpa using hl
  rw [hs]
  refine ⟨_, ls.length, rfl, Nat.le_refl _, fun _ => ⟨r, 0, rfl, hb.lt, fun j hj => ?_⟩⟩
  obtain ⟨A, c, h1, h2, h3⟩ := hr.2 j hj
  refine ⟨A, c, ?_, bytes_mono (h2.alike (alike_of_below hx)) hx.size, h3⟩
  rw [Nat.zero_add, hb.cell, ← h1, List.getElem?_toArray, List.getD_eq_getElem?_getD, List.getElem?_eq_getElem (by omega)]
  rfl
theorem sums_made {w : World} {ty : TypeId} {us : List Value} {ls : List (List UInt8)} (hr : RowN w us ls) (hsm : ls.length + fl ls ≤ 6000) :
    ∀ (u : Value) (W : World), Ext w W → madeSlc w.heap.size ty us.toArray u W → Calls Try.prog 34 #[u] W fun e w' => e = .returned (.bool true) ∧ Ext W w' :=
  fun u W hx hu => hashSums_small ls hsm u W W.heap.size (Nat.le_refl _) (rows_made hu hx hr)
theorem folds_made {w : World} {ty : TypeId} {us : List Value} {ls : List (List UInt8)} (s : List UInt8) (hs : s.length = 32) (tag : ByteArray) (hr : RowN w us ls) (hsm : ls.length + fl ls + tag.size ≤ 6000) :
    ∀ (u : Value) (W : World), Ext w W → madeSlc w.heap.size ty us.toArray u W → Calls Try.prog 5 #[.agg (bv s).toArray, .string tag, u] W fun e w' => e = .returned (.bool true) ∧ Ext W w' :=
  fun u W hx hu => hashFolds_small s hs tag ls hsm u W W.heap.size (Nat.le_refl _) (rows_made hu hx hr)
theorem conv_any {W : World} {B : Nat} {A : Option Addr} {n c : Nat} {l : List UInt8} (h : BytesAt W B (.slice A n c) l) (hn : A = none → c = 0) :
    (convert 26 9 (.slice A n c)).run Try.prog W = .ok (.string ⟨l.toArray⟩) W := by
  obtain ⟨hl, _, hor, hcell⟩ := h.cells
  subst hl
  cases A with
  | none =>
    have h0 := (bytes_nil h hn rfl).1
    have hl0 : l = [] := List.eq_nil_of_length_eq_zero h0
    subst hl0
    exact Lib.run_convert_nil_bytes W 26 9 5 c Try.underlying26 Try.underlying5 Try.underlying9
  | some a =>
    exact run_convert_bytes_back W 26 9 5 a c l Try.underlying26 Try.underlying5 Try.underlying9 (fun j hj => hcell a rfl j _ (by simp [bv, hj]))
theorem exec_convert {P : Program} {ρ : Operand → Value} {o : Oper} (src dst : TypeId) (x : Operand) (ho : o.op = .convert src dst x) (v : Value) (W : World) (hv : (convert src dst (ρ x)).run P W = .ok v W) : (execOp ρ o).run P W = .ok (.value v) W := by
  unfold execOp
  simp only [ho, Sem.run_bind, hv, Result.andThen_ok, Sem.run_pure]
theorem sum_made2 {w : World} {ty : TypeId} {us : List Value} {ls : List (List UInt8)} {l : List UInt8} (hr : RowOf w w.heap.size us ls) (hl : ls.flatten = l) (hn : l.length ≤ 1099511627000) (hm : ls.length ≤ 1099511627000) :
    ∀ (u : Value) (W : World), Ext w W → madeSlc w.heap.size ty us.toArray u W → Calls Try.prog 35 #[u] W fun e w' => e = .returned (.agg (bv (Sha.sum l)).toArray) ∧ Ext W w' := by
  intro u W hx hu
  have hp := parts_made hu hx hr
  rw [← hl]
  exact sum_any ls (by rw [hl]; exact hn) hm u W W.heap.size (Nat.le_refl _) hp
theorem bytes_none (w : World) (B : Nat) : BytesAt w B (.slice none 0 0) [] := ⟨none, 0, rfl, Nat.le_refl _, fun h => absurd h (by simp)⟩
/-- the bytes that the law makes -/
def eb : Nat → List UInt8
  | 0 => []
  | n + 1 => eb n ++ [UInt8.ofNat (n * n + n / 2)]
theorem length_eb (n : Nat) : (eb n).length = n := by induction n with | zero => rfl | succ n ih => simp [eb, ih]
end Go.Proofs.Ytjmenaplgndnnaa
