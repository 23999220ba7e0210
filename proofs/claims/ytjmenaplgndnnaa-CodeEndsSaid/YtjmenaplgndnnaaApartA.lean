/- spencekit.flatBytes: rows of bytes that lie apart. What is plain of it. -/
import Derived.Test.YtjmenaplgndnnaaApp2
import Derived.Test.YtjmenaplgndnnaaLent
import Derived.Test.YtjmenaplgndnnaaRefMak
namespace Go.Proofs.Ytjmenaplgndnnaa
open Go Go.RowKit
/-- the marks of a row -/
def mks (k n : Nat) : List UInt8 := (List.range n).map (mk k)
theorem length_mks (k n : Nat) : (mks k n).length = n := by simp [mks]
theorem mks_get (k n j : Nat) (h : j < n) : (bv (mks k n))[j]? = some (.int .u8 ((mk k j).toNat : Int)) := by simp [bv, mks, h]
theorem mks_succ (k n : Nat) : mks k (n + 1) = mks k n ++ [mk k n] := by simp [mks, List.range_succ]
theorem mks_take (k n m : Nat) (h : m ≤ n) : (mks k n).take m = mks k m := by
  simp only [mks, ← List.map_take, List.take_range]
  rw [Nat.min_eq_left h]
theorem bv_take (l : List UInt8) (k : Nat) : (bv l).take k = bv (l.take k) := by simp [bv, List.map_take]
theorem bv_set' (l : List UInt8) (i : Nat) (x : UInt8) : (bv l).set i (.int .u8 (x.toNat : Int)) = bv (l.set i x) := by simp [bv, List.map_set]
/-- rows that one owns, and a list that holds them -/
structure Rows8 (w : World) (R q m : Nat) (us : Nat → Value) (ns : Nat → Nat) (L : Nat → List UInt8) : Prop where
  own : ∀ j, j < m → w.ownsRow R 5 1 (us j) (ns j) (bv (L j))
  cell : ∀ j, j < m → w.cell? ⟨q, j, none⟩ = some (us j)
/-- the rows' places -/
def RS (m : Nat) (us : Nat → Value) (g : Nat) : Prop := ∃ j, j < m ∧ (us j).ownBlock = some g
structure Parted (q m : Nat) (us : Nat → Value) (ns : Nat → Nat) : Prop where
  dis : ∀ i j, i < m → j < m → i ≠ j → ∀ g, (us i).ownBlock = some g → (us j).ownBlock ≠ some g
  q_ : ¬ RS m us q
  small : ∀ j, j < m → ns j ≤ 1000000
theorem Rows8.len {w : World} {R q m : Nat} {us : Nat → Value} {ns : Nat → Nat} {L : Nat → List UInt8} (h : Rows8 w R q m us ns L) (j : Nat) (hj : j < m) : (L j).length = ns j := by
  have := (h.own j hj).1
  simpa [bv] using this
theorem Rows8.keep {w w' : World} {R q m : Nat} {us : Nat → Value} {ns : Nat → Nat} {L : Nat → List UInt8} (h : Rows8 w R q m us ns L) (hk : ∀ b, b < w.heap.size → (b = q ∨ RS m us b) → w'.heap[b]? = w.heap[b]?) : Rows8 w' R q m us ns L :=
  ⟨fun j hj => owned_keep (h.own j hj) fun g hg hlt => hk g hlt (.inr ⟨j, hj, hg⟩), fun j hj => (World.cell?_of_block (hk q (World.block_lt_of_cell? w _ (h.cell j hj)) (.inl rfl))).trans (h.cell j hj)⟩
theorem Rows8.drewN {w : World} {R q m : Nat} {us : Nat → Value} {ns : Nat → Nat} {L : Nat → List UInt8} (h : Rows8 w R q m us ns L) (k : Nat) : Rows8 (w.drewN k) R q m us ns L := h.keep fun _ _ _ => rfl
/-- one cell of one row is written -/
theorem Rows8.set {w : World} {R q m g cap i k : Nat} {us : Nat → Value} {ns : Nat → Nat} {L : Nat → List UInt8} {x : UInt8} (h : Rows8 w R q m us ns L) (hp : Parted q m us ns) (hk : k < m) (hu : us k = .slice (some ⟨g, 0, none⟩) (ns k) cap) :
    Rows8 (w.setCell ⟨g, i, none⟩ (.int .u8 (x.toNat : Int))) R q m us ns (fun j => if j = k then (L k).set i x else L j) := by
  have hg : (us k).ownBlock = some g := by rw [hu]; rfl
  refine ⟨fun j hj => ?_, fun j hj => ?_⟩
  · by_cases hjk : j = k
    · subst hjk
      simp only [if_true]
      have h1 := h.own j hj
      rw [hu] at h1 ⊢
      rw [← bv_set']
      exact own_set h1
    · simp only [if_neg hjk]
      exact owned_keep (h.own j hj) fun b hb _ => Below.heap_setCell w _ _ b (by rintro rfl; exact hp.dis k j hk hj (Ne.symm hjk) _ hg hb)
  · refine (World.cell?_setCell_other _ _ _ _ ?_).trans (h.cell j hj)
    intro e
    injection e with e
    exact hp.q_ ⟨k, hk, by rw [hg, e]⟩
end Go.Proofs.Ytjmenaplgndnnaa
