/- rows of bytes in memory: words that all else shares. -/
import Derived.Test.YtidiepbmbbflhaaApp
import Derived.Test.YtidiepbmbbflhaaBase3
import Derived.Deep.OwnRows
namespace Go.Proofs.Ytidiepbmbbflhaa
open Go.RowKit
/-- a sponge's cells: eight words, sixty-four bytes, how many bytes came -/
def bv (l : List UInt8) : List Value := l.map fun b => Value.int .u8 (b.toNat : Int)
theorem size5 : (Try.prog.info? 5).map (·.size) = some 1 := by kernel_rfl
theorem bv_one (l : List UInt8) : (bv l).toArray.all (·.oneCell') = true := by
  rw [Array.all_eq_true_iff_forall_mem]; intro v hv; simp [bv] at hv; obtain ⟨x, _, rfl⟩ := hv; rfl
theorem bv_get (l : List UInt8) (i : Nat) (h : i < l.length) : (bv l).toArray[i]? = some (.int .u8 ((l.getD i 0).toNat : Int)) := by
  simp [bv, List.getD, h]
theorem bv_set (l : List UInt8) (i : Nat) (x : UInt8) : (bv l).toArray.setIfInBounds i (.int .u8 (x.toNat : Int)) = (bv (l.set i x)).toArray := by
  simp [bv, List.map_set]
/-- a slice of bytes that reads as l; what there is of it lies below block B -/
def BytesAt (w : World) (B : Nat) (v : Value) (l : List UInt8) : Prop :=
  ∃ A cap, v = .slice A l.length cap ∧ l.length ≤ cap ∧ (0 < l.length → ∃ b off, A = some ⟨b, off, none⟩ ∧ b < B ∧ ∀ j, j < l.length → w.cell? ⟨b, off + j, none⟩ = some (.int .u8 ((l.getD j 0).toNat : Int)))
/-- a slice of slices of bytes -/
def PartsAt (w : World) (B : Nat) (v : Value) (ls : List (List UInt8)) : Prop :=
  ∃ A cap, v = .slice A ls.length cap ∧ ls.length ≤ cap ∧ (0 < ls.length → ∃ b off, A = some ⟨b, off, none⟩ ∧ b < B ∧ ∀ j, j < ls.length → ∃ u, w.cell? ⟨b, off + j, none⟩ = some u ∧ BytesAt w B u (ls.getD j []))
/-- what lies below block B reads alike -/
def Alike (B : Nat) (w w' : World) : Prop := ∀ k, k < B → w'.heap[k]? = w.heap[k]?
theorem Alike.cell {B : Nat} {w w' : World} (h : Alike B w w') {p : Addr} (hp : p.block < B) : w'.cell? p = w.cell? p := World.cell?_of_block (h p.block hp)
theorem BytesAt.alike {w w' : World} {B : Nat} {v : Value} {l : List UInt8} (h : BytesAt w B v l) (ha : Alike B w w') : BytesAt w' B v l := by
  obtain ⟨A, cap, hv, hc, hA⟩ := h
  refine ⟨A, cap, hv, hc, fun hl => ?_⟩
  obtain ⟨b, off, h1, h2, h3⟩ := hA hl
  exact ⟨b, off, h1, h2, fun j hj => (ha.cell (p := ⟨b, off + j, none⟩) h2).trans (h3 j hj)⟩
theorem PartsAt.alike {w w' : World} {B : Nat} {v : Value} {ls : List (List UInt8)} (h : PartsAt w B v ls) (ha : Alike B w w') : PartsAt w' B v ls := by
  obtain ⟨A, cap, hv, hc, hA⟩ := h
  refine ⟨A, cap, hv, hc, fun hl => ?_⟩
  obtain ⟨b, off, h1, h2, h3⟩ := hA hl
  refine ⟨b, off, h1, h2, fun j hj => ?_⟩
  obtain ⟨u, h4, h5⟩ := h3 j hj
  exact ⟨u, (ha.cell (p := ⟨b, off + j, none⟩) h2).trans h4, h5.alike ha⟩
theorem alike_of_below {B : Nat} {w w' : World} (h : Below B w w') : Alike B w w' := h.block
theorem alike_of_grown {B g : Nat} {w w' : World} (h : w.grownBy w' (some g)) (hB : B ≤ g) (hw : B ≤ w.heap.size) : Alike B w w' :=
  fun k hk => h.block k (by omega) (by intro e; injection e with e; omega)
theorem Alike.trans {B : Nat} {a b c : World} (h : Alike B a b) (k : Alike B b c) : Alike B a c := fun i hi => (k i hi).trans (h i hi)
theorem info_u8 : (Try.prog.info? 5).map (fun i => (i.zero, i.size, i.bytes)) = some (some (.int .u8 0), 1, 1) := by kernel_rfl
theorem bvA (a b : List UInt8) : bv (a ++ b) = bv a ++ bv b := by simp [bv]
theorem bvL (a : List UInt8) : (bv a).length = a.length := by simp [bv]
theorem bv1 (a : List UInt8) : ∀ u ∈ bv a, u.oneCell' = true := by
  intro u hu
  obtain ⟨_, _, rfl⟩ := List.mem_map.1 hu
  rfl
theorem bv_src {w : World} {B : Nat} {A : Option Addr} {l : List UInt8} {cap : Nat} (h : BytesAt w B (.slice A l.length cap) l) (hn : A = none → cap = 0) : Src w A l.length cap (bv l) := by
  obtain ⟨A', cap', hv, hc, hA⟩ := h
  injection hv with e1 e2 e3
  subst e1 e3
  refine ⟨bvL l, fun h => ?_, bv1 l, fun ad had j u hu => ?_⟩
  · have := hn h
    exact ⟨by omega, this⟩
  · have hj : j < l.length := by
      have := (List.getElem?_eq_some_iff.1 hu).1
      simpa [bv] using this
    obtain ⟨b, off, h1, _, h3⟩ := hA (by omega)
    rw [h1] at had
    obtain rfl := Option.some.inj had
    have e : (⟨b, off, none⟩ : Addr).add j = ⟨b, off + j, none⟩ := by unfold Addr.add; split <;> simp_all
    rw [e, h3 j hj]
    have e2 : (bv l)[j]? = some (.int .u8 ((l.getD j 0).toNat : Int)) := by simp [bv, List.getD, hj]
    rw [e2] at hu
    exact hu
/-- a row that one owns reads as its bytes -/
theorem bytesAt_owned {w : World} {base : Nat} {v : Value} {l : List UInt8} (h : w.ownsRow base 5 1 v l.length (bv l)) : BytesAt w w.heap.size v l := by
  rcases owned_form h with ⟨rfl, h0, _⟩ | ⟨g, cap, cur, rfl, _, hc, _, hb, _, ht, hlt⟩
  · exact ⟨none, 0, by rw [h0], by omega, fun h => by omega⟩
  · refine ⟨_, cap, rfl, hc, fun _ => ⟨g, 0, rfl, hlt, fun j hj => ?_⟩⟩
    rw [Nat.zero_add, hb.cell]
    have h1 : cur.toList[j]? = (bv l)[j]? := by
      rw [← ht, List.getElem?_take_of_lt hj]
    rw [← Array.getElem?_toList, h1]
    simp [bv, List.getD, hj]
theorem owned_new (w : World) (e : TypeId) : (w.alloc (.cells #[] e)).ownsRow w.heap.size e 1 (.slice (some ⟨w.heap.size, 0, none⟩) 0 0) 0 [] :=
  ⟨rfl, .inr ⟨w.heap.size, 0, #[], rfl, Nat.le_refl _, Blk.new w e #[], Nat.le_refl _, Nat.zero_le _, rfl, rfl⟩⟩
theorem own_nil0 {w : World} {base n cap : Nat} {A : Option Addr} {e : TypeId} {xs : List Value} (h : w.ownsRow base e 1 (.slice A n cap) n xs) : A = none → cap = 0 := by
  intro hA
  rcases owned_form h with ⟨e, _⟩ | ⟨q, cp, cur, e, _⟩
  · injection e
  · injection e with e1
    rw [hA] at e1
    cases e1
theorem bytes_nil {w : World} {B : Nat} {A : Option Addr} {n cap : Nat} {l : List UInt8} (h : BytesAt w B (.slice A n cap) l) (hn : A = none → cap = 0) : A = none → n = 0 ∧ cap = 0 := by
  intro hA
  obtain ⟨A', cap', hv, hc, h0⟩ := h
  injection hv with e1 e2 e3
  refine ⟨?_, hn hA⟩
  rcases Nat.eq_zero_or_pos l.length with hl | hl
  · omega
  · obtain ⟨b, off, h1, _⟩ := h0 hl
    rw [← e1, hA] at h1
    cases h1
theorem owned_src0 {w : World} {base cap : Nat} {A : Option Addr} {l : List UInt8} (h : w.ownsRow base 5 1 (.slice A l.length cap) l.length (bv l)) : Src w A l.length cap (bv l) :=
  bv_src (bytesAt_owned h) (own_nil0 h)
theorem made_bv (n : Nat) : madeCells #[.int .u8 0] n = (bv (List.replicate n 0)).toArray := by
  apply Array.ext'
  apply List.ext_getElem?
  intro j
  by_cases hj : j < n
  · simp [madeCells, hj, bv, Nat.mod_one]
  · simp [madeCells, hj, bv]
theorem only_setCell {a w : World} {g : Nat} (h : a.grownBy w (some g)) {p : Addr} (hp : p.block = g ∨ a.heap.size ≤ p.block) (u : Value) : a.grownBy (w.setCell p u) (some g) :=
  ⟨h.os, h.tape, h.output, by simpa [World.setCell] using h.size, fun i hi hne => (Below.heap_setCell w p u i (by
    rintro rfl
    rcases hp with hp | hp
    · exact hne (by rw [hp])
    · omega)).trans (h.block i hi hne)⟩
end Go.Proofs.Ytidiepbmbbflhaa
