/- Rows: a slice of slices of bytes that came in, with their bounds. -/
import Derived.Test.YtjmenaplgndnnaaRowParts
import Derived.Test.YtjmenaplgndnnaaRefE
namespace Go.Proofs.Ytjmenaplgndnnaa
open Go.RowKit Go.WideShapes Go.ChangeShapes
set_option maxRecDepth 100000 in
theorem open_rows {H : Type} {enc : TypeId × Value → H} {w : World} {r : Reach} {b0 : Nat} {hd : Bool} {v : Value} {d : DataW H} {ps : List MemPlace}
    (hval : Value.okWide Try.prog w r b0 48 v) (h : DataW.Trod enc Try.prog w 0 (fun _ => true) hd 48 v d ps) (hsz : ∀ n ∈ d.weights Try.prog 48, n ≤ reachBytes) :
    ∃ (A : Option Addr) (cap : Nat) (ls : List (List UInt8)), v = .slice A ls.length cap ∧ RowsAt w w.heap.size v ls ∧ ls.length ≤ 140737488355328 ∧ ∀ l ∈ ls, l.length ≤ 140737488355328 := by
  have hr := reachBytes_lt
  have ce : Try.prog.cellsOf 26 = 1 := by kernel_rfl
  have c3 : Try.prog.cellsOf 5 = 1 := by kernel_rfl
  have bs : Try.prog.bytesOf 26 = 24 := by kernel_rfl
  have b8 : Try.prog.bytesOf 5 = 1 := by kernel_rfl
  obtain ⟨a0, len, cap, rfl⟩ := okWide_slice Try.underlying48 hval
  obtain ⟨fuel, hf⟩ := h
  rcases Go.Deep.open_slice Try.underlying48 hf with ⟨hcs, hx⟩ | ⟨a, len', cap', m, n, D, Pl, hcs, _, hl, hm, hmm, hx, hi⟩
  · simp [Value.cells] at hcs
    obtain ⟨rfl, rfl, rfl⟩ := hcs
    exact ⟨none, 0, [], rfl, ⟨none, 0, rfl, Nat.le_refl _, fun h => absurd h (by simp)⟩, by simp, by simp⟩
  · simp [Value.cells] at hcs
    obtain ⟨rfl, rfl, rfl⟩ := hcs
    simp only [Prod.mk.injEq] at hx
    obtain ⟨rfl, _⟩ := hx
    simp only [if_true] at hmm
    rw [ce] at hi
    have hel : ∀ i, i < len → ∃ p : List UInt8, (∃ A c, w.cell? (a.add (i * 1)) = some (.slice A p.length c) ∧ BytesAt w w.heap.size (.slice A p.length c) p ∧ (A = none → c = 0)) ∧ p.length ≤ 140737488355328 := by
      intro i hil
      obtain ⟨cs', hc, htr⟩ := hi i (by omega)
      obtain ⟨_, hcl, hat⟩ := World.cells?_some hc
      match cs', hcl with
      | [u0], _ =>
        obtain ⟨A, c, l, rfl, hby, hnil, hd3⟩ := bslice_of Try.underlying26 Try.underlying5 c3 htr
        have k0 := hat 0 (by omega)
        refine ⟨l, ⟨A, c, by simpa [Addr.add] using k0, hby, hnil⟩, ?_⟩
        rcases hd3 with ⟨_, rfl⟩ | ⟨elems, spare, hd3, hle⟩
        · simp
        · have hmem : D i ∈ (List.range len).map D := List.mem_map.2 ⟨i, List.mem_range.2 hil, rfl⟩
          have hw : (elems.length + spare.length) * Try.prog.bytesOf 5 ∈ (D i).weights Try.prog 26 := by
            rw [show D i = .slice elems spare from hd3]
            simp only [DataW.weights, Try.underlying26]
            exact List.mem_cons_self
          have h5 := hsz ((elems.length + spare.length) * Try.prog.bytesOf 5) (by
            simp only [DataW.weights, Try.underlying48]
            exact List.mem_cons_of_mem _ (List.mem_append_left _ (weightsAll_mem hmem _ hw)))
          rw [b8] at h5
          omega
    have hlen : len ≤ 140737488355328 := by
      have h5 := hsz (((List.range len).map D).length * 24 + ((List.range (m - len)).map fun j => D (len + j)).length * 24) (by
        simp only [DataW.weights, Try.underlying48]
        rw [bs, ← Nat.add_mul]
        exact List.mem_cons_self)
      simp only [List.length_map, List.length_range] at h5
      omega
    obtain ⟨f, hfp⟩ : ∃ f : Nat → List UInt8, ∀ i, i < len → (∃ A c, w.cell? (a.add (i * 1)) = some (.slice A (f i).length c) ∧ BytesAt w w.heap.size (.slice A (f i).length c) (f i) ∧ (A = none → c = 0)) ∧ (f i).length ≤ 140737488355328 := by
      refine ⟨fun i => if h : i < len then Classical.choose (hel i h) else [], fun i h => ?_⟩
      simp only [dif_pos h]
      exact Classical.choose_spec (hel i h)
    clear hel
    have hll : ((List.range len).map f).length = len := by simp
    have hget : ∀ i, i < len → ((List.range len).map f).getD i [] = f i := by
      intro i h
      simp [List.getD, h]
    refine ⟨some a, cap, (List.range len).map f, by rw [hll], ⟨some a, cap, by rw [hll], by omega, fun h0 => ?_⟩, by omega, fun p hp => ?_⟩
    · rw [hll] at h0
      obtain ⟨⟨A, c, h1, _⟩, _⟩ := hfp 0 h0
      obtain ⟨b, off, sp⟩ := a
      cases sp with
      | none =>
        have hlt := World.block_lt_of_cell? w _ h1
        refine ⟨b, off, rfl, by simpa [Addr.add] using hlt, fun j hj => ?_⟩
        rw [hll] at hj
        rw [hget j hj]
        obtain ⟨⟨A, c, k0, k4, k5⟩, _⟩ := hfp j hj
        rw [Nat.mul_one, add_plain] at k0
        exact ⟨A, c, k0, k4, k5⟩
      | some q =>
        have h2 : w.cell? ⟨b, off, some q⟩ = some (.slice A (f 0).length c) := by simpa [Addr.add] using h1
        rw [cell_spot] at h2
        cases h2
    · obtain ⟨i, hi2, rfl⟩ := List.mem_map.1 hp
      exact (hfp i (List.mem_range.1 hi2)).2
end Go.Proofs.Ytjmenaplgndnnaa
