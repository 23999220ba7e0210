/- Rows: a slice of runs that came in. -/
import Derived.Test.YtajeohmmobgcjaaRow
import Derived.Test.YtajeohmmobgcjaaRuns
namespace Go.Proofs.Ytajeohmmobgcjaa
open Go.RowKit Go.WideShapes Go.ChangeShapes
set_option maxRecDepth 100000 in
theorem open_runs {H : Type} {enc : TypeId × Value → H} {w : World} {r : Reach} {b0 : Nat} {hd : Bool} {v : Value} {d : DataW H} {ps : List MemPlace}
    (hval : Value.okWide Try.prog w r b0 24 v) (h : DataW.Trod enc Try.prog w 0 (fun _ => true) hd 24 v d ps) (hsz : ∀ n ∈ d.weights Try.prog 24, n ≤ reachBytes) :
    ∃ ls : List Run, RunsM w w.heap.size v ls ∧ ls.length ≤ 140737488355328 := by
  have hr := reachBytes_lt
  have ce : Try.prog.cellsOf 40 = 2 := by kernel_rfl
  have bs : Try.prog.bytesOf 40 = 16 := by kernel_rfl
  obtain ⟨a0, len, cap, rfl⟩ := okWide_slice Try.underlying24 hval
  obtain ⟨fuel, hf⟩ := h
  rcases Go.Deep.open_slice Try.underlying24 hf with ⟨hcs, hx⟩ | ⟨a, len', cap', m, n, D, Pl, hcs, _, hl, hm, hmm, hx, hi⟩
  · simp [Value.cells] at hcs
    obtain ⟨rfl, rfl, rfl⟩ := hcs
    exact ⟨[], runs_nil _ _, by simp⟩
  · simp [Value.cells] at hcs
    obtain ⟨rfl, rfl, rfl⟩ := hcs
    simp only [Prod.mk.injEq] at hx
    obtain ⟨rfl, _⟩ := hx
    simp only [if_true] at hmm
    rw [ce] at hi
    have hel : ∀ i, i < len → ∃ p : Run, (w.cell? (a.add (i * 2)) = some (.int .i64 p.1) ∧ w.cell? ((a.add (i * 2)).add 1) = some (.int .i64 p.2)) ∧ r64 p := by
      intro i hil
      obtain ⟨cs', hc, htr⟩ := hi i (by omega)
      obtain ⟨xs, n', hn', hy, hlen, hxl, hfl⟩ := DataW.trod_struct Try.underlying40 htr
      obtain ⟨_, hcl, hat⟩ := World.cells?_some hc
      match cs', hcl with
      | [u0, u1], _ =>
        match xs, hxl with
        | [y0, y1], _ =>
          have g0 : DataW.trod enc Try.prog w 0 (fun _ => true) hd n' 3 [u0] = some y0 := hfl 0 _ rfl
          have g1 : DataW.trod enc Try.prog w 0 (fun _ => true) hd n' 3 [u1] = some y1 := hfl 1 _ rfl
          obtain ⟨z0, e0, _, f0⟩ := DataW.trod_int Try.underlying3 g0
          obtain ⟨z1, e1, _, f1⟩ := DataW.trod_int Try.underlying3 g1
          injection e0 with e0
          injection e1 with e1
          subst e0 e1
          have k0 := hat 0 (by omega)
          have k1 := hat 1 (by omega)
          exact ⟨(z0, z1), ⟨by simpa [Addr.add] using k0, k1⟩, bounds_i64 f0, bounds_i64 f1⟩
    have hlen : len ≤ 140737488355328 := by
      have h5 := hsz (((List.range len).map D).length * 16 + ((List.range (m - len)).map fun j => D (len + j)).length * 16) (by
        simp only [DataW.weights, Try.underlying24]
        rw [bs, ← Nat.add_mul]
        exact List.mem_cons_self)
      simp only [List.length_map, List.length_range] at h5
      omega
    obtain ⟨f, hfp⟩ : ∃ f : Nat → Run, ∀ i, i < len → (w.cell? (a.add (i * 2)) = some (.int .i64 (f i).1) ∧ w.cell? ((a.add (i * 2)).add 1) = some (.int .i64 (f i).2)) ∧ r64 (f i) := by
      refine ⟨fun i => if h : i < len then Classical.choose (hel i h) else (0, 0), fun i h => ?_⟩
      simp only [dif_pos h]
      exact Classical.choose_spec (hel i h)
    clear hel
    have hll : ((List.range len).map f).length = len := by simp
    refine ⟨(List.range len).map f, ⟨some a, cap, by rw [hll], by omega, (fun h => by cases h), fun h0 => ?_, fun p hp => ?_⟩, by omega⟩
    · rw [hll] at h0
      obtain ⟨⟨h1, _⟩, _⟩ := hfp 0 h0
      obtain ⟨b, off, sp⟩ := a
      cases sp with
      | none =>
        have hlt := World.block_lt_of_cell? w _ h1
        refine ⟨b, off, rfl, by simpa [Addr.add] using hlt, fun j q hj => ?_⟩
        obtain ⟨hj1, hj2⟩ := List.getElem?_eq_some_iff.1 hj
        rw [hll] at hj1
        have hj3 : f j = q := by simpa using hj2
        obtain ⟨⟨k0, k1⟩, _⟩ := hfp j hj1
        rw [hj3, add_plain] at k0 k1
        rw [add_plain] at k1
        exact ⟨k0, k1⟩
      | some q =>
        have h2 : w.cell? ⟨b, off, some q⟩ = some (.int .i64 (f 0).1) := by simpa [Addr.add] using h1
        rw [cell_spot] at h2
        cases h2
    · obtain ⟨i, hi2, rfl⟩ := List.mem_map.1 hp
      exact (hfp i (List.mem_range.1 hi2)).2
end Go.Proofs.Ytajeohmmobgcjaa
