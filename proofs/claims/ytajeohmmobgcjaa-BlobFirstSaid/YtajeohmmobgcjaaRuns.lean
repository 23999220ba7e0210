/- package blob: runs in memory; which sectors they have. -/
import Derived.Test.YtajeohmmobgcjaaGrow
import Derived.Test.YtajeohmmobgcjaaShape2
namespace Go.Proofs.Ytajeohmmobgcjaa
open Go Go.RowKit
abbrev Run := Int × Int
def runCells (l : List Run) : List Value := l.flatMap fun r => [.int .i64 r.1, .int .i64 r.2]
theorem runCells_len (l : List Run) : (runCells l).length = l.length * 2 := by
  induction l with
  | nil => rfl
  | cons p l ih =>
    show ([Value.int .i64 p.1, .int .i64 p.2] ++ runCells l).length = _
    rw [List.length_append, ih]
    show 2 + l.length * 2 = (l.length + 1) * 2
    omega
theorem runCells_app (a b : List Run) : runCells (a ++ b) = runCells a ++ runCells b := by simp [runCells]
theorem runCells_one (l : List Run) : ∀ u ∈ runCells l, u.oneCell' = true := by
  intro u hu
  obtain ⟨p, hp, hu⟩ := List.mem_flatMap.1 hu
  simp only [List.mem_cons, List.not_mem_nil, or_false] at hu
  rcases hu with rfl | rfl <;> rfl
theorem runCells_at : ∀ (l : List Run) (j : Nat) (p : Run), l[j]? = some p → (runCells l)[j * 2]? = some (.int .i64 p.1) ∧ (runCells l)[j * 2 + 1]? = some (.int .i64 p.2)
  | [], j, p, h => by simp at h
  | q :: l, 0, p, h => by
    simp only [List.getElem?_cons_zero, Option.some.injEq] at h
    subst h
    exact ⟨rfl, rfl⟩
  | q :: l, j + 1, p, h => by
    have ih := runCells_at l j p (by simpa using h)
    show ([Value.int .i64 q.1, .int .i64 q.2] ++ runCells l)[(j + 1) * 2]? = _ ∧ ([Value.int .i64 q.1, .int .i64 q.2] ++ runCells l)[(j + 1) * 2 + 1]? = _
    rw [List.getElem?_append_right (by show 2 ≤ _; omega), List.getElem?_append_right (by show 2 ≤ _; omega)]
    have e : (j + 1) * 2 - [Value.int .i64 q.1, .int .i64 q.2].length = j * 2 := by show (j + 1) * 2 - 2 = _; omega
    have e2 : (j + 1) * 2 + 1 - [Value.int .i64 q.1, .int .i64 q.2].length = j * 2 + 1 := by show (j + 1) * 2 + 1 - 2 = _; omega
    rw [e, e2]
    exact ih
def r64 (r : Run) : Prop := (-9223372036854775808 ≤ r.1 ∧ r.1 ≤ 9223372036854775807) ∧ (-9223372036854775808 ≤ r.2 ∧ r.2 ≤ 9223372036854775807)
/-- runs that lie below block B -/
def RunsM (w : World) (B : Nat) (v : Value) (l : List Run) : Prop :=
  ∃ A cap, v = .slice A l.length cap ∧ l.length ≤ cap ∧ (A = none → cap = 0) ∧ (0 < l.length → ∃ b off, A = some ⟨b, off, none⟩ ∧ b < B ∧ ∀ j r, l[j]? = some r → w.cell? ⟨b, off + j * 2, none⟩ = some (.int .i64 r.1) ∧ w.cell? ⟨b, off + j * 2 + 1, none⟩ = some (.int .i64 r.2)) ∧ ∀ r ∈ l, r64 r
theorem RunsM.alike {w w' : World} {B : Nat} {v : Value} {l : List Run} (h : RunsM w B v l) (ha : Alike B w w') : RunsM w' B v l := by
  obtain ⟨A, cap, hv, hc, hn, hA, hr⟩ := h
  exact ⟨A, cap, hv, hc, hn, fun h0 => by
    obtain ⟨b, off, h1, h2, h3⟩ := hA h0
    exact ⟨b, off, h1, h2, fun j r hj => ⟨(ha.cell (p := ⟨b, off + j * 2, none⟩) h2).trans (h3 j r hj).1, (ha.cell (p := ⟨b, off + j * 2 + 1, none⟩) h2).trans (h3 j r hj).2⟩⟩, hr⟩
theorem RunsM.widen {w : World} {B B' : Nat} {v : Value} {l : List Run} (h : RunsM w B v l) (hB : B ≤ B') : RunsM w B' v l := by
  obtain ⟨A, cap, hv, hc, hn, hA, hr⟩ := h
  exact ⟨A, cap, hv, hc, hn, fun h0 => by
    obtain ⟨b, off, h1, h2, h3⟩ := hA h0
    exact ⟨b, off, h1, by omega, h3⟩, hr⟩
theorem RunsM.src {w : World} {B cap : Nat} {A : Option Addr} {l : List Run} (h : RunsM w B (.slice A l.length cap) l) : (A = none → l.length = 0 ∧ cap = 0) ∧ ∀ ad, A = some ad → ad.block < B ∨ l = [] := by
  obtain ⟨A', cap', hv, hc, hn, hA, hr⟩ := h
  injection hv with e1 e2 e3
  subst e1 e3
  refine ⟨fun h0 => ⟨by have := hn h0; omega, hn h0⟩, fun ad had => ?_⟩
  rcases Nat.eq_zero_or_pos l.length with hl | hl
  · exact .inr (List.length_eq_zero_iff.1 hl)
  · obtain ⟨b, off, h1, h2, _⟩ := hA hl
    rw [h1] at had
    obtain rfl := Option.some.inj had
    exact .inl h2
theorem info_run : (Try.prog.info? 40).map (fun i => (i.zero, i.size, i.bytes)) = some (some (.agg #[.int .i64 0, .int .i64 0]), 2, 16) := by kernel_rfl
theorem runs_new (w : World) (l : List Run) (hr : ∀ r ∈ l, r64 r) : RunsM (w.alloc (.cells (runCells l).toArray 40)) (w.heap.size + 1) (.slice (some ⟨w.heap.size, 0, none⟩) l.length l.length) l := by
  refine ⟨_, l.length, rfl, Nat.le_refl _, (fun h => by cases h), fun _ => ⟨w.heap.size, 0, rfl, by omega, fun j r hj => ?_⟩, hr⟩
  have hb := Blk.new w 40 (runCells l).toArray
  have h := runCells_at l j r hj
  rw [Nat.zero_add, hb.cell, hb.cell]
  exact ⟨by simpa using h.1, by simpa using h.2⟩
theorem runs_nil (w : World) (B : Nat) : RunsM w B (.slice none 0 0) [] := ⟨none, 0, rfl, Nat.le_refl _, fun _ => rfl, (fun h => by cases h), fun r hr => by cases hr⟩
/-- a row of runs of one's own -/
def OwnRuns (base : Nat) (w : World) (v : Value) (l : List Run) : Prop := w.ownsRow base 40 2 v l.length (runCells l) ∧ ∀ r ∈ l, r64 r
theorem OwnRuns.below {base : Nat} {w w' : World} {v : Value} {l : List Run} (h : OwnRuns base w v l) (hb : Below w.heap.size w w') : OwnRuns base w' v l :=
  ⟨owned_keepN h.1 fun k _ hl => hb.block k hl, h.2⟩
theorem OwnRuns.m {base : Nat} {w : World} {v : Value} {l : List Run} (h : OwnRuns base w v l) : ∃ A cap, v = .slice A l.length cap ∧ RunsM w w.heap.size (.slice A l.length cap) l := by
  rcases owned_formN h.1 with ⟨rfl, h0, _⟩ | ⟨g, cap, cur, rfl, hg, hc, hcs, hb, hsz, ht, hlt⟩
  · exact ⟨none, 0, by rw [h0], none, 0, rfl, by omega, fun _ => rfl, (fun h => by omega), h.2⟩
  · refine ⟨_, cap, rfl, _, cap, rfl, hc, (fun h => by cases h), fun _ => ⟨g, 0, rfl, hlt, fun j r hj => ?_⟩, h.2⟩
    have hj2 := (List.getElem?_eq_some_iff.1 hj).1
    have h2 := runCells_at l j r hj
    rw [← ht, List.getElem?_take_of_lt (by omega), List.getElem?_take_of_lt (by omega)] at h2
    rw [Nat.zero_add, hb.cell, hb.cell, ← Array.getElem?_toList, ← Array.getElem?_toList]
    exact h2
/-- more runs behind a row of one's own -/
theorem OwnRuns.app {base : Nat} {w wm : World} {v : Value} {l news : List Run} (h : OwnRuns base w v l) (hbase : base ≤ w.heap.size) (hw : Below w.heap.size w wm) (hm : 0 < news.length) (hl : l.length + news.length ≤ 100000) (g off : Nat) (hc : ∀ j r, news[j]? = some r → wm.cell? ⟨g, off + j * 2, none⟩ = some (.int .i64 r.1) ∧ wm.cell? ⟨g, off + j * 2 + 1, none⟩ = some (.int .i64 r.2)) (hn : ∀ r ∈ news, r64 r) (c : Nat) :
    ∃ v' w', (Builtin.append_ #[24, 24] 24 #[v, .slice (some ⟨g, off, none⟩) news.length c]).run Try.prog wm = .ok v' w' ∧ OwnRuns base w' v' (l ++ news) ∧ wm.grownBy w' v.ownBlock ∧ Below base w w' := by
  obtain ⟨i, hi, hz⟩ := Option.map_eq_some_iff.1 info_run
  injection hz with hz0 hz
  injection hz with hz1 hz2
  have hr := h.below hw
  have hs := hw.size
  have hcells : ∀ j u, (runCells news)[j]? = some u → wm.cell? ((⟨g, off, none⟩ : Addr).add j) = some u := by
    intro j u hu
    rw [Addr.add_mid]
    have hj : j < news.length * 2 := by
      have := (List.getElem?_eq_some_iff.1 hu).1
      rwa [runCells_len] at this
    have hq : news[j / 2]? = some news[j / 2] := List.getElem?_eq_getElem (by omega)
    have h1 := hc _ _ hq
    have h2 := runCells_at news _ _ hq
    rcases Nat.mod_two_eq_zero_or_one j with hz | hz
    · rw [show j = j / 2 * 2 by omega] at hu ⊢
      rw [h2.1] at hu
      rw [h1.1, hu]
    · rw [show j = j / 2 * 2 + 1 by omega] at hu ⊢
      rw [h2.2] at hu
      rw [← Nat.add_assoc, h1.2, hu]
  obtain ⟨v', w', h1, h2, h3, h4⟩ := run_appG (P := Try.prog) (w := wm) base 24 24 40 i _ 2 16 Try.underlying24 hi hz0 hz1 hz2 rfl (by omega) v l.length (runCells l) hr.1 ⟨g, off, none⟩ news.length c (runCells news) (runCells_len _) hcells (runCells_one news) hm (by simp only [maxLen]; omega) (by omega) (by omega)
  refine ⟨v', w', h1, ⟨by rw [List.length_append, runCells_app]; exact h2, fun p hp => ?_⟩, h3, (Below.mono hw hbase).grown h3 (by omega) fun k hk => (owned_ltN hr.1 hk).1⟩
  rcases List.mem_append.1 hp with hp | hp
  · exact h.2 p hp
  · exact hn p hp
/-- which sectors a run has -/
def posR (r : Run) : List Nat := (List.range r.2.toNat).map (r.1.toNat + ·)
def pos (l : List Run) : List Nat := l.flatMap posR
def okRun (d : Int) (r : Run) : Prop := 0 ≤ r.1 ∧ r.1 < d ∧ 1 ≤ r.2 ∧ r.2 ≤ d - r.1
instance (d : Int) (r : Run) : Decidable (okRun d r) := by unfold okRun; exact inferInstance
def apartP (l a d : Int) (rs : List Run) : Prop := rightP l a d ∧ (∀ r ∈ rs, okRun d r) ∧ (pos rs).Nodup
instance (l a d : Int) (rs : List Run) : Decidable (apartP l a d rs) := by unfold apartP; exact inferInstance
theorem posR_lt {d : Int} {r : Run} (h : okRun d r) : ∀ x ∈ posR r, (x : Int) < d := by
  intro x hx
  obtain ⟨k, hk, rfl⟩ := List.mem_map.1 hx
  have := List.mem_range.1 hk
  obtain ⟨h1, h2, h3, h4⟩ := h
  omega
theorem pos_lt {d : Int} {rs : List Run} (h : ∀ r ∈ rs, okRun d r) : ∀ x ∈ pos rs, (x : Int) < d := by
  intro x hx
  obtain ⟨r, hr, hx⟩ := List.mem_flatMap.1 hx
  exact posR_lt (h r hr) x hx
theorem nodup_short : ∀ {n : Nat} {l : List Nat}, l.Nodup → (∀ x ∈ l, x < n) → l.length ≤ n
  | 0, l, _, hl => by
    cases l with
    | nil => exact Nat.le_refl _
    | cons a l => exact absurd (hl a (by simp)) (by omega)
  | n + 1, l, h, hl => by
    have h1 : (l.erase n).length ≤ n := nodup_short (h.erase n) fun x hx => by
      have h2 := (List.Nodup.mem_erase_iff h).1 hx
      have := hl x h2.2
      have := h2.1
      omega
    have h3 := List.length_erase (a := n) (l := l)
    split at h3 <;> omega
theorem pos_len_le (rs : List Run) (h : ∀ r ∈ rs, 1 ≤ r.2) : rs.length ≤ (pos rs).length := by
  induction rs with
  | nil => exact Nat.le_refl _
  | cons r rs ih =>
    show rs.length + 1 ≤ (posR r ++ pos rs).length
    rw [List.length_append]
    have h1 := h r (by simp)
    have h2 := ih fun r hr => h r (by simp [hr])
    have h3 : (posR r).length = r.2.toNat := by simp [posR]
    omega
end Go.Proofs.Ytajeohmmobgcjaa
