/- DevSteps: a row of deeds that grows. -/
import Derived.Test.YtajeohmmobgcjaaStepsD
namespace Go.Proofs.Ytajeohmmobgcjaa
open Go Go.RowKit
/-- a deed whose bytes lie in a block of their own, or nowhere -/
def DeedBy (w : World) (p : Deed × Value) : Prop :=
  ((p.1.b = [] ∧ p.2 = .slice none 0 0) ∨ ∃ r, p.2 = .slice (some ⟨r, 0, none⟩) p.1.b.length p.1.b.length ∧ Blk w r 5 (bv p.1.b).toArray) ∧ i64 p.1.what ∧ i64 p.1.n ∧ i64 p.1.most
theorem DeedBy.ok {w : World} {p : Deed × Value} (h : DeedBy w p) : DeedOk w w.heap.size p := by
  obtain ⟨h, k0, k1, k2⟩ := h
  refine ⟨?_, k0, k1, k2⟩
  rcases h with ⟨h1, h2⟩ | ⟨r, h1, h2⟩
  · refine ⟨none, 0, by rw [h1, h2]; rfl, ?_, fun _ => rfl⟩
    rw [h1]
    exact bytes_none w _
  · refine ⟨_, _, h1, ⟨_, _, rfl, Nat.le_refl _, fun _ => ⟨r, 0, rfl, h2.lt, fun j hj => ?_⟩⟩, fun h => by cases h⟩
    rw [Nat.zero_add, h2.cell, bv_get _ j hj]
theorem DeedBy.keep {w w' : World} {p : Deed × Value} (h : DeedBy w p) (hk : ∀ k cs, Blk w k 5 cs → w'.heap[k]? = w.heap[k]?) : DeedBy w' p := by
  obtain ⟨h, hi⟩ := h
  refine ⟨?_, hi⟩
  rcases h with h | ⟨r, h1, h2⟩
  · exact .inl h
  · exact .inr ⟨r, h1, (hk r _ h2).trans h2⟩
/-- a row of deeds of one's own -/
structure Row3 (base : Nat) (w : World) (v : Value) (l : DV) : Prop where
  own : w.ownsRow base 50 4 v l.length (flatD l)
  all : ∀ p ∈ l, DeedBy w p
theorem Row3.below {base : Nat} {w w' : World} {v : Value} {l : DV} (h : Row3 base w v l) (hb : Below w.heap.size w w') : Row3 base w' v l :=
  ⟨owned_keepN h.own fun k _ hl => hb.block k hl, fun p hp => (h.all p hp).keep fun k _ hk => hb.block k hk.lt⟩
theorem Row3.m {base : Nat} {w : World} {v : Value} {l : DV} (h : Row3 base w v l) : ∃ A cap, v = .slice A l.length cap ∧ DeedsM w w.heap.size (.slice A l.length cap) (onlyD l) := by
  have hlen : (onlyD l).length = l.length := by simp [onlyD]
  rcases owned_formN h.own with ⟨rfl, h0, _⟩ | ⟨g, cap, cur, rfl, hg, hc, hcs, hb, hsz, ht, hlt⟩
  · exact ⟨none, 0, by rw [h0], none, 0, by rw [hlen], by omega, fun h => by omega⟩
  · refine ⟨_, cap, rfl, ?_⟩
    have := deedsM_row (w := w) (B := w.heap.size) (g := g) (cap := cap) l hlt (fun p hp => (h.all p hp).ok) (fun j u hu => by
      rw [hb.cell]
      have hj : j < l.length * 4 := by
        have := (List.getElem?_eq_some_iff.1 hu).1
        rwa [flatD_len] at this
      rw [← ht, List.getElem?_take_of_lt hj] at hu
      rw [← Array.getElem?_toList]
      exact hu) hc
    rwa [hlen] at this
theorem info_deed : (Try.prog.info? 50).map (fun i => (i.zero, i.size, i.bytes)) = some (some (.agg #[.int .i64 0, .int .i64 0, .int .i64 0, .slice none 0 0]), 4, 48) := by kernel_rfl
theorem flatD_one {l : DV} {w : World} (h : ∀ p ∈ l, DeedBy w p) : ∀ u ∈ flatD l, u.oneCell' = true := by
  intro u hu
  obtain ⟨p, hp, hu⟩ := List.mem_flatMap.1 hu
  have h2 : ∃ A n c, p.2 = .slice A n c := by
    rcases (h p hp).1 with ⟨_, h⟩ | ⟨r, h, _⟩
    · exact ⟨_, _, _, h⟩
    · exact ⟨_, _, _, h⟩
  obtain ⟨A, n, c, h2⟩ := h2
  simp only [dcells, List.mem_cons, List.not_mem_nil, or_false, h2] at hu
  rcases hu with rfl | rfl | rfl | rfl <;> rfl
/-- more deeds behind a row -/
theorem Row3.app {base : Nat} {w wm : World} {v : Value} {l news : DV} (h : Row3 base w v l) (hbase : base ≤ w.heap.size) (hw : Below w.heap.size w wm) (hm : 0 < news.length) (hl : l.length + news.length ≤ 1000) (g : Nat) (hc : ∀ j u, (flatD news)[j]? = some u → wm.cell? ((⟨g, 0, none⟩ : Addr).add j) = some u) (hn : ∀ p ∈ news, DeedBy wm p) (c : Nat) :
    ∃ v' w', (Builtin.append_ #[41, 41] 41 #[v, .slice (some ⟨g, 0, none⟩) news.length c]).run Try.prog wm = .ok v' w' ∧ Row3 base w' v' (l ++ news) ∧ Below base w w' := by
  obtain ⟨i, hi, hz⟩ := Option.map_eq_some_iff.1 info_deed
  injection hz with hz0 hz
  injection hz with hz1 hz2
  have hr := h.below hw
  have hs := hw.size
  obtain ⟨v', w', h1, h2, h3, h4⟩ := run_appG (P := Try.prog) (w := wm) base 41 41 50 i _ 4 48 Try.underlying41 hi hz0 hz1 hz2 rfl (by omega) v l.length (flatD l) hr.own ⟨g, 0, none⟩ news.length c (flatD news) (flatD_len _) hc (flatD_one hn) hm (by simp only [maxLen]; omega) (by omega) (by omega)
  have hk : ∀ k cs, Blk wm k 5 cs → w'.heap[k]? = wm.heap[k]? := fun k cs hb => h3.block k hb.lt (fun e => owned_neN hr.own hb (by decide) e.symm)
  refine ⟨v', w', h1, ⟨by rw [List.length_append, flatD_app]; exact h2, fun p hp => ?_⟩, (Below.mono hw hbase).grown h3 (by omega) fun k hk => (owned_ltN hr.own hk).1⟩
  rcases List.mem_append.1 hp with hp | hp
  · exact (hr.all p hp).keep hk
  · exact (hn p hp).keep hk
/-- one more -/
theorem Row3.push {base : Nat} {w : World} {v : Value} {l : DV} (h : Row3 base w v l) (hbase : base ≤ w.heap.size) (hl : l.length ≤ 900) (a : Int) (ha : i64 a) (n z : Int) (hz : z = n % 256) :
    ∃ v' w', (Builtin.append_ #[41, 41] 41 #[v, .slice (some ⟨w.heap.size + 1, 0, none⟩) 1 1]).run Try.prog ((w.alloc (.cells #[.int .u8 z] 5)).alloc (.cells #[.int .i64 1, .int .i64 a, .int .i64 0, .slice (some ⟨w.heap.size, 0, none⟩) 1 1] 50)) = .ok v' w' ∧
      Row3 base w' v' (l ++ [(⟨1, a, 0, [byteI n]⟩, .slice (some ⟨w.heap.size, 0, none⟩) 1 1)]) ∧ Below base w w' := by
  rw [bv_byte n z hz]
  have hw : Below w.heap.size w ((w.alloc (.cells (bv [byteI n]).toArray 5)).alloc (.cells #[.int .i64 1, .int .i64 a, .int .i64 0, .slice (some ⟨w.heap.size, 0, none⟩) 1 1] 50)) := ((Below.refl _ w).alloc (Nat.le_refl _) _).alloc (by rw [size_alloc]; omega) _
  have hb := Blk.new1 w (.cells (bv [byteI n]).toArray 5) 50 #[.int .i64 1, .int .i64 a, .int .i64 0, .slice (some ⟨w.heap.size, 0, none⟩) 1 1]
  have hb2 := (Blk.new w 5 (bv [byteI n]).toArray).alloc (.cells #[.int .i64 1, .int .i64 a, .int .i64 0, .slice (some ⟨w.heap.size, 0, none⟩) 1 1] 50)
  generalize (w.alloc (.cells (bv [byteI n]).toArray 5)).alloc (.cells #[.int .i64 1, .int .i64 a, .int .i64 0, .slice (some ⟨w.heap.size, 0, none⟩) 1 1] 50) = wm at hw hb hb2 ⊢
  refine h.app (news := [(⟨1, a, 0, [byteI n]⟩, .slice (some ⟨w.heap.size, 0, none⟩) 1 1)]) hbase hw (by show 0 < 1; omega) (by show _ + 1 ≤ 1000; omega) (w.heap.size + 1) (fun j u hu => ?_) (fun p hp => ?_) 1
  · exact MadeRow.cells (l := [.int .i64 1, .int .i64 a, .int .i64 0, .slice (some ⟨w.heap.size, 0, none⟩) 1 1]) hb j u hu
  · rw [List.mem_singleton.1 hp]
    exact ⟨.inr ⟨_, rfl, hb2⟩, show i64 1 from small_i64 (by omega), ha, show i64 0 from small_i64 (by omega)⟩
/-- the two last -/
theorem Row3.two {base : Nat} {w : World} {v : Value} {l : DV} (h : Row3 base w v l) (hbase : base ≤ w.heap.size) (hl : l.length ≤ 900) :
    ∃ v' w', (Builtin.append_ #[41, 41] 41 #[v, .slice (some ⟨w.heap.size, 0, none⟩) 2 2]).run Try.prog (w.alloc (.cells #[.int .i64 5, .int .i64 0, .int .i64 0, .slice none 0 0, .int .i64 6, .int .i64 6917529027641081861, .int .i64 0, .slice none 0 0] 50)) = .ok v' w' ∧
      Row3 base w' v' (l ++ [(⟨5, 0, 0, []⟩, .slice none 0 0), (⟨6, 6917529027641081861, 0, []⟩, .slice none 0 0)]) ∧ Below base w w' := by
  have hw : Below w.heap.size w (w.alloc (.cells #[.int .i64 5, .int .i64 0, .int .i64 0, .slice none 0 0, .int .i64 6, .int .i64 6917529027641081861, .int .i64 0, .slice none 0 0] 50)) := (Below.refl _ w).alloc (Nat.le_refl _) _
  have hb := Blk.new w 50 #[.int .i64 5, .int .i64 0, .int .i64 0, .slice none 0 0, .int .i64 6, .int .i64 6917529027641081861, .int .i64 0, .slice none 0 0]
  generalize w.alloc (.cells #[.int .i64 5, .int .i64 0, .int .i64 0, .slice none 0 0, .int .i64 6, .int .i64 6917529027641081861, .int .i64 0, .slice none 0 0] 50) = wm at hw hb ⊢
  refine h.app (news := [(⟨5, 0, 0, []⟩, .slice none 0 0), (⟨6, 6917529027641081861, 0, []⟩, .slice none 0 0)]) hbase hw (by show 0 < 2; omega) (by show _ + 2 ≤ 1000; omega) w.heap.size (fun j u hu => ?_) (fun p hp => ?_) 2
  · exact MadeRow.cells (l := [.int .i64 5, .int .i64 0, .int .i64 0, .slice none 0 0, .int .i64 6, .int .i64 6917529027641081861, .int .i64 0, .slice none 0 0]) hb j u hu
  · simp only [List.mem_cons, List.not_mem_nil, or_false] at hp
    rcases hp with rfl | rfl
    · exact ⟨.inl ⟨rfl, rfl⟩, show i64 5 from small_i64 (by omega), show i64 0 from small_i64 (by omega), show i64 0 from small_i64 (by omega)⟩
    · exact ⟨.inl ⟨rfl, rfl⟩, show i64 6 from small_i64 (by omega), show i64 6917529027641081861 from ⟨by omega, by omega⟩, show i64 0 from small_i64 (by omega)⟩
end Go.Proofs.Ytajeohmmobgcjaa
