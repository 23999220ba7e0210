/- rows that grow in a region that draws its order: the relation of worlds. -/
import Derived.Test.YtajeohmmobgcjaaMShape
import Derived.Test.YtajeohmmobgcjaaMFreTail
namespace Go.Proofs.Ytajeohmmobgcjaa
open Go Go.RowKit
set_option maxRecDepth 100000
/-- all stays, but that rows behind B, of N cells that are told, become F's in their place -/
structure GrowR (B : Nat) (F : List Value) (N : Nat) (w w' : World) : Prop where
  os : w'.os = w.os
  tape : w'.tape = w.tape
  output : w'.output = w.output
  size : w.heap.size ≤ w'.heap.size
  block : ∀ k, k < w.heap.size → w'.heap[k]? = w.heap[k]? ∨ (B ≤ k ∧ N < F.length ∧ ∃ cs cs' e, w.heap[k]? = some (.cells cs e (0, 0)) ∧ w'.heap[k]? = some (.cells cs' e (0, 0)) ∧ cs'.size = cs.size ∧ cs.toList.take N = F.take N ∧ cs'.toList.take F.length = F)
variable {B : Nat} {F : List Value} {N : Nat}
theorem GrowR.of_below {w w' : World} (h : Below w.heap.size w w') : GrowR B F N w w' := ⟨h.os, h.tape, h.output, h.size, fun k hk => .inl (h.block k hk)⟩
theorem take_of_take {l F : List Value} {N : Nat} (h : l.take F.length = F) (hN : N < F.length) : l.take N = F.take N := by
  have h2 : (l.take F.length).take N = F.take N := by rw [h]
  rwa [List.take_take, Nat.min_eq_left (by omega)] at h2
instance : Fre.RelOk (GrowR B F N) where
  refl w := .of_below (Below.refl _ w)
  drew w := .of_below ((Below.refl _ w).drew)
  trans a b c h1 h2 := by
    refine ⟨h2.os.trans h1.os, h2.tape.trans h1.tape, h2.output.trans h1.output, Nat.le_trans h1.size h2.size, fun k hk => ?_⟩
    rcases h1.block k hk with e1 | ⟨hB, hN, cs, cs', e, q1, q2, q3, q4, q5⟩
    · rcases h2.block k (Nat.lt_of_lt_of_le hk h1.size) with e2 | ⟨hB, hN, cs, cs', e, q1, q2, q3, q4, q5⟩
      · exact .inl (e2.trans e1)
      · exact .inr ⟨hB, hN, cs, cs', e, e1.symm.trans q1, q2, q3, q4, q5⟩
    · rcases h2.block k (Nat.lt_of_lt_of_le hk h1.size) with e2 | ⟨_, _, ds, ds', e', r1, r2, r3, r4, r5⟩
      · exact .inr ⟨hB, hN, cs, cs', e, q1, e2.trans q2, q3, q4, q5⟩
      · rw [q2] at r1
        injection r1 with r1
        injection r1 with r1 r1'
        subst r1 r1'
        exact .inr ⟨hB, hN, cs, ds', e, q1, r2, r3.trans q3, q4, r5⟩
theorem GrowR.below {w w' : World} (h : GrowR w.heap.size F N w w') : Below w.heap.size w w' :=
  ⟨h.os, h.tape, h.output, h.size, fun k hk => (h.block k hk).elim id fun h => absurd h.1 (by omega)⟩
/-- the first row stays while another one grows -/
theorem own_first {u : Value} {n : Nat} {xs : List Value} {w w' : World} {ty : TypeId} {z : Nat} (h : w.ownsRow B ty z u n xs) (hxs : xs = F.take N) (hNn : N = n * z) (hx : GrowR B F N w w') : w'.ownsRow B ty z u n xs := by
  obtain ⟨hl, h⟩ := h
  rcases h with ⟨rfl, rfl⟩ | ⟨g, cap, cur, rfl, hg, hb, hn, hm, hs, ht⟩
  · exact ⟨hl, .inl ⟨rfl, rfl⟩⟩
  · have hlt : g < w.heap.size := (Array.getElem?_eq_some_iff.1 hb).1
    rcases hx.block g hlt with e | ⟨_, hN, cs, cs', e, q1, q2, q3, q4, q5⟩
    · exact ⟨hl, .inr ⟨g, cap, cur, rfl, hg, e.trans hb, hn, hm, hs, ht⟩⟩
    · rw [hb] at q1
      injection q1 with q1
      injection q1 with q1 q1'
      subst q1 q1'
      refine ⟨hl, .inr ⟨g, cap, cs', rfl, hg, q2, hn, hm, by rw [q3]; exact hs, ?_⟩⟩
      rw [← hNn, take_of_take q5 hN, hxs]
/-- and so does the one that has grown -/
theorem own_last {u : Value} {n : Nat} {w w' : World} {ty : TypeId} {z : Nat} (h : w.ownsRow B ty z u n F) (hx : GrowR B F N w w') : w'.ownsRow B ty z u n F := by
  obtain ⟨hl, h⟩ := h
  rcases h with ⟨rfl, rfl⟩ | ⟨g, cap, cur, rfl, hg, hb, hn, hm, hs, ht⟩
  · exact ⟨hl, .inl ⟨rfl, rfl⟩⟩
  · have hlt : g < w.heap.size := (Array.getElem?_eq_some_iff.1 hb).1
    rcases hx.block g hlt with e | ⟨_, hN, cs, cs', e, q1, q2, q3, q4, q5⟩
    · exact ⟨hl, .inr ⟨g, cap, cur, rfl, hg, e.trans hb, hn, hm, hs, ht⟩⟩
    · rw [hb] at q1
      injection q1 with q1
      injection q1 with q1 q1'
      subst q1 q1'
      refine ⟨hl, .inr ⟨g, cap, cs', rfl, hg, q2, hn, hm, by rw [q3]; exact hs, ?_⟩⟩
      rw [← hl]
      exact q5
theorem grow_runs {B' : Nat} {v : Value} {l : List Run} {w0 w : World} (h : RunsM w0 B' v l) (hb : B' ≤ w0.heap.size) (hB : B' ≤ B) (hx : GrowR B F N w0 w) : RunsM w B' v l :=
  h.alike fun k hk => (hx.block k (by omega)).elim id fun h => absurd h.1 (by omega)
theorem grow_blk {k : Nat} {t : TypeId} {cs : Array Value} {w0 w : World} (h : Blk w0 k t cs) (hB : k < B) (hx : GrowR B F N w0 w) : Blk w k t cs :=
  ((hx.block k h.lt).elim id fun h => absurd h.1 (by omega)).trans h
end Go.Proofs.Ytajeohmmobgcjaa
