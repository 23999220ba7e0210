/- runs: rows that grow in a region that draws its order. -/
import Derived.Test.YtajeohmmobgcjaaBlobFinds
import Derived.Test.YtajeohmmobgcjaaFre2
namespace Go.Proofs.Ytajeohmmobgcjaa
open Go Go.RowKit
set_option maxRecDepth 100000
/-- all stays, but that rows behind B, of N cells that are told, become F's in their place -/
structure GrowR (B : Nat) (F : List Value) (N : Nat) (w w' : World) : Prop where
  os : w'.os = w.os
  tape : w'.tape = w.tape
  output : w'.output = w.output
  size : w.heap.size ≤ w'.heap.size
  block : ∀ k, k < w.heap.size → w'.heap[k]? = w.heap[k]? ∨ (B ≤ k ∧ N < F.length ∧ ∃ cs cs' e, w.heap[k]? = some (.cells cs e (0, 0)) ∧ w'.heap[k]? = some (.cells cs' e (0, 0)) ∧ cs'.size = cs.size ∧ cs.toList.take N = F.take N ∧ cs'.toList.take F.length = F)
variable {B : Nat} {F : List Value} {N : Nat}
theorem GrowR.of_below {w w' : World} (h : Below w.heap.size w w') : GrowR B F N w w' := ⟨h.os, h.tape, h.output, h.size, fun k hk => .inl (h.block k hk)⟩
theorem take_of_take {l F : List Value} {N : Nat} (h : l.take F.length = F) (hN : N < F.length) : l.take N = F.take N := by
  have h2 : (l.take F.length).take N = F.take N := by rw [h]
  rwa [List.take_take, Nat.min_eq_left (by omega)] at h2
instance : Fre.RelOk (GrowR B F N) where
  refl w := .of_below (Below.refl _ w)
  drew w := .of_below ((Below.refl _ w).drew)
  trans a b c h1 h2 := by
    refine ⟨h2.os.trans h1.os, h2.tape.trans h1.tape, h2.output.trans h1.output, Nat.le_trans h1.size h2.size, fun k hk => ?_⟩
    rcases h1.block k hk with e1 | ⟨hB, hN, cs, cs', e, q1, q2, q3, q4, q5⟩
    · rcases h2.block k (Nat.lt_of_lt_of_le hk h1.size) with e2 | ⟨hB, hN, cs, cs', e, q1, q2, q3, q4, q5⟩
      · exact .inl (e2.trans e1)
      · exact .inr ⟨hB, hN, cs, cs', e, e1.symm.trans q1, q2, q3, q4, q5⟩
    · rcases h2.block k (Nat.lt_of_lt_of_le hk h1.size) with e2 | ⟨_, _, ds, ds', e', r1, r2, r3, r4, r5⟩
      · exact .inr ⟨hB, hN, cs, cs', e, q1, e2.trans q2, q3, q4, q5⟩
      · rw [q2] at r1
        injection r1 with r1
        injection r1 with r1 r1'
        subst r1 r1'
        exact .inr ⟨hB, hN, cs, ds', e, q1, r2, r3.trans q3, q4, r5⟩
theorem GrowR.below {w w' : World} (h : GrowR w.heap.size F N w w') : Below w.heap.size w w' :=
  ⟨h.os, h.tape, h.output, h.size, fun k hk => (h.block k hk).elim id fun h => absurd h.1 (by omega)⟩
/-- an empty row -/
def EmptyV (B : Nat) (u : Value) (w : World) : Prop := ∃ r, u = .slice (some ⟨r, 0, none⟩) 0 0 ∧ B ≤ r ∧ Blk w r 40 #[]
theorem EmptyV.stays {u : Value} {w w' : World} (h : EmptyV B u w) (hx : GrowR B F N w w') : EmptyV B u w' := by
  obtain ⟨r, rfl, hr, hb⟩ := h
  refine ⟨r, rfl, hr, ?_⟩
  rcases hx.block r hb.lt with e | ⟨_, hN, cs, cs', e, q1, q2, q3, q4, q5⟩
  · exact e.trans hb
  · have hb' : w.heap[r]? = some (.cells #[] 40 (0, 0)) := hb
    rw [q1] at hb'
    injection hb' with hb'
    injection hb' with hb' _
    subst hb'
    have : cs'.toList = [] := List.eq_nil_of_length_eq_zero (by simpa using q3)
    rw [this, List.take_nil] at q5
    subst q5
    simp at hN
/-- the first row stays while another one grows -/
theorem own_first {u : Value} {n : Nat} {xs : List Value} {w w' : World} (h : w.ownsRow B 40 2 u n xs) (hxs : xs = F.take N) (hNn : N = n * 2) (hx : GrowR B F N w w') : w'.ownsRow B 40 2 u n xs := by
  obtain ⟨hl, h⟩ := h
  rcases h with ⟨rfl, rfl⟩ | ⟨g, cap, cur, rfl, hg, hb, hn, hm, hs, ht⟩
  · exact ⟨hl, .inl ⟨rfl, rfl⟩⟩
  · have hlt : g < w.heap.size := (Array.getElem?_eq_some_iff.1 hb).1
    rcases hx.block g hlt with e | ⟨_, hN, cs, cs', e, q1, q2, q3, q4, q5⟩
    · exact ⟨hl, .inr ⟨g, cap, cur, rfl, hg, e.trans hb, hn, hm, hs, ht⟩⟩
    · rw [hb] at q1
      injection q1 with q1
      injection q1 with q1 q1'
      subst q1 q1'
      refine ⟨hl, .inr ⟨g, cap, cs', rfl, hg, q2, hn, hm, by rw [q3]; exact hs, ?_⟩⟩
      rw [← hNn, take_of_take q5 hN, hxs]
/-- and so does the one that has grown -/
theorem own_last {u : Value} {n : Nat} {w w' : World} (h : w.ownsRow B 40 2 u n F) (hx : GrowR B F N w w') : w'.ownsRow B 40 2 u n F := by
  obtain ⟨hl, h⟩ := h
  rcases h with ⟨rfl, rfl⟩ | ⟨g, cap, cur, rfl, hg, hb, hn, hm, hs, ht⟩
  · exact ⟨hl, .inl ⟨rfl, rfl⟩⟩
  · have hlt : g < w.heap.size := (Array.getElem?_eq_some_iff.1 hb).1
    rcases hx.block g hlt with e | ⟨_, hN, cs, cs', e, q1, q2, q3, q4, q5⟩
    · exact ⟨hl, .inr ⟨g, cap, cur, rfl, hg, e.trans hb, hn, hm, hs, ht⟩⟩
    · rw [hb] at q1
      injection q1 with q1
      injection q1 with q1 q1'
      subst q1 q1'
      refine ⟨hl, .inr ⟨g, cap, cs', rfl, hg, q2, hn, hm, by rw [q3]; exact hs, ?_⟩⟩
      rw [← hl]
      exact q5
theorem run_cells {W : World} {b off : Nat} {rs : List Run} (hc : ∀ j r, rs[j]? = some r → W.cell? ⟨b, off + j * 2, none⟩ = some (.int .i64 r.1) ∧ W.cell? ⟨b, off + j * 2 + 1, none⟩ = some (.int .i64 r.2)) : ∀ j u, (runCells rs)[j]? = some u → W.cell? ((⟨b, off, none⟩ : Addr).add j) = some u := by
  intro j u hu
  rw [Addr.add_mid]
  have hj : j < rs.length * 2 := by
    have := (List.getElem?_eq_some_iff.1 hu).1
    rwa [runCells_len] at this
  have hq : rs[j / 2]? = some rs[j / 2] := List.getElem?_eq_getElem (by omega)
  have h1 := hc _ _ hq
  have h2 := runCells_at rs _ _ hq
  rcases Nat.mod_two_eq_zero_or_one j with hz | hz
  · rw [show j = j / 2 * 2 by omega] at hu ⊢
    rw [h2.1] at hu
    rw [h1.1, hu]
  · rw [show j = j / 2 * 2 + 1 by omega] at hu ⊢
    rw [h2.2] at hu
    rw [← Nat.add_assoc, h1.2, hu]
/-- onto an empty row -/
theorem app_first {u : Value} {W : World} {A : Option Addr} {cp : Nat} {rs : List Run} {B' : Nat} (h : EmptyV B u W) (hB : B ≤ W.heap.size) (hm : RunsM W B' (.slice A rs.length cp) rs) (hl : rs.length ≤ 100000) :
    ∃ v' w', (Builtin.append_ #[24, 24] 24 #[u, .slice A rs.length cp]).run Try.prog W = .ok v' w' ∧ GrowR B F N W w' ∧ w'.ownsRow B 40 2 v' rs.length (runCells rs) := by
  obtain ⟨r, rfl, hr, hb⟩ := h
  have hown : W.ownsRow B 40 2 (.slice (some ⟨r, 0, none⟩) 0 0) 0 [] := ⟨rfl, .inr ⟨r, 0, #[], rfl, hr, hb, Nat.le_refl _, Nat.zero_le _, rfl, rfl⟩⟩
  obtain ⟨i, hi, hz0, hz1, hz2⟩ := info_parts info_run
  obtain ⟨A', cap, hv, hcap, hnil, hA, h64⟩ := hm
  injection hv with e1 _ e2
  subst e1 e2
  rcases Nat.eq_zero_or_pos rs.length with h0 | h0
  · obtain rfl := List.length_eq_zero_iff.1 h0
    cases A with
    | none =>
      obtain rfl := hnil rfl
      exact ⟨_, W, run_append_owned_none (P := Try.prog) (w := W) B 24 24 40 i 2 Try.underlying24 hi _ 0 [] hown, .of_below (Below.refl _ _), hown⟩
    | some ad =>
      have h := run_append_room_cells (P := Try.prog) (w := W) 24 24 40 i Try.underlying24 hi r 0 0 0 ad 0 cp [] (by simp) (fun j u hu => by simp at hu) (fun u hu => by cases hu) (Nat.le_refl _) (fun j hj => by simp at hj) (fun j hj => by simp at hj)
      exact ⟨_, _, h, .of_below (Below.refl _ _), hown⟩
  · obtain ⟨b, off, rfl, hbB, hc⟩ := hA h0
    have hcells := run_cells hc
    obtain ⟨v', w', k1, k2, k3, k4⟩ := run_appG (P := Try.prog) (w := W) B 24 24 40 i _ 2 16 Try.underlying24 hi hz0 hz1 hz2 rfl (by omega) _ 0 [] hown ⟨b, off, none⟩ rs.length cp (runCells rs) (runCells_len _) hcells (runCells_one rs) h0 (by simp only [maxLen]; omega) (by omega) hB
    refine ⟨v', w', k1, .of_below ?_, by simpa using k2⟩
    rcases k4 with ⟨g, cap, q1, q2⟩ | ⟨_, h⟩
    · injection q1 with _ _ q1
      subst q1 q2
      rcases owned_formN k2 with ⟨h, _⟩ | ⟨g', cap', cur, h, _, h2, _⟩
      · cases h
      · injection h with _ h3 h4
        omega
    · exact h
/-- onto the first row -/
theorem app_more {u : Value} {W : World} {A : Option Addr} {cp : Nat} {rs fs : List Run} {B' : Nat} (h : W.ownsRow B 40 2 u rs.length (runCells rs)) (hB : B ≤ W.heap.size) (hm : RunsM W B' (.slice A fs.length cp) fs) (hf : 0 < fs.length) (hl : rs.length + fs.length ≤ 100000) :
    ∃ v' w', (Builtin.append_ #[24, 24] 24 #[u, .slice A fs.length cp]).run Try.prog W = .ok v' w' ∧ GrowR B (runCells (rs ++ fs)) (rs.length * 2) W w' ∧ w'.ownsRow B 40 2 v' (rs.length + fs.length) (runCells (rs ++ fs)) := by
  obtain ⟨i, hi, hz0, hz1, hz2⟩ := info_parts info_run
  obtain ⟨A', cap, hv, hcap, hnil, hA, h64⟩ := hm
  injection hv with e1 _ e2
  subst e1 e2
  obtain ⟨b, off, rfl, hbB, hc⟩ := hA hf
  obtain ⟨v', w', k1, k2, k3, k4⟩ := run_appG (P := Try.prog) (w := W) B 24 24 40 i _ 2 16 Try.underlying24 hi hz0 hz1 hz2 rfl (by omega) _ rs.length (runCells rs) h ⟨b, off, none⟩ fs.length cp (runCells fs) (runCells_len _) (run_cells hc) (runCells_one fs) hf (by simp only [maxLen]; omega) (by omega) hB
  rw [← runCells_app] at k2
  refine ⟨v', w', k1, ?_, k2⟩
  rcases k4 with ⟨g, cap, rfl, rfl⟩ | ⟨_, h⟩
  · refine ⟨k3.os, k3.tape, k3.output, k3.size, fun k hk => ?_⟩
    by_cases hkg : k = g
    · subst hkg
      rcases h.2 with ⟨h, _⟩ | ⟨g1, c1, cs, q1, q2, q3, q4, q5, q6, q7⟩
      · cases h
      · rcases k2.2 with ⟨h, _⟩ | ⟨g2, c2, cs', r1, r2, r3, r4, r5, r6, r7⟩
        · cases h
        · injection q1 with q1 _ q1'
          injection r1 with r1 _ r1'
          injection q1 with q1
          injection r1 with r1
          injection q1 with q1
          injection r1 with r1
          subst q1 r1 q1' r1'
          have hF : (runCells (rs ++ fs)).length = (rs.length + fs.length) * 2 := k2.1
          refine .inr ⟨q2, by omega, cs, cs', _, q3, r3, by rw [r6, q6], ?_, by rw [hF]; exact r7⟩
          rw [q7, runCells_app, List.take_left' (runCells_len rs)]
    · exact .inl (k3.block k hk fun e => hkg (by have e : some g = some k := e.symm; injection e with e; exact e.symm))
  · exact .of_below h
theorem grow_runs {B' : Nat} {v : Value} {l : List Run} {w0 w : World} (h : RunsM w0 B' v l) (hb : B' ≤ w0.heap.size) (hB : B' ≤ B) (hx : GrowR B F N w0 w) : RunsM w B' v l :=
  h.alike fun k hk => (hx.block k (by omega)).elim id fun h => absurd h.1 (by omega)
theorem grow_blk {k : Nat} {t : TypeId} {cs : Array Value} {w0 w : World} (h : Blk w0 k t cs) (hB : k < B) (hx : GrowR B F N w0 w) : Blk w k t cs :=
  ((hx.block k h.lt).elim id fun h => absurd h.1 (by omega)).trans h
end Go.Proofs.Ytajeohmmobgcjaa
