/- package pick: a search in memory. -/
import Derived.Test.YtfppddnfdinipaaPaths
import Derived.Test.YtfppddnfdinipaaGrow
import Derived.Test.YtfppddnfdinipaaMid
import Derived.Test.YtfppddnfdinipaaExec
namespace Go.Proofs.Ytfppddnfdinipaa
open Go Go.RowKit Go.Maps
set_option maxRecDepth 100000
/-- cells of some hashes, one behind the other -/
def hashCells (l : List Hsh) : List Value := l.flatMap bv
theorem hashCells_len {l : List Hsh} (h : ∀ x ∈ l, okH x) : (hashCells l).length = l.length * 20 := by
  induction l with
  | nil => rfl
  | cons x l ih =>
    have h1 : (bv x).length = 20 := by rw [bvL]; exact h x (by simp)
    show (bv x ++ hashCells l).length = _
    rw [List.length_append, h1, ih fun y hy => h y (by simp [hy])]
    show 20 + l.length * 20 = (l.length + 1) * 20
    omega
theorem hashCells_app (a b : List Hsh) : hashCells (a ++ b) = hashCells a ++ hashCells b := by simp [hashCells]
theorem hashCells_one (l : List Hsh) : ∀ u ∈ hashCells l, u.oneCell' = true := by
  intro u hu
  obtain ⟨x, _, hx⟩ := List.mem_flatMap.1 hu
  exact bv1 x u hx
/-- a row of hashes of one's own -/
def OwnH (base : Nat) (w : World) (v : Value) (l : List Hsh) : Prop := w.ownsRow base 23 20 v l.length (hashCells l) ∧ ∀ x ∈ l, okH x
def intV (n : Int) : Value := .int .i64 n
def mapV (b : Nat) : Value := .map (some b)
/-- a search, plain: which classes paths are of (and where they lie), how often paths are there, which of a class are there (and in which map), how many conflict -/
structure Sst where
  cm : List (Pth × List Hsh)
  cv : Pth → Value
  tm : List (Pth × Int)
  hm : List (Hsh × Nat)
  im : Nat → List (Pth × Int)
  bad : Int
  steps : Int
  fuel : Int
/-- the case that is searched: its own class's cells, its four rows -/
structure Cvs where
  own : Hsh
  fixed : Value
  classes : Value
  opts : Value
  of : Value
def srchCells (c : Cvs) (cb tb hb : Nat) (S : Sst) : List Value :=
  bv c.own ++ [c.fixed, c.classes, c.opts, c.of, .map (some cb), .map (some tb), .map (some hb), .int .i64 S.bad, .int .i64 S.steps, .int .i64 S.fuel]
/-- a search in memory, whose blocks lie behind B -/
structure SAt (B : Nat) (w : World) (s cb tb hb : Nat) (c : Cvs) (S : Sst) : Prop where
  own : okH c.own
  blk : Blk w s 104 (srchCells c cb tb hb S).toArray
  cmap : MapIs pV okP (fun v : Value => v) w cb (S.cm.map fun p => (p.1, S.cv p.1))
  tmap : MapIs pV okP intV w tb S.tm
  hmap : MapIs hV okH mapV w hb S.hm
  imap : ∀ e ∈ S.hm, MapIs pV okP intV w e.2 (S.im e.2)
  rows : ∀ p ∈ S.cm, OwnH B w (S.cv p.1) p.2
  low : B ≤ s ∧ B ≤ cb ∧ B ≤ tb ∧ B ≤ hb ∧ ∀ e ∈ S.hm, B ≤ e.2
  maps : cb ≠ tb ∧ cb ≠ hb ∧ tb ≠ hb ∧ ∀ e ∈ S.hm, e.2 ≠ cb ∧ e.2 ≠ tb ∧ e.2 ≠ hb
  inner : (S.hm.map (·.2)).Nodup
  apart : ∀ p ∈ S.cm, ∀ q ∈ S.cm, p.1 ≠ q.1 → ∀ k, (S.cv p.1).ownBlock = some k → (S.cv q.1).ownBlock ≠ some k
/-- its blocks -/
def Sst.foot (S : Sst) (s cb tb hb : Nat) (k : Nat) : Prop := k = s ∨ k = cb ∨ k = tb ∨ k = hb ∨ (∃ e ∈ S.hm, k = e.2) ∨ ∃ p ∈ S.cm, (S.cv p.1).ownBlock = some k
theorem map_not_cells {K V : Type} {ek : K → Value} {ok : K → Prop} {ev : V → Value} {w : World} {b : Nat} {m : List (K × V)} (h : MapIs ek ok ev w b m) {t : TypeId} {cs : Array Value} : ¬ Blk w b t cs := by
  intro hb
  obtain ⟨es, c, h1, _⟩ := h.at_
  unfold Blk at hb
  rw [h1] at hb
  cases hb
section
variable {B : Nat} {w w' : World} {s cb tb hb : Nat} {c : Cvs} {S : Sst}
theorem ownH_blk {v : Value} {l : List Hsh} (h : OwnH B w v l) {k : Nat} (hk : v.ownBlock = some k) : ∃ cs, Blk w k 23 cs ∧ B ≤ k := by
  rcases owned_formN h.1 with ⟨rfl, _⟩ | ⟨g, cap, cur, rfl, h1, _, _, hb, _⟩
  · cases hk
  · have hk : some g = some k := hk
    injection hk with hk
    subst hk
    exact ⟨_, hb, h1⟩
theorem OwnH.keep {v : Value} {l : List Hsh} (h : OwnH B w v l) (hk : ∀ k, v.ownBlock = some k → k < w.heap.size → w'.heap[k]? = w.heap[k]?) : OwnH B w' v l := ⟨owned_keepN h.1 hk, h.2⟩
theorem SAt.foot_lt (h : SAt B w s cb tb hb c S) {k : Nat} (hk : S.foot s cb tb hb k) : k < w.heap.size ∧ B ≤ k := by
  rcases hk with rfl | rfl | rfl | rfl | ⟨e, he, rfl⟩ | ⟨p, hp, hk⟩
  · exact ⟨h.blk.lt, h.low.1⟩
  · exact ⟨h.cmap.lt, h.low.2.1⟩
  · exact ⟨h.tmap.lt, h.low.2.2.1⟩
  · exact ⟨h.hmap.lt, h.low.2.2.2.1⟩
  · exact ⟨(h.imap e he).lt, h.low.2.2.2.2 e he⟩
  · obtain ⟨cs, hb, hB⟩ := ownH_blk (h.rows p hp) hk
    exact ⟨hb.lt, hB⟩
/-- all its blocks as they were -/
theorem SAt.same (h : SAt B w s cb tb hb c S) (hk : ∀ k, S.foot s cb tb hb k → w'.heap[k]? = w.heap[k]?) : SAt B w' s cb tb hb c S :=
  ⟨h.own, (hk s (.inl rfl)).trans h.blk, h.cmap.of_eq (hk _ (.inr (.inl rfl))), h.tmap.of_eq (hk _ (.inr (.inr (.inl rfl)))), h.hmap.of_eq (hk _ (.inr (.inr (.inr (.inl rfl))))), fun e he => (h.imap e he).of_eq (hk _ (.inr (.inr (.inr (.inr (.inl ⟨e, he, rfl⟩)))))),
    fun p hp => (h.rows p hp).keep fun k hv _ => hk k (.inr (.inr (.inr (.inr (.inr ⟨p, hp, hv⟩))))), h.low, h.maps, h.inner, h.apart⟩
theorem SAt.below (h : SAt B w s cb tb hb c S) (hb' : Below w.heap.size w w') : SAt B w' s cb tb hb c S := h.same fun k hk => hb'.block k (h.foot_lt hk).1
/-- what a deed leaves: the search, all else as it was -/
def SLeft (B : Nat) (w : World) (s cb tb hb : Nat) (c : Cvs) (S S' : Sst) (w' : World) : Prop := SAt B w' s cb tb hb c S' ∧ Turned (S.foot s cb tb hb) w w' ∧ ∀ k, S'.foot s cb tb hb k → S.foot s cb tb hb k ∨ w.heap.size ≤ k
theorem SLeft.refl (h : SAt B w s cb tb hb c S) : SLeft B w s cb tb hb c S S w := ⟨h, Turned.refl _ _, fun _ h => .inl h⟩
theorem SLeft.trans {S' S'' : Sst} {w'' : World} (h : SLeft B w s cb tb hb c S S' w') (h' : SLeft B w' s cb tb hb c S' S'' w'') : SLeft B w s cb tb hb c S S'' w'' := by
  refine ⟨h'.1, h.2.1.then_ h'.2.1 fun k hk hf => (h.2.2 k hf).resolve_right (by omega), fun k hk => ?_⟩
  have := h.2.1.size
  rcases h'.2.2 k hk with h1 | h1
  · exact h.2.2 k h1
  · exact .inr (by omega)
theorem SLeft.grow {S' : Sst} {w'' : World} (h : SLeft B w s cb tb hb c S S' w') (hb' : Below w'.heap.size w' w'') : SLeft B w s cb tb hb c S S' w'' := by
  refine ⟨h.1.below hb', ?_, h.2.2⟩
  have h2 := h.2.1
  exact ⟨hb'.os.trans h2.os, hb'.tape.trans h2.tape, hb'.output.trans h2.output, Nat.le_trans h2.size hb'.size, fun k hk hf => (hb'.block k (by have := h2.size; omega)).trans (h2.block k hk hf)⟩
theorem SLeft.from {S' : Sst} {w0 : World} (hb' : Below w0.heap.size w0 w) (h : SLeft B w s cb tb hb c S S' w') : SLeft B w0 s cb tb hb c S S' w' := by
  have hs := hb'.size
  refine ⟨h.1, ?_, fun k hk => (h.2.2 k hk).imp id fun h1 => by omega⟩
  have h2 := h.2.1
  exact ⟨h2.os.trans hb'.os, h2.tape.trans hb'.tape, h2.output.trans hb'.output, by have := h2.size; omega, fun k hk hf => (h2.block k (by omega) hf).trans (hb'.block k hk)⟩
/-- the cells of a search -/
theorem srch_at (c : Cvs) (cb tb hb : Nat) (S : Sst) (h : okH c.own) : (srchCells c cb tb hb S).length = 30 ∧ (srchCells c cb tb hb S)[20]? = some c.fixed ∧ (srchCells c cb tb hb S)[21]? = some c.classes ∧ (srchCells c cb tb hb S)[22]? = some c.opts ∧ (srchCells c cb tb hb S)[23]? = some c.of ∧
    (srchCells c cb tb hb S)[24]? = some (.map (some cb)) ∧ (srchCells c cb tb hb S)[25]? = some (.map (some tb)) ∧ (srchCells c cb tb hb S)[26]? = some (.map (some hb)) ∧ (srchCells c cb tb hb S)[27]? = some (.int .i64 S.bad) ∧ (srchCells c cb tb hb S)[28]? = some (.int .i64 S.steps) ∧ (srchCells c cb tb hb S)[29]? = some (.int .i64 S.fuel) := by
  have hl : (bv c.own).length = 20 := by rw [bvL]; exact h
  unfold srchCells
  refine ⟨by simp [hl], ?_⟩
  simp only [List.getElem?_append_right (show (bv c.own).length ≤ 20 by omega), List.getElem?_append_right (show (bv c.own).length ≤ 21 by omega), List.getElem?_append_right (show (bv c.own).length ≤ 22 by omega), List.getElem?_append_right (show (bv c.own).length ≤ 23 by omega), List.getElem?_append_right (show (bv c.own).length ≤ 24 by omega), List.getElem?_append_right (show (bv c.own).length ≤ 25 by omega), List.getElem?_append_right (show (bv c.own).length ≤ 26 by omega), List.getElem?_append_right (show (bv c.own).length ≤ 27 by omega), List.getElem?_append_right (show (bv c.own).length ≤ 28 by omega), List.getElem?_append_right (show (bv c.own).length ≤ 29 by omega), hl]
  exact ⟨rfl, rfl, rfl, rfl, rfl, rfl, rfl, rfl, rfl, rfl⟩
theorem SAt.cells (h : SAt B w s cb tb hb c S) : w.rangeAt s 0 (bv c.own) ∧ w.cell? ⟨s, 20, none⟩ = some c.fixed ∧ w.cell? ⟨s, 21, none⟩ = some c.classes ∧ w.cell? ⟨s, 22, none⟩ = some c.opts ∧ w.cell? ⟨s, 23, none⟩ = some c.of ∧
    w.cell? ⟨s, 24, none⟩ = some (.map (some cb)) ∧ w.cell? ⟨s, 25, none⟩ = some (.map (some tb)) ∧ w.cell? ⟨s, 26, none⟩ = some (.map (some hb)) ∧ w.cell? ⟨s, 27, none⟩ = some (.int .i64 S.bad) ∧ w.cell? ⟨s, 28, none⟩ = some (.int .i64 S.steps) ∧ w.cell? ⟨s, 29, none⟩ = some (.int .i64 S.fuel) := by
  obtain ⟨_, h0, h1, h2, h3, h4, h5, h6, h7, h8, h9⟩ := srch_at c cb tb hb S h.own
  have hc : ∀ i, w.cell? ⟨s, i, none⟩ = (srchCells c cb tb hb S)[i]? := fun i => by rw [h.blk.cell]; simp
  simp only [hc]
  refine ⟨?_, h0, h1, h2, h3, h4, h5, h6, h7, h8, h9⟩
  intro j v hv
  rw [Nat.zero_add, hc]
  unfold srchCells
  rw [List.getElem?_append_left (List.getElem?_eq_some_iff.1 hv).1]
  exact hv
end
end Go.Proofs.Ytfppddnfdinipaa
