/- package pick: a path of a class that is there, or is no more. -/
import Derived.Test.YtfppddnfdinipaaPickA
namespace Go.Proofs.Ytfppddnfdinipaa
open Go Go.RowKit Go.Maps
set_option maxRecDepth 100000
def hk (S : Sst) (h : Hsh) : List Pth := (hereL S h).map (·.1)
def hasK (l : List Pth) (p : Pth) : Bool := l.any fun q => decide (q = p)
def insK (l : List Pth) (p : Pth) : List Pth := if hasK l p then l else l ++ [p]
def delK (l : List Pth) (p : Pth) : List Pth := l.filter fun q => q ≠ p
def turnK (is : Bool) (l : List Pth) (p : Pth) : List Pth := if is then insK l p else delK l p
def one (b : Bool) : Int := if b then 1 else 0
theorem hk_len (S : Sst) (h : Hsh) : (hk S h).length = (hereL S h).length := by simp [hk]
/-- what turn does -/
structure TurnQ (own : Hsh) (S S' : Sst) (h : Hsh) (p : Pth) (is : Bool) : Prop where
  cm : S'.cm = S.cm
  cv : S'.cv = S.cv
  tm : S'.tm = S.tm
  steps : S'.steps = S.steps
  fuel : S'.fuel = S.fuel
  keys : ∀ h', hk S' h' = if h' = h then turnK is (hk S h) p else hk S h'
  bad : S'.bad = S.bad + one (confB own h (turnK is (hk S h) p).length) - one (confB own h (hk S h).length)
section
variable {B : Nat} {w w' : World} {s cb tb hb : Nat} {c : Cvs} {S : Sst}
theorem srch_set (c : Cvs) (cb tb hb : Nat) (S : Sst) (h : okH c.own) (x : Int) : (srchCells c cb tb hb S).toArray.setIfInBounds 27 (.int .i64 x) = (srchCells c cb tb hb { S with bad := x }).toArray ∧ (srchCells c cb tb hb S).toArray.setIfInBounds 28 (.int .i64 x) = (srchCells c cb tb hb { S with steps := x }).toArray := by
  have hl : (bv c.own).length = 20 := by rw [bvL]; exact h
  unfold srchCells
  constructor <;> (simp only [List.setIfInBounds_toArray]; rw [List.set_append_right _ _ (by omega), hl]; rfl)
/-- a cell of the search is turned -/
theorem SAt.set (hS : SAt B w s cb tb hb c S) {S' : Sst} {i : Nat} {v : Value} (hc : (srchCells c cb tb hb S).toArray.setIfInBounds i v = (srchCells c cb tb hb S').toArray) (h1 : S'.cm = S.cm) (h2 : S'.cv = S.cv) (h3 : S'.tm = S.tm) (h4 : S'.hm = S.hm) (h5 : S'.im = S.im) : SLeft B w s cb tb hb c S S' (w.setCell ⟨s, i, none⟩ v) := by
  have hk : ∀ k, k ≠ s → (w.setCell ⟨s, i, none⟩ v).heap[k]? = w.heap[k]? := fun k hk => Below.heap_setCell w ⟨s, i, none⟩ v k hk
  have hbs := hS.blk.set_ i v
  rw [hc] at hbs
  have hcb : cb ≠ s := fun e => map_not_cells hS.cmap (by rw [e]; exact hS.blk)
  have htb : tb ≠ s := fun e => map_not_cells hS.tmap (by rw [e]; exact hS.blk)
  have hhb : hb ≠ s := fun e => map_not_cells hS.hmap (by rw [e]; exact hS.blk)
  refine ⟨⟨hS.own, hbs, by rw [h1, h2]; exact hS.cmap.of_eq (hk _ hcb), by rw [h3]; exact hS.tmap.of_eq (hk _ htb), by rw [h4]; exact hS.hmap.of_eq (hk _ hhb), ?_, ?_, by rw [h4]; exact hS.low, by rw [h4]; exact hS.maps, by rw [h4]; exact hS.inner, by rw [h1, h2]; exact hS.apart⟩, ?_, ?_⟩
  · rw [h4, h5]
    exact fun e he => (hS.imap e he).of_eq (hk _ fun h => map_not_cells (hS.imap e he) (by rw [h]; exact hS.blk))
  · rw [h1, h2]
    exact fun p hp => (hS.rows p hp).keep fun k hv _ => hk k fun e => by
      obtain ⟨cs, hb', _⟩ := ownH_blk (hS.rows p hp) hv
      rw [e] at hb'
      exact hS.blk.ne_ hb' (by decide) rfl
  · refine ⟨rfl, rfl, rfl, by simp, fun k hlt hf => hk k fun e => hf (.inl e)⟩
  · intro k hf
    refine .inl ?_
    unfold Sst.foot at hf ⊢
    rw [h1, h2, h4] at hf
    exact hf
/-- the map of a class is laid -/
theorem SAt.laid (hS : SAt B w s cb tb hb c S) {h : Hsh} (hh : okH h) (hno : mget S.hm h = none) {b : Nat} (hbn : MapIs pV okP intV w b ([] : List (Pth × Int))) (hB : B ≤ b) (hf : ¬ S.foot s cb tb hb b) :
    ∃ w', (Instr.mapUpdate 102 (.map (some hb)) (.agg (bv h).toArray) (.map (some b))).run Try.prog w = .ok () w' ∧ SAt B w' s cb tb hb c { S with hm := S.hm ++ [(h, b)], im := fun k => if k = b then [] else S.im k } ∧ w.grownBy w' (some hb) := by
  obtain ⟨w', h1, h2, h3⟩ := hS.hmap.update hash_enc hh (t := 102) Try.underlying102 b
  rw [mput_new hno] at h2
  have hne : ∀ {k}, k ≠ hb → w'.heap[k]? = w.heap[k]? := fun hk => h3.2.1 _ hk
  have hsb : s ≠ hb := fun e => map_not_cells hS.hmap (by rw [← e]; exact hS.blk)
  have hb1 : b ≠ hb := fun e => hf (.inr (.inr (.inr (.inl e))))
  have hbm : ∀ e ∈ S.hm, e.2 ≠ b := fun e he h => hf (.inr (.inr (.inr (.inr (.inl ⟨e, he, h.symm⟩)))))
  refine ⟨w', h1, ⟨hS.own, (hne hsb).trans hS.blk, hS.cmap.of_eq (hne hS.maps.2.1), hS.tmap.of_eq (hne hS.maps.2.2.1), h2, ?_, ?_, ?_, ?_, ?_, hS.apart⟩, h3.grown⟩
  · intro e he
    rcases List.mem_append.1 he with he | he
    · dsimp only
      rw [if_neg (hbm e he)]
      exact (hS.imap e he).of_eq (hne (hS.maps.2.2.2 e he).2.2)
    · rw [List.mem_singleton.1 he]
      dsimp only
      rw [if_pos rfl]
      exact hbn.of_eq (hne hb1)
  · exact fun p hp => (hS.rows p hp).keep fun k hv _ => hne fun e => by
      obtain ⟨cs, hb', _⟩ := ownH_blk (hS.rows p hp) hv
      rw [e] at hb'
      exact map_not_cells hS.hmap hb'
  · refine ⟨hS.low.1, hS.low.2.1, hS.low.2.2.1, hS.low.2.2.2.1, fun e he => ?_⟩
    rcases List.mem_append.1 he with he | he
    · exact hS.low.2.2.2.2 e he
    · rw [List.mem_singleton.1 he]; exact hB
  · refine ⟨hS.maps.1, hS.maps.2.1, hS.maps.2.2.1, fun e he => ?_⟩
    rcases List.mem_append.1 he with he | he
    · exact hS.maps.2.2.2 e he
    · rw [List.mem_singleton.1 he]
      exact ⟨fun e => hf (.inr (.inl e)), fun e => hf (.inr (.inr (.inl e))), hb1⟩
  · show ((S.hm ++ [(h, b)]).map (·.2)).Nodup
    rw [List.map_append, List.nodup_append]
    refine ⟨hS.inner, by simp, fun x hx y hy e => ?_⟩
    obtain ⟨q, hq, rfl⟩ := List.mem_map.1 hx
    simp only [List.map_cons, List.map_nil, List.mem_singleton] at hy
    exact hbm q hq (e.trans hy)
/-- a class's map is turned -/
theorem SAt.turned (hS : SAt B w s cb tb hb c S) {h : Hsh} {b : Nat} (hb0 : mget S.hm h = some b) {m : List (Pth × Int)} (hm : MapIs pV okP intV w' b m) (ht : Turn1 w w' b) : SAt B w' s cb tb hb c { S with im := fun k => if k = b then m else S.im k } ∧ w.grownBy w' (some b) := by
  have he := mget_mem hb0
  have hmp := hS.maps.2.2.2 _ he
  have hne : ∀ {k}, k ≠ b → w'.heap[k]? = w.heap[k]? := fun hk => ht.2.1 _ hk
  have hcell : ∀ {k : Nat} {t : TypeId} {cs : Array Value}, Blk w k t cs → k ≠ b := fun hk e => map_not_cells (hS.imap _ he) (by rw [← e]; exact hk)
  refine ⟨⟨hS.own, (hne (hcell hS.blk)).trans hS.blk, hS.cmap.of_eq (hne hmp.1.symm), hS.tmap.of_eq (hne hmp.2.1.symm), hS.hmap.of_eq (hne hmp.2.2.symm), ?_, ?_, hS.low, hS.maps, hS.inner, hS.apart⟩, ht.grown⟩
  · intro e he'
    dsimp only
    split
    · rename_i h1; rw [h1]; exact hm
    · rename_i h1; exact (hS.imap e he').of_eq (hne h1)
  · exact fun p hp => (hS.rows p hp).keep fun k hv _ => hne (by
      obtain ⟨cs, hb', _⟩ := ownH_blk (hS.rows p hp) hv
      exact hcell hb')
end
end Go.Proofs.Ytfppddnfdinipaa
