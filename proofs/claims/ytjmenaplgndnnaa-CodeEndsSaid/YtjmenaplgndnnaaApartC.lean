/- spencekit.flatBytes: rows that grow, apart from each other. What is plain of it. -/
import Derived.Test.YtjmenaplgndnnaaApartA
namespace Go.Proofs.Ytjmenaplgndnnaa
open Go Go.RowKit
/-- what has been grown lies in its row's place, or behind all -/
def Off (r : Nat) (us : Nat → Value) (j : Nat) (v : Value) : Prop := v.ownBlock = (us j).ownBlock ∨ ∃ h, v.ownBlock = some h ∧ r < h
/-- rows, and those that have been grown so far -/
structure St (w wr : World) (R q r m k Sk : Nat) (us : Nat → Value) (ns : Nat → Nat) (V : Nat → Value) (G : Array Value) (C : Nat → List UInt8) : Prop where
  rows : Rows8 wr R q m us ns (fun j => mks j (ns j))
  gs : Blk wr r 26 G
  size : G.size = m
  cell : ∀ j, j < k → G[j]? = some (V j)
  own : ∀ j, j < k → wr.ownsRow R 5 1 (V j) (ns j + 64) (bv (C j))
  take : ∀ j, j < k → (C j).take (ns j) = mks j (ns j)
  off : ∀ j, j < k → Off r us j (V j)
  old : ∀ j, j < k → ∀ h, (V j).ownBlock = some h → h < Sk
  ht : Turned (RS m us) w wr
  hs : Sk ≤ wr.heap.size
  rs : r < Sk
structure Env (w : World) (q r m : Nat) (us : Nat → Value) (ns : Nat → Nat) : Prop where
  hp : Parted q m us ns
  us_ : ∀ j, j < m → ∀ g, (us j).ownBlock = some g → g < r
  q_ : q < r
  w_ : w.heap.size ≤ r
variable {w wr : World} {R q r m k Sk : Nat} {us : Nat → Value} {ns : Nat → Nat} {V : Nat → Value} {G : Array Value} {C : Nat → List UInt8}
/-- only some blocks turn, none of these -/
theorem St.keep {w5 : World} (h : St w wr R q r m k Sk us ns V G C) (he : Env w q r m us ns) (ht : Turned (RS m us) w w5) (hs : wr.heap.size ≤ w5.heap.size)
    (hb : ∀ b, b < wr.heap.size → b < Sk → w5.heap[b]? = wr.heap[b]?) : St w w5 R q r m k Sk us ns V G C := by
  have hrs := h.rs
  have hss := h.hs
  refine ⟨h.rows.keep fun b hlt hor => hb b hlt ?_, (hb r h.gs.lt hrs).trans h.gs, h.size, h.cell, fun j hj => owned_keep (h.own j hj) fun g hg hlt => hb g hlt (h.old j hj g hg), h.take, h.off, h.old, ht, by omega, hrs⟩
  rcases hor with rfl | ⟨j, hj, hg⟩
  · have := he.q_; omega
  · have := he.us_ j hj b hg; omega
theorem block_slice (A : Option Addr) (n n' c : Nat) : (Value.slice A n c).ownBlock = (Value.slice A n' c).ownBlock := by cases A <;> rfl
theorem St.grow {A A' : Option Addr} {c cap' n' mm : Nat} {l ms : List UInt8} {v5 : Value} {w5 : World} (h : St w wr R q r m k Sk us ns V G C) (he : Env w q r m us ns) (hk : k < m) (hu : us k = .slice A (ns k) c)
    (hl : l.take (ns k) = mks k (ns k)) (hn : ns k ≤ n') (hln : l.length = n') (hpl : (A' = A ∧ cap' = c) ∨ ∃ h, A' = some ⟨h, 0, none⟩ ∧ Sk ≤ h)
    (own5 : w5.ownsRow R 5 1 v5 (n' + mm) (bv l ++ bv ms)) (gr5 : wr.grownBy w5 (Value.slice A' n' cap').ownBlock) (grew : Grew wr w5 (.slice A' n' cap') v5 n' mm) :
    St w w5 R q r m k Sk us ns V G C ∧ ∃ A5 c5, v5 = .slice A5 (n' + mm) c5 ∧ ((A5 = A ∧ c5 = c) ∨ ∃ h, A5 = some ⟨h, 0, none⟩ ∧ Sk ≤ h) := by
  have hrs := h.rs
  have hss := h.hs
  rcases grew with ⟨g, cp, e1, rfl⟩ | ⟨hnew, hbel⟩
  · injection e1 with e1 _ e3
    subst e1 e3
    have hgr : wr.grownBy w5 (some g) := gr5
    refine ⟨?_, _, _, rfl, hpl⟩
    rcases hpl with ⟨rfl, rfl⟩ | ⟨h', e, hge⟩
    · have hg : (us k).ownBlock = some g := by rw [hu]; rfl
      have hgr2 := he.us_ k hk g hg
      refine ⟨⟨fun j hj => ?_, fun j hj => ?_⟩, h.gs.grown hgr (fun e => by injection e with e; omega), h.size, h.cell, fun j hj => ?_, h.take, h.off, h.old, h.ht.then_ (Turned.of_grown (S := RS m us) hgr (fun b hb _ => by injection hb with hb; exact ⟨k, hk, by rw [hg, hb]⟩)) (fun _ _ h => h), by have := hgr.size; omega, hrs⟩
      · by_cases hjk : j = k
        · subst hjk
          rw [hu]
          have h1 := own_cut own5 (k := ns j) (by omega)
          rw [← bvA, bv_take, List.take_append_of_le_length (by omega), hl] at h1
          exact h1
        · exact owned_keep (h.rows.own j hj) fun b hb hlt => hgr.block b hlt (fun e => by injection e with e; subst e; exact he.hp.dis k j hk hj (Ne.symm hjk) _ hg hb)
      · have hq := World.block_lt_of_cell? wr _ (h.rows.cell j hj)
        exact (World.cell?_of_block (hgr.block q hq (fun e => by injection e with e; subst e; exact he.hp.q_ ⟨k, hk, hg⟩))).trans (h.rows.cell j hj)
      · refine owned_keep (h.own j hj) fun b hb hlt => hgr.block b hlt (fun e => ?_)
        injection e with e
        subst e
        rcases h.off j hj with h1 | ⟨x, h1, h2⟩
        · rw [h1] at hb
          exact he.hp.dis j k (by omega) hk (by omega) _ hb hg
        · rw [h1] at hb
          injection hb with hb
          omega
    · injection e with e
      injection e with e
      subst e
      refine h.keep he (h.ht.then_ (Turned.of_grown (S := fun b => b = g) hgr (fun b hb _ => by injection hb with hb; exact hb.symm)) (fun b hb e => ?_)) hgr.size (fun b hlt hbs => hgr.block b hlt (fun e => by injection e with e; omega))
      subst e
      have := he.w_
      omega
  · refine ⟨h.keep he (h.ht.then_ (Turned.of_below hbel (fun _ => False)) (fun _ _ h => h.elim)) hbel.size (fun b hlt _ => hbel.block b hlt), ?_⟩
    rcases owned_form own5 with ⟨rfl, _⟩ | ⟨g, cap, cur, rfl, _⟩
    · cases hnew
    · injection hnew with hnew
      change g = wr.heap.size at hnew
      exact ⟨_, _, rfl, .inr ⟨g, rfl, by omega⟩⟩
/-- what has been grown is put into the list -/
theorem St.put {A A' : Option Addr} {c c' : Nat} {l : List UInt8} (h : St w wr R q r m k Sk us ns V G C) (he : Env w q r m us ns) (hk : k < m) (hu : us k = .slice A (ns k) c)
    (hl : l.take (ns k) = mks k (ns k)) (hv : wr.ownsRow R 5 1 (.slice A' (ns k + 64) c') (ns k + 64) (bv l)) (hpl : (A' = A ∧ c' = c) ∨ ∃ h, A' = some ⟨h, 0, none⟩ ∧ Sk ≤ h) :
    St w (wr.setCell ⟨r, k, none⟩ (.slice A' (ns k + 64) c')) R q r m (k + 1) wr.heap.size us ns (fun j => if j = k then .slice A' (ns k + 64) c' else V j) (G.setIfInBounds k (.slice A' (ns k + 64) c')) (fun j => if j = k then l else C j) := by
  have hrs := h.rs
  have hss := h.hs
  have hb : ∀ b, b ≠ r → (wr.setCell ⟨r, k, none⟩ (.slice A' (ns k + 64) c')).heap[b]? = wr.heap[b]? := fun b hb => Below.heap_setCell wr _ _ b hb
  have hne : ∀ {v : Value} {n : Nat} {xs : List Value}, wr.ownsRow R 5 1 v n xs → ∀ g, v.ownBlock = some g → g ≠ r := fun {v n xs} ho g hg e => by
    subst e
    exact owned_ne ho h.gs (by decide) hg
  refine ⟨h.rows.keep fun b hlt hor => hb b ?_, h.gs.set_ k _, by rw [Array.size_setIfInBounds]; exact h.size, fun j hj => ?_, fun j hj => ?_, fun j hj => ?_, fun j hj => ?_, fun j hj b hb => ?_, h.ht.setCell (fun hlt => by have := he.w_; change r < w.heap.size at hlt; omega) _, by simp [World.setCell], by omega⟩
  · rcases hor with rfl | ⟨j, hj, hg⟩
    · have := he.q_; omega
    · have := he.us_ j hj b hg; omega
  · by_cases hjk : j = k
    · subst hjk
      simp only [if_true]
      rw [Array.getElem?_setIfInBounds_self_of_lt (by rw [h.size]; exact hk)]
    · simp only [if_neg hjk]
      rw [Array.getElem?_setIfInBounds_ne (Ne.symm hjk)]
      exact h.cell j (by omega)
  · by_cases hjk : j = k
    · subst hjk
      simp only [if_true]
      exact owned_keep hv fun g hg _ => hb g (hne hv g hg)
    · simp only [if_neg hjk]
      exact owned_keep (h.own j (by omega)) fun g hg _ => hb g (hne (h.own j (by omega)) g hg)
  · by_cases hjk : j = k
    · subst hjk
      simp only [if_true]
      exact hl
    · simp only [if_neg hjk]
      exact h.take j (by omega)
  · by_cases hjk : j = k
    · subst hjk
      simp only [if_true]
      rcases hpl with ⟨rfl, rfl⟩ | ⟨x, rfl, hx⟩
      · exact .inl (by rw [hu]; exact block_slice _ _ _ _)
      · exact .inr ⟨x, rfl, by omega⟩
    · simp only [if_neg hjk]
      exact h.off j (by omega)
  · by_cases hjk : j = k
    · subst hjk
      simp only [if_true] at hb
      exact (owned_lt hv hb).2
    · simp only [if_neg hjk] at hb
      exact (owned_lt (h.own j (by omega)) hb).2
theorem St.drewN (h : St w wr R q r m k Sk us ns V G C) (he : Env w q r m us ns) (d : Nat) : St w (wr.drewN d) R q r m k Sk us ns V G C := h.keep he (h.ht.drewN d) (Nat.le_refl _) fun _ _ _ => rfl
theorem St.zero (h : St w wr R q r m k Sk us ns V G C) : St w wr R q r m 0 Sk us ns V G C :=
  ⟨h.rows, h.gs, h.size, fun j hj => absurd hj (by omega), fun j hj => absurd hj (by omega), fun j hj => absurd hj (by omega), fun j hj => absurd hj (by omega), fun j hj => absurd hj (by omega), h.ht, h.hs, h.rs⟩
theorem src_blk {w : World} {p n : Nat} {t : TypeId} {l : List UInt8} (h : Blk w p t (bv l).toArray) (hn : l.length = n) : Src w (some ⟨p, 0, none⟩) n n (bv l) :=
  ⟨by rw [bvL]; exact hn, (by intro h; cases h), bv1 l, (by
    intro ad had j u hu
    injection had with had
    subst had
    have h1 := h.cell j
    rw [List.getElem?_toArray, hu] at h1
    have e : (⟨p, 0, none⟩ : Addr).add j = ⟨p, j, none⟩ := by unfold Addr.add; split <;> simp_all
    rw [e]; exact h1)⟩
/-- the cell of a list, and of what stands there -/
theorem St.at_ (h : St w wr R q r m k Sk us ns V G C) {j : Nat} (hj : j < k) : wr.cell? ⟨r, j, none⟩ = some (V j) := (h.gs.cell j).trans (h.cell j hj)
theorem St.spot (h : St w wr R q r m k Sk us ns V G C) {j : Nat} (hj : j < m) : (∃ u, wr.cell? ⟨r, j, none⟩ = some u) ∧ wr.frozen? ⟨r, j, none⟩ = false :=
  ⟨⟨_, (h.gs.cell j).trans (Array.getElem?_eq_getElem (by rw [h.size]; exact hj))⟩, h.gs.frozen j⟩
theorem mark_at {l : List UInt8} {k n i : Nat} (h : l.take n = mks k n) (hi : i < n) : (bv l)[i]? = some (.int .u8 ((mk k i).toNat : Int)) := by
  rw [← mks_get k n i hi, ← h, ← bv_take, List.getElem?_take_of_lt hi]
theorem row_at (h : St w wr R q r m k Sk us ns V G C) {j i g c : Nat} (hj : j < m) (hu : us j = .slice (some ⟨g, 0, none⟩) (ns j) c) (hi : i < ns j) : wr.cell? ⟨g, i, none⟩ = some (.int .u8 ((mk j i).toNat : Int)) := by
  have h1 := h.rows.own j hj
  rw [hu] at h1
  exact (own_cell h1 i hi).1.trans (mks_get j _ i hi)
end Go.Proofs.Ytjmenaplgndnnaa
