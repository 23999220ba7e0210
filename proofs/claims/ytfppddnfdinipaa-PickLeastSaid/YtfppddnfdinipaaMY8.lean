/- spencekit.flatBytes: rows of bytes that lie apart. What is plain of it. spencekit.flatBytes: rows that grow, apart from each other. What is plain of it. spencekit.flatBytes: rows of bytes that lie apart: the walk. spencekit: the flat.. of each kind but bytes, where there is nothing of that kind. spencekit.ApartBytes: rows of bytes lie apart. spencekit.ApartBytes: rows of bytes that lie apart are told to. spencelaw24: PickLeast: the walk. spencelaw24.PickLeast is true of every input, and leaves all as it was. No condition. -/
import Derived.Test.YtfppddnfdinipaaApp2
import Derived.Test.YtfppddnfdinipaaMY5
import Derived.Test.YtfppddnfdinipaaQuietTail
import Derived.BigQuiet
import Derived.Test.YtfppddnfdinipaaBase3
import Derived.Deep.OwnRows
import Derived.Test.YtfppddnfdinipaaMY7
import Derived.Test.YtfppddnfdinipaaMY1
import Derived.Test.YtfppddnfdinipaaRows
section
namespace Go.Proofs.Ytfppddnfdinipaa.ApI
open Go Go.RowKit
theorem info_int8 : (Try.prog.info? 3).map (fun i => (i.zero, i.size, i.bytes)) = some (some (.int .i64 0), 1, 8) := by kernel_rfl
theorem info_rowI : (Try.prog.info? 33).map (fun i => (i.zero, i.size, i.bytes)) = some (some (.slice none 0 0), 1, 24) := by kernel_rfl
/-- the mark of a place in a list of numbers -/
def mk (k i : Nat) : Int := 1000003 * ((k : Int) + 7) + (i : Int)
theorem mk_any (k i : Nat) (hk : k ≤ 1000000000) (hi : i ≤ 1000000000) (w : World) : Calls Try.prog 56 #[.int .i64 (k : Int), .int .i64 (i : Int)] w fun e w' => e = .returned (.int .i64 (mk k i)) ∧ w' = w :=
  mark_any (k : Int) (i : Int) (by omega) (by omega) w
theorem ivzL (l : List Int) : (ivz l).length = l.length := by simp [ivz]
theorem ivzA (a b : List Int) : ivz (a ++ b) = ivz a ++ ivz b := ivz_append a b
theorem ivz1 (l : List Int) : ∀ v ∈ ivz l, v.oneCell' = true := fun v hv => by
  obtain ⟨x, _, rfl⟩ := List.mem_map.1 hv
  rfl
theorem made_ivz (n : Nat) : madeCells #[.int .i64 0] n = (ivz (List.replicate n 0)).toArray := by
  apply Array.ext'
  apply List.ext_getElem?
  intro j
  by_cases hj : j < n
  · simp [madeCells, hj, ivz, Nat.mod_one]
  · simp [madeCells, hj, ivz]
/-- the marks of a row -/
def mks (k n : Nat) : List Int := (List.range n).map (mk k)
theorem length_mks (k n : Nat) : (mks k n).length = n := by simp [mks]
theorem mks_get (k n j : Nat) (h : j < n) : (ivz (mks k n))[j]? = some (.int .i64 (mk k j)) := by simp [ivz, mks, h]
theorem mks_succ (k n : Nat) : mks k (n + 1) = mks k n ++ [mk k n] := by simp [mks, List.range_succ]
theorem mks_take (k n m : Nat) (h : m ≤ n) : (mks k n).take m = mks k m := by
  simp only [mks, ← List.map_take, List.take_range]
  rw [Nat.min_eq_left h]
theorem ivz_take (l : List Int) (k : Nat) : (ivz l).take k = ivz (l.take k) := by simp [ivz, List.map_take]
theorem ivz_set' (l : List Int) (i : Nat) (x : Int) : (ivz l).set i (.int .i64 x) = ivz (l.set i x) := by simp [ivz, List.map_set]
/-- rows that one owns, and a list that holds them -/
structure Rows8 (w : World) (R q m : Nat) (us : Nat → Value) (ns : Nat → Nat) (L : Nat → List Int) : Prop where
  own : ∀ j, j < m → w.ownsRow R 3 1 (us j) (ns j) (ivz (L j))
  cell : ∀ j, j < m → w.cell? ⟨q, j, none⟩ = some (us j)
/-- the rows' places -/
def RS (m : Nat) (us : Nat → Value) (g : Nat) : Prop := ∃ j, j < m ∧ (us j).ownBlock = some g
structure Parted (q m : Nat) (us : Nat → Value) (ns : Nat → Nat) : Prop where
  dis : ∀ i j, i < m → j < m → i ≠ j → ∀ g, (us i).ownBlock = some g → (us j).ownBlock ≠ some g
  q_ : ¬ RS m us q
  small : ∀ j, j < m → ns j ≤ 1000000
theorem Rows8.len {w : World} {R q m : Nat} {us : Nat → Value} {ns : Nat → Nat} {L : Nat → List Int} (h : Rows8 w R q m us ns L) (j : Nat) (hj : j < m) : (L j).length = ns j := by
  have := (h.own j hj).1
  simpa [ivz] using this
theorem Rows8.keep {w w' : World} {R q m : Nat} {us : Nat → Value} {ns : Nat → Nat} {L : Nat → List Int} (h : Rows8 w R q m us ns L) (hk : ∀ b, b < w.heap.size → (b = q ∨ RS m us b) → w'.heap[b]? = w.heap[b]?) : Rows8 w' R q m us ns L :=
  ⟨fun j hj => owned_keep (h.own j hj) fun g hg hlt => hk g hlt (.inr ⟨j, hj, hg⟩), fun j hj => (World.cell?_of_block (hk q (World.block_lt_of_cell? w _ (h.cell j hj)) (.inl rfl))).trans (h.cell j hj)⟩
theorem Rows8.drewN {w : World} {R q m : Nat} {us : Nat → Value} {ns : Nat → Nat} {L : Nat → List Int} (h : Rows8 w R q m us ns L) (k : Nat) : Rows8 (w.drewN k) R q m us ns L := h.keep fun _ _ _ => rfl
/-- one cell of one row is written -/
theorem Rows8.set {w : World} {R q m g cap i k : Nat} {us : Nat → Value} {ns : Nat → Nat} {L : Nat → List Int} {x : Int} (h : Rows8 w R q m us ns L) (hp : Parted q m us ns) (hk : k < m) (hu : us k = .slice (some ⟨g, 0, none⟩) (ns k) cap) :
    Rows8 (w.setCell ⟨g, i, none⟩ (.int .i64 x)) R q m us ns (fun j => if j = k then (L k).set i x else L j) := by
  have hg : (us k).ownBlock = some g := by rw [hu]; rfl
  refine ⟨fun j hj => ?_, fun j hj => ?_⟩
  · by_cases hjk : j = k
    · subst hjk
      simp only [if_true]
      have h1 := h.own j hj
      rw [hu] at h1 ⊢
      rw [← ivz_set']
      exact own_set h1
    · simp only [if_neg hjk]
      exact owned_keep (h.own j hj) fun b hb _ => Below.heap_setCell w _ _ b (by rintro rfl; exact hp.dis k j hk hj (Ne.symm hjk) _ hg hb)
  · refine (World.cell?_setCell_other _ _ _ _ ?_).trans (h.cell j hj)
    intro e
    injection e with e
    exact hp.q_ ⟨k, hk, by rw [hg, e]⟩
end Go.Proofs.Ytfppddnfdinipaa.ApI
end
section
namespace Go.Proofs.Ytfppddnfdinipaa.ApI
open Go Go.RowKit
/-- what has been grown lies in its row's place, or behind all -/
def Off (r : Nat) (us : Nat → Value) (j : Nat) (v : Value) : Prop := v.ownBlock = (us j).ownBlock ∨ ∃ h, v.ownBlock = some h ∧ r < h
/-- rows, and those that have been grown so far -/
structure St (w wr : World) (R q r m k Sk : Nat) (us : Nat → Value) (ns : Nat → Nat) (V : Nat → Value) (G : Array Value) (C : Nat → List Int) : Prop where
  rows : Rows8 wr R q m us ns (fun j => mks j (ns j))
  gs : Blk wr r 33 G
  size : G.size = m
  cell : ∀ j, j < k → G[j]? = some (V j)
  own : ∀ j, j < k → wr.ownsRow R 3 1 (V j) (ns j + 64) (ivz (C j))
  take : ∀ j, j < k → (C j).take (ns j) = mks j (ns j)
  off : ∀ j, j < k → Off r us j (V j)
  old : ∀ j, j < k → ∀ h, (V j).ownBlock = some h → h < Sk
  ht : Turned (RS m us) w wr
  hs : Sk ≤ wr.heap.size
  rs : r < Sk
structure Env (w : World) (q r m : Nat) (us : Nat → Value) (ns : Nat → Nat) : Prop where
  hp : Parted q m us ns
  us_ : ∀ j, j < m → ∀ g, (us j).ownBlock = some g → g < r
  q_ : q < r
  w_ : w.heap.size ≤ r
variable {w wr : World} {R q r m k Sk : Nat} {us : Nat → Value} {ns : Nat → Nat} {V : Nat → Value} {G : Array Value} {C : Nat → List Int}
/-- only some blocks turn, none of these -/
theorem St.keep {w5 : World} (h : St w wr R q r m k Sk us ns V G C) (he : Env w q r m us ns) (ht : Turned (RS m us) w w5) (hs : wr.heap.size ≤ w5.heap.size)
    (hb : ∀ b, b < wr.heap.size → b < Sk → w5.heap[b]? = wr.heap[b]?) : St w w5 R q r m k Sk us ns V G C := by
  have hrs := h.rs
  have hss := h.hs
  refine ⟨h.rows.keep fun b hlt hor => hb b hlt ?_, (hb r h.gs.lt hrs).trans h.gs, h.size, h.cell, fun j hj => owned_keep (h.own j hj) fun g hg hlt => hb g hlt (h.old j hj g hg), h.take, h.off, h.old, ht, by omega, hrs⟩
  rcases hor with rfl | ⟨j, hj, hg⟩
  · have := he.q_; omega
  · have := he.us_ j hj b hg; omega
theorem block_slice (A : Option Addr) (n n' c : Nat) : (Value.slice A n c).ownBlock = (Value.slice A n' c).ownBlock := by cases A <;> rfl
theorem St.grow {A A' : Option Addr} {c cap' n' mm : Nat} {l ms : List Int} {v5 : Value} {w5 : World} (h : St w wr R q r m k Sk us ns V G C) (he : Env w q r m us ns) (hk : k < m) (hu : us k = .slice A (ns k) c)
    (hl : l.take (ns k) = mks k (ns k)) (hn : ns k ≤ n') (hln : l.length = n') (hpl : (A' = A ∧ cap' = c) ∨ ∃ h, A' = some ⟨h, 0, none⟩ ∧ Sk ≤ h)
    (own5 : w5.ownsRow R 3 1 v5 (n' + mm) (ivz l ++ ivz ms)) (gr5 : wr.grownBy w5 (Value.slice A' n' cap').ownBlock) (grew : Grew wr w5 (.slice A' n' cap') v5 n' mm) :
    St w w5 R q r m k Sk us ns V G C ∧ ∃ A5 c5, v5 = .slice A5 (n' + mm) c5 ∧ ((A5 = A ∧ c5 = c) ∨ ∃ h, A5 = some ⟨h, 0, none⟩ ∧ Sk ≤ h) := by
  have hrs := h.rs
  have hss := h.hs
  rcases grew with ⟨g, cp, e1, rfl⟩ | ⟨hnew, hbel⟩
  · injection e1 with e1 _ e3
    subst e1 e3
    have hgr : wr.grownBy w5 (some g) := gr5
    refine ⟨?_, _, _, rfl, hpl⟩
    rcases hpl with ⟨rfl, rfl⟩ | ⟨h', e, hge⟩
    · have hg : (us k).ownBlock = some g := by rw [hu]; rfl
      have hgr2 := he.us_ k hk g hg
      refine ⟨⟨fun j hj => ?_, fun j hj => ?_⟩, h.gs.grown hgr (fun e => by injection e with e; omega), h.size, h.cell, fun j hj => ?_, h.take, h.off, h.old, h.ht.then_ (Turned.of_grown (S := RS m us) hgr (fun b hb _ => by injection hb with hb; exact ⟨k, hk, by rw [hg, hb]⟩)) (fun _ _ h => h), by have := hgr.size; omega, hrs⟩
      · by_cases hjk : j = k
        · subst hjk
          rw [hu]
          have h1 := own_cut own5 (k := ns j) (by omega)
          rw [← ivzA, ivz_take, List.take_append_of_le_length (by omega), hl] at h1
          exact h1
        · exact owned_keep (h.rows.own j hj) fun b hb hlt => hgr.block b hlt (fun e => by injection e with e; subst e; exact he.hp.dis k j hk hj (Ne.symm hjk) _ hg hb)
      · have hq := World.block_lt_of_cell? wr _ (h.rows.cell j hj)
        exact (World.cell?_of_block (hgr.block q hq (fun e => by injection e with e; subst e; exact he.hp.q_ ⟨k, hk, hg⟩))).trans (h.rows.cell j hj)
      · refine owned_keep (h.own j hj) fun b hb hlt => hgr.block b hlt (fun e => ?_)
        injection e with e
        subst e
        rcases h.off j hj with h1 | ⟨x, h1, h2⟩
        · rw [h1] at hb
          exact he.hp.dis j k (by omega) hk (by omega) _ hb hg
        · rw [h1] at hb
          injection hb with hb
          omega
    · injection e with e
      injection e with e
      subst e
      refine h.keep he (h.ht.then_ (Turned.of_grown (S := fun b => b = g) hgr (fun b hb _ => by injection hb with hb; exact hb.symm)) (fun b hb e => ?_)) hgr.size (fun b hlt hbs => hgr.block b hlt (fun e => by injection e with e; omega))
      subst e
      have := he.w_
      omega
  · refine ⟨h.keep he (h.ht.then_ (Turned.of_below hbel (fun _ => False)) (fun _ _ h => h.elim)) hbel.size (fun b hlt _ => hbel.block b hlt), ?_⟩
    rcases owned_form own5 with ⟨rfl, _⟩ | ⟨g, cap, cur, rfl, _⟩
    · cases hnew
    · injection hnew with hnew
      change g = wr.heap.size at hnew
      exact ⟨_, _, rfl, .inr ⟨g, rfl, by omega⟩⟩
/-- what has been grown is put into the list -/
theorem St.put {A A' : Option Addr} {c c' : Nat} {l : List Int} (h : St w wr R q r m k Sk us ns V G C) (he : Env w q r m us ns) (hk : k < m) (hu : us k = .slice A (ns k) c)
    (hl : l.take (ns k) = mks k (ns k)) (hv : wr.ownsRow R 3 1 (.slice A' (ns k + 64) c') (ns k + 64) (ivz l)) (hpl : (A' = A ∧ c' = c) ∨ ∃ h, A' = some ⟨h, 0, none⟩ ∧ Sk ≤ h) :
    St w (wr.setCell ⟨r, k, none⟩ (.slice A' (ns k + 64) c')) R q r m (k + 1) wr.heap.size us ns (fun j => if j = k then .slice A' (ns k + 64) c' else V j) (G.setIfInBounds k (.slice A' (ns k + 64) c')) (fun j => if j = k then l else C j) := by
  have hrs := h.rs
  have hss := h.hs
  have hb : ∀ b, b ≠ r → (wr.setCell ⟨r, k, none⟩ (.slice A' (ns k + 64) c')).heap[b]? = wr.heap[b]? := fun b hb => Below.heap_setCell wr _ _ b hb
  have hne : ∀ {v : Value} {n : Nat} {xs : List Value}, wr.ownsRow R 3 1 v n xs → ∀ g, v.ownBlock = some g → g ≠ r := fun {v n xs} ho g hg e => by
    subst e
    exact owned_ne ho h.gs (by decide) hg
  refine ⟨h.rows.keep fun b hlt hor => hb b ?_, h.gs.set_ k _, by rw [Array.size_setIfInBounds]; exact h.size, fun j hj => ?_, fun j hj => ?_, fun j hj => ?_, fun j hj => ?_, fun j hj b hb => ?_, h.ht.setCell (fun hlt => by have := he.w_; change r < w.heap.size at hlt; omega) _, by simp [World.setCell], by omega⟩
  · rcases hor with rfl | ⟨j, hj, hg⟩
    · have := he.q_; omega
    · have := he.us_ j hj b hg; omega
  · by_cases hjk : j = k
    · subst hjk
      simp only [if_true]
      rw [Array.getElem?_setIfInBounds_self_of_lt (by rw [h.size]; exact hk)]
    · simp only [if_neg hjk]
      rw [Array.getElem?_setIfInBounds_ne (Ne.symm hjk)]
      exact h.cell j (by omega)
  · by_cases hjk : j = k
    · subst hjk
      simp only [if_true]
      exact owned_keep hv fun g hg _ => hb g (hne hv g hg)
    · simp only [if_neg hjk]
      exact owned_keep (h.own j (by omega)) fun g hg _ => hb g (hne (h.own j (by omega)) g hg)
  · by_cases hjk : j = k
    · subst hjk
      simp only [if_true]
      exact hl
    · simp only [if_neg hjk]
      exact h.take j (by omega)
  · by_cases hjk : j = k
    · subst hjk
      simp only [if_true]
      rcases hpl with ⟨rfl, rfl⟩ | ⟨x, rfl, hx⟩
      · exact .inl (by rw [hu]; exact block_slice _ _ _ _)
      · exact .inr ⟨x, rfl, by omega⟩
    · simp only [if_neg hjk]
      exact h.off j (by omega)
  · by_cases hjk : j = k
    · subst hjk
      simp only [if_true] at hb
      exact (owned_lt hv hb).2
    · simp only [if_neg hjk] at hb
      exact (owned_lt (h.own j (by omega)) hb).2
theorem St.drewN (h : St w wr R q r m k Sk us ns V G C) (he : Env w q r m us ns) (d : Nat) : St w (wr.drewN d) R q r m k Sk us ns V G C := h.keep he (h.ht.drewN d) (Nat.le_refl _) fun _ _ _ => rfl
theorem St.zero (h : St w wr R q r m k Sk us ns V G C) : St w wr R q r m 0 Sk us ns V G C :=
  ⟨h.rows, h.gs, h.size, fun j hj => absurd hj (by omega), fun j hj => absurd hj (by omega), fun j hj => absurd hj (by omega), fun j hj => absurd hj (by omega), fun j hj => absurd hj (by omega), h.ht, h.hs, h.rs⟩
theorem src_blk {w : World} {p n : Nat} {t : TypeId} {l : List Int} (h : Blk w p t (ivz l).toArray) (hn : l.length = n) : Src w (some ⟨p, 0, none⟩) n n (ivz l) :=
  ⟨by rw [ivzL]; exact hn, (by intro h; cases h), ivz1 l, (by
    intro ad had j u hu
    injection had with had
    subst had
    have h1 := h.cell j
    rw [List.getElem?_toArray, hu] at h1
    have e : (⟨p, 0, none⟩ : Addr).add j = ⟨p, j, none⟩ := by unfold Addr.add; split <;> simp_all
    rw [e]; exact h1)⟩
/-- the cell of a list, and of what stands there -/
theorem St.at_ (h : St w wr R q r m k Sk us ns V G C) {j : Nat} (hj : j < k) : wr.cell? ⟨r, j, none⟩ = some (V j) := (h.gs.cell j).trans (h.cell j hj)
theorem St.spot (h : St w wr R q r m k Sk us ns V G C) {j : Nat} (hj : j < m) : (∃ u, wr.cell? ⟨r, j, none⟩ = some u) ∧ wr.frozen? ⟨r, j, none⟩ = false :=
  ⟨⟨_, (h.gs.cell j).trans (Array.getElem?_eq_getElem (by rw [h.size]; exact hj))⟩, h.gs.frozen j⟩
theorem mark_at {l : List Int} {k n i : Nat} (h : l.take n = mks k n) (hi : i < n) : (ivz l)[i]? = some (.int .i64 (mk k i)) := by
  rw [← mks_get k n i hi, ← h, ← ivz_take, List.getElem?_take_of_lt hi]
theorem row_at (h : St w wr R q r m k Sk us ns V G C) {j i g c : Nat} (hj : j < m) (hu : us j = .slice (some ⟨g, 0, none⟩) (ns j) c) (hi : i < ns j) : wr.cell? ⟨g, i, none⟩ = some (.int .i64 (mk j i)) := by
  have h1 := h.rows.own j hj
  rw [hu] at h1
  exact (own_cell h1 i hi).1.trans (mks_get j _ i hi)
end Go.Proofs.Ytfppddnfdinipaa.ApI
end
section
namespace Go.Proofs.Ytfppddnfdinipaa.ApI
open Go Go.RowKit
set_option maxRecDepth 100000 in
set_option maxHeartbeats 4000000 in
theorem flatInts_any (R q m cap : Nat) (us : Nat → Value) (ns : Nat → Nat) (L0 : Nat → List Int) (hm : m ≤ 1000) (w : World) (hR : R ≤ w.heap.size) (hq : q < w.heap.size) (hr0 : Rows8 w R q m us ns L0) (hp : Parted q m us ns) :
    Calls Try.prog 99 #[.slice (some ⟨q, 0, none⟩) m cap] w fun e w' => e = .returned (.bool true) ∧ Turned (RS m us) w w' := by
  obtain ⟨i8, hi, hz0, hz1, hz2'⟩ := info_parts info_int8
  obtain ⟨ir, hir, rz0, rz1, rz2⟩ := info_parts info_rowI
  have HR0 := hide hr0
  have HP := hide hp
  clear hr0 hp
  go_enter Try.func99, Try.ntmps99
  go_wp2_with fail
  go_loopw [3] (fun v wr => ∃ (k : Nat) (L : Nat → List Int), k ≤ m ∧ v = .int .i64 (k : Int) ∧ Rows8 wr R q m us ns L ∧ (∀ j, j < k → L j = mks j (ns j)) ∧ Turned (RS m us) w wr) (fun v _ => m - (intOf v).toNat)
  case atStart => exact ⟨0, L0, by omega, rfl, HR0.out, fun j hj => absurd hj (by omega), Turned.refl _ _⟩
  case round =>
    obtain ⟨k, L, hk, rfl, hrow, hdone, ht⟩ := hrel
    have HX := hide (And.intro hrow (And.intro hdone ht))
    clear hrow hdone ht
    by_cases hkm : k < m
    · have n1 : (0 : Int) ≤ (k : Int) := by omega
      have n2 : (k : Int) < (m : Int) := by omega
      obtain ⟨A, c, hu⟩ := owned_slice (HX.out.1.own k hkm)
      have cq := HX.out.1.cell k hkm
      rw [hu] at cq
      have HU := hide hu
      have hnk : ns k ≤ 1000000 := HP.out.small k hkm
      clear hu
      go_wp2_with fail
      clear cq
      go_loopw [4] (fun v wr2 => ∃ (i : Nat) (L' : Nat → List Int), i ≤ ns k ∧ v = .int .i64 (i : Int) ∧ Rows8 wr2 R q m us ns L' ∧ (∀ j, j < k → L' j = mks j (ns j)) ∧ (L' k).take i = mks k i ∧ Turned (RS m us) w wr2) (fun v _ => ns k - (intOf v).toNat)
      case atStart => exact ⟨0, L, by omega, rfl, HX.out.1, HX.out.2.1, by simp [mks], HX.out.2.2⟩
      case round =>
        obtain ⟨i, L', hi2, rfl, hrow, hdone, htk, ht⟩ := hrel
        have HY := hide (And.intro hrow (And.intro hdone (And.intro htk ht)))
        have cq := HY.out.1.cell k hkm
        rw [HU.out] at cq
        clear hrow hdone htk ht
        by_cases hin : i < ns k
        · obtain ⟨g, c2, hu2, hg2⟩ := own_place (HY.out.1.own k hkm) (by omega)
          obtain ⟨rfl, rfl⟩ : A = some ⟨g, 0, none⟩ ∧ c = c2 := by
            rw [HU.out] at hu2
            injection hu2 with e1 _ e3
            exact ⟨e1, e3⟩
          have hown := HY.out.1.own k hkm
          rw [HU.out] at hown
          have hlen := HY.out.1.len k hkm
          obtain ⟨cg, fg⟩ := own_cell hown i hin
          obtain ⟨u0, hu0⟩ : ∃ u, (ivz (L' k))[i]? = some u := ⟨_, List.getElem?_eq_getElem (by rw [ivzL]; omega)⟩
          rw [hu0] at cg
          have hlt := (owned_lt hown rfl).2
          have i1 : (0 : Int) ≤ (i : Int) := by omega
          have i2 : (i : Int) < (ns k : Int) := by omega
          have hib : i ≤ 1000000000 := by omega
          have hkb : k ≤ 1000000000 := by omega
          clear hown hg2 hu2 hu0
          go_wp2_with fail
          refine wp_quiet_tail_drewN 9 (by kernel_rfl) (by kernel_rfl) ?_
          simp only [List.take_succ_cons, List.take_zero, List.drop_succ_cons, List.drop_zero]
          repeat (go_big_quiet_step ((go_at_call 56; exact Calls.quiet_of_same (mk_any k i hkb hib _))))
          refine wpQuiet_nil ?_
          intro nq
          go_wp2_with fail
          go_roundw
          case rel =>
            refine ⟨i + 1, (fun j => if j = k then (L' k).set i (mk k i) else L' j), by omega, by go_num, (HY.out.1.drewN nq).set HP.out hkm HU.out, fun j hj => ?_, ?_, (HY.out.2.2.2.drewN nq).setCell (fun _ => ⟨k, hkm, by rw [HU.out]; rfl⟩) _⟩
            · show (if j = k then _ else _) = _
              rw [if_neg (by omega)]
              exact HY.out.2.1 j hj
            · simp only [if_true]
              rw [mks_succ, ← HY.out.2.2.1, List.take_add_one, List.take_set_of_le (Nat.le_refl _)]
              rw [List.getElem?_set_self (by omega)]
              rfl
          case measure => simp [intOf]; omega
        · obtain rfl : i = ns k := by omega
          go_wp2_with fail
          go_roundw
          case rel =>
            refine ⟨k + 1, L', by omega, by go_num, HY.out.1, fun j hj => ?_, HY.out.2.2.2⟩
            by_cases hjk : j = k
            · subst hjk
              have h := HY.out.2.2.1
              rw [List.take_of_length_le (Nat.le_of_eq (HY.out.1.len _ hkm))] at h
              exact h
            · exact HY.out.2.1 j (by omega)
          case measure => simp [intOf]; omega
    · obtain rfl : m = k := by omega
      have hr1 : Rows8 wr R q m us ns (fun j => mks j (ns j)) := ⟨fun j hj => by have := HX.out.1.own j hj; rw [HX.out.2.1 j hj] at this; exact this, HX.out.1.cell⟩
      have ht1 := HX.out.2.2
      obtain ⟨r, hr⟩ : ∃ r, r = wr.heap.size := ⟨_, rfl⟩
      obtain ⟨w1, hw1⟩ : ∃ w1, w1 = wr.alloc (.cells (madeCells #[.slice none 0 0] m) 33) := ⟨_, rfl⟩
      have hsz1 : w1.heap.size = r + 1 := by rw [hw1, hr, size_alloc]
      have hst0 : St w w1 R q r m 0 (r + 1) us ns us (madeCells #[.slice none 0 0] m) (fun _ => []) := by
        have hal : Below wr.heap.size wr w1 := by rw [hw1]; exact (Below.refl _ _).alloc (Nat.le_refl _) _
        refine ⟨hr1.keep fun b hlt _ => hal.block b hlt, by rw [hw1, hr]; exact Blk.new _ _ _, by simp [madeCells], fun j hj => absurd hj (by omega), fun j hj => absurd hj (by omega), fun j hj => absurd hj (by omega), fun j hj => absurd hj (by omega), fun j hj => absurd hj (by omega), by rw [hw1]; exact ht1.alloc _, by omega, by omega⟩
      have he : Env w q r m us ns := ⟨HP.out, fun j hj g hg => by rw [hr]; exact (owned_lt (hr1.own j hj) hg).2, by have := ht1.size; omega, by have := ht1.size; omega⟩
      have HE := hide he
      have HS0 := hide hst0
      have HSZ := hide hsz1
      have HR := hide (And.intro hr hw1)
      clear HX hr1 ht1 HR0 he hst0 hsz1 hr hw1
      go_wp2_with (at_make; refine wpList_make_row _ rfl _ _ 44 rfl 33 ir (.slice none 0 0) Try.underlying44 hir rz0 rz1 rfl _ _ m rfl rfl ?e0 ?e1 ?_)
      case e0 => rw [rz2]; omega
      case e1 => omega
      rw [← HR.out.2, ← HR.out.1]
      go_wp2_with fail
      go_loopw [6] (fun v wr2 => ∃ (k : Nat) (Sk : Nat) (V : Nat → Value) (G : Array Value), k ≤ m ∧ v = .int .i64 (k : Int) ∧ St w wr2 R q r m k Sk us ns V G (fun j => mks j (ns j + 64))) (fun v _ => m - (intOf v).toNat)
      case atStart => exact ⟨0, r + 1, us, _, by omega, rfl, ⟨HS0.out.rows, HS0.out.gs, HS0.out.size, fun j hj => absurd hj (by omega), fun j hj => absurd hj (by omega), fun j hj => absurd hj (by omega), fun j hj => absurd hj (by omega), fun j hj => absurd hj (by omega), HS0.out.ht, HS0.out.hs, HS0.out.rs⟩⟩
      case round =>
        obtain ⟨k, Sk, V, G, hk, rfl, hst⟩ := hrel
        have HST := hide hst
        clear hst
        by_cases hkm : k < m
        · have n1 : (0 : Int) ≤ (k : Int) := by omega
          have n2 : (k : Int) < (m : Int) := by omega
          obtain ⟨A, c, hu⟩ := owned_slice (HST.out.rows.own k hkm)
          have cq := HST.out.rows.cell k hkm
          rw [hu] at cq
          have HU := hide hu
          have hnk : ns k ≤ 1000000 := HP.out.small k hkm
          clear hu HS0
          go_wp2_with fail
          clear cq
          go_loopw [7, 8] (fun g v wr3 => ∃ (i : Nat) (A' : Option Addr) (c' : Nat), i ≤ 64 ∧ v = .int .i64 (i : Int) ∧ g = .slice A' (ns k + i) c' ∧ wr3.ownsRow R 3 1 g (ns k + i) (ivz (mks k (ns k + i))) ∧ ((A' = A ∧ c' = c) ∨ ∃ h, A' = some ⟨h, 0, none⟩ ∧ Sk ≤ h) ∧ St w wr3 R q r m k Sk us ns V G (fun j => mks j (ns j + 64))) (fun _ v _ => 64 - (intOf v).toNat)
          case atStart => exact ⟨0, A, c, by omega, rfl, rfl, by rw [← HU.out]; exact HST.out.rows.own k hkm, .inl ⟨rfl, rfl⟩, HST.out⟩
          case round =>
            obtain ⟨i, A', c', hi64, rfl, rfl, hown, hpl, hst3⟩ := hrel
            have cq := hst3.rows.cell k hkm
            rw [HU.out] at cq
            have HY := hide (And.intro hown (And.intro hpl hst3))
            clear hown hpl hst3
            by_cases h64 : i < 64
            · obtain ⟨z, hz⟩ : ∃ z : Nat, (ns k : Int) + (i : Int) = (z : Int) := ⟨ns k + i, by omega⟩
              have hz2 : z = ns k + i := by omega
              have HZ := hide hz2
              have hzb : z ≤ 1000000000 := by omega
              have hkb : k ≤ 1000000000 := by omega
              have hR3 : R ≤ wr.heap.size := by have := HY.out.2.2.ht.size; omega
              clear hz2
              go_wp2_with (first
                | (go_at_call 56; refine (mk_any k z hkb hzb _).mono ?_; rintro e w' ⟨rfl, rfl⟩)
                | (at_builtin; (refine wpList_app2 (o := ⟨some 68, _, _, _, _, _⟩) rfl (.tmp 57) (.tmp 67) 33 rfl R 3 i8 (.int .i64 0) 8 Try.underlying33 hi hz0 hz1 hz2' rfl (.slice A' (ns k + i) c') (ns k + i) (ivz (mks k (ns k + i))) (HY.out.1.alloc _) _ 1 1 [.int .i64 (mk k z)] (src_one _ _ _ rfl) ?hm ?h1 ?h2 ?h3 rfl rfl ?_)))
              case hm => omega
              case h1 => simp only [maxLen]; omega
              case h2 => omega
              case h3 => rw [size_alloc]; omega
              intro v5 w5 own5 gr5 grew5
              have hstA := HY.out.2.2.keep HE.out (HY.out.2.2.ht.alloc (.cells #[.int .i64 (mk k z)] 3)) (by rw [size_alloc]; omega) (fun b hlt _ => Below.heap_alloc _ _ b hlt)
              obtain ⟨hst5, A5, c5, rfl, hpl5⟩ := hstA.grow (ms := [mk k z]) HE.out hkm HU.out (mks_take k _ _ (by omega)) (by omega) (length_mks _ _) HY.out.2.1 own5 gr5 grew5
              have H5 := hide (And.intro own5 (And.intro hpl5 hst5))
              clear own5 gr5 grew5 hstA hst5 hpl5 cq
              go_wp2_with fail
              go_roundw
              case rel =>
                refine ⟨i + 1, A5, c5, by omega, by go_num, rfl, ?_, H5.out.2.1, H5.out.2.2⟩
                have h1 := H5.out.1
                rw [HZ.out] at h1
                rw [show ns k + (i + 1) = ns k + i + 1 from rfl, mks_succ, ivzA]
                exact h1
              case measure => simp [intOf]; omega
            · obtain rfl : i = 64 := by omega
              obtain ⟨⟨u1, cr⟩, fr⟩ := HY.out.2.2.spot hkm
              have hrl := HY.out.2.2.gs.lt
              go_wp2_with fail
              go_roundw
              case rel =>
                have e : (fun j => if j = k then mks k (ns k + 64) else mks j (ns j + 64)) = (fun j => mks j (ns j + 64)) := by
                  funext j
                  by_cases hj : j = k
                  · rw [if_pos hj, hj]
                  · rw [if_neg hj]
                have h1 := HY.out.2.2.put HE.out hkm HU.out (mks_take k _ _ (by omega)) HY.out.1 HY.out.2.1
                rw [e] at h1
                exact ⟨k + 1, _, _, _, by omega, by go_num, h1⟩
              case measure => simp [intOf]; omega
        · obtain rfl : m = k := by omega
          clear HS0
          go_wp2_with fail
          go_loopw [9] (fun v wr3 => ∃ k : Nat, k ≤ m ∧ v = .int .i64 (k : Int) ∧ St w wr3 R q r m m Sk us ns V G (fun j => mks j (ns j + 64))) (fun v _ => m - (intOf v).toNat)
          case atStart => exact ⟨0, by omega, rfl, HST.out⟩
          case round =>
            obtain ⟨k, hk, rfl, hst3⟩ := hrel
            have H3 := hide hst3
            clear hst3 HST
            by_cases hkm : k < m
            · have n1 : (0 : Int) ≤ (k : Int) := by omega
              have n2 : (k : Int) < (m : Int) := by omega
              obtain ⟨A, c, hu⟩ := owned_slice (H3.out.rows.own k hkm)
              obtain ⟨g2, c2, hV, _⟩ := own_place (H3.out.own k hkm) (by omega)
              have hnk : ns k ≤ 1000000 := HP.out.small k hkm
              have HU := hide (And.intro hu hV)
              clear hu hV
              go_wp2_with fail
              go_loopw [10] (fun v wr3 => ∃ i : Nat, i ≤ ns k + 64 ∧ v = .int .i64 (i : Int) ∧ St w wr3 R q r m m Sk us ns V G (fun j => mks j (ns j + 64))) (fun v _ => ns k + 64 - (intOf v).toNat)
              case atStart => exact ⟨0, by omega, rfl, H3.out⟩
              case round =>
                obtain ⟨i, hi6, rfl, hst4⟩ := hrel
                have cq := hst4.rows.cell k hkm
                have cr := hst4.at_ hkm
                rw [HU.out.1] at cq
                rw [HU.out.2] at cr
                have H4 := hide hst4
                clear hst4
                by_cases hin : i < ns k + 64
                · have i1 : (0 : Int) ≤ (i : Int) := by omega
                  have i2 : (i : Int) < (ns k : Int) + 64 := by omega
                  have hib : i ≤ 1000000000 := by omega
                  have hkb : k ≤ 1000000000 := by omega
                  have cg : wr.cell? ⟨g2, i, none⟩ = some (.int .i64 (mk k i)) := by
                    have h1 := H4.out.own k hkm
                    rw [HU.out.2] at h1
                    exact (own_cell h1 i hin).1.trans (mks_get k _ i hin)
                  by_cases hil : i < ns k
                  · obtain ⟨g1, c1, hu1, _⟩ := own_place (H4.out.rows.own k hkm) (by omega)
                    have cu := row_at H4.out hkm hu1 hil
                    obtain ⟨rfl, rfl⟩ : A = some ⟨g1, 0, none⟩ ∧ c = c1 := by
                      rw [HU.out.1] at hu1
                      injection hu1 with e1 _ e3
                      exact ⟨e1, e3⟩
                    have i3 : (i : Int) < (ns k : Int) := by omega
                    have d1 : decide ((i : Int) < (ns k : Int)) = true := decide_eq_true i3
                    clear hu1
                    go_wp2_with fail
                    go_quiet ((go_at_call 56; exact Calls.quiet_of_same (mk_any k i hkb hib _)))
                    go_wp2_with fail
                    go_roundw
                    case rel => exact ⟨i + 1, by omega, by go_num, H4.out.drewN HE.out _⟩
                    case measure => simp [intOf]; omega
                  · have i3 : ¬ (i : Int) < (ns k : Int) := by omega
                    have d1 : decide ((i : Int) < (ns k : Int)) = false := decide_eq_false i3
                    have d2 : decide (ns k ≤ i) = true := decide_eq_true (by omega)
                    have d3 : decide (i < ns k) = false := decide_eq_false (by omega)
                    go_wp2_with fail
                    go_quiet ((go_at_call 56; exact Calls.quiet_of_same (mk_any k i hkb hib _)))
                    go_wp2_with fail
                    go_roundw
                    case rel => exact ⟨i + 1, by omega, by go_num, H4.out.drewN HE.out _⟩
                    case measure => simp [intOf]; omega
                · obtain rfl : i = ns k + 64 := by omega
                  have i2 : ¬ (((ns k + 64 : Nat)) : Int) < (ns k : Int) + 64 := by omega
                  go_wp2_with fail
                  go_roundw
                  case rel => exact ⟨k + 1, by omega, by go_num, H4.out⟩
                  case measure => simp [intOf]; omega
            · obtain rfl : m = k := by omega
              have H6 := hide H3.out.zero
              clear H3
              go_wp2_with fail
              go_loopw [11] (fun v wr3 => ∃ (k : Nat) (Sk : Nat) (V : Nat → Value) (G : Array Value) (C : Nat → List Int), k ≤ m ∧ v = .int .i64 (k : Int) ∧ St w wr3 R q r m k Sk us ns V G C) (fun v _ => m - (intOf v).toNat)
              case atStart => exact ⟨0, Sk, V, G, _, by omega, rfl, H6.out⟩
              case round =>
                obtain ⟨k, Sk, V, G, C, hk, rfl, hst7⟩ := hrel
                have H7 := hide hst7
                clear hst7 H6
                by_cases hkm : k < m
                · have n1 : (0 : Int) ≤ (k : Int) := by omega
                  have n2 : (k : Int) < (m : Int) := by omega
                  obtain ⟨A, c, hu⟩ := owned_slice (H7.out.rows.own k hkm)
                  have hnk : ns k ≤ 1000000 := HP.out.small k hkm
                  have HU := hide hu
                  obtain ⟨p, hp⟩ : ∃ p, p = wr.heap.size := ⟨_, rfl⟩
                  obtain ⟨w1, hw1⟩ : ∃ w1, w1 = wr.alloc (.cells (madeCells #[.int .i64 0] 64) 3) := ⟨_, rfl⟩
                  have hst8 : St w w1 R q r m k Sk us ns V G C := by
                    rw [hw1]
                    exact H7.out.keep HE.out (H7.out.ht.alloc _) (by rw [size_alloc]; omega) (fun b hlt _ => Below.heap_alloc _ _ b hlt)
                  have hbk : Blk w1 p 3 (ivz (List.replicate 64 0)).toArray := by
                    rw [hw1, hp, ← made_ivz]
                    exact Blk.new _ _ _
                  have hps : Sk ≤ p := by rw [hp]; exact H7.out.hs
                  have hpw : w.heap.size ≤ p := by rw [hp]; exact H7.out.ht.size
                  have H8 := hide (And.intro hst8 hbk)
                  have HN := hide (And.intro hp hw1)
                  clear hu hst8 hbk hp hw1
                  go_wp2_with (at_make; refine wpList_make_row _ rfl _ _ 33 rfl 3 i8 (.int .i64 0) Try.underlying33 hi hz0 hz1 rfl _ _ 64 rfl rfl ?e0 ?e1 ?_)
                  case e0 => rw [hz2']; omega
                  case e1 => omega
                  rw [← HN.out.2, ← HN.out.1]
                  clear HN H7
                  go_wp2_with fail
                  go_loopw [13] (fun v wr3 => ∃ (t : Nat) (l : List Int), t ≤ 64 ∧ v = .int .i64 (t : Int) ∧ l.length = 64 ∧ Blk wr3 p 3 (ivz l).toArray ∧ St w wr3 R q r m k Sk us ns V G C) (fun v _ => 64 - (intOf v).toNat)
                  case atStart => exact ⟨0, _, by omega, rfl, List.length_replicate .., H8.out.2, H8.out.1⟩
                  case round =>
                    obtain ⟨t, l, ht6, rfl, hl, hbk, hst9⟩ := hrel
                    by_cases h64 : t < 64
                    · obtain ⟨z, hz⟩ : ∃ z : Nat, (k : Int) + (m : Int) = (z : Int) := ⟨k + m, by omega⟩
                      have hzb : z ≤ 1000000000 := by omega
                      have htb : t ≤ 1000000000 := by omega
                      have t1 : (0 : Int) ≤ (t : Int) := by omega
                      have cp := hbk.cell t
                      rw [List.getElem?_toArray, List.getElem?_eq_getElem (by rw [ivzL]; omega)] at cp
                      have fp := hbk.frozen t
                      have hpl := hbk.lt
                      have H9 := hide (And.intro hbk hst9)
                      clear hbk hst9 H8
                      go_wp2_with (go_at_call 56; refine (mk_any z t hzb htb _).mono ?_; rintro e w' ⟨rfl, rfl⟩)
                      go_roundw
                      case rel =>
                        refine ⟨t + 1, l.set t (mk z t), by omega, by go_num, by rw [List.length_set]; exact hl, ?_, ?_⟩
                        · have h1 := H9.out.1.set_ t (.int .i64 (mk z t))
                          rw [List.setIfInBounds_toArray, ivz_set'] at h1
                          exact h1
                        · exact H9.out.2.keep HE.out (H9.out.2.ht.setCell (fun hlt => by change p < w.heap.size at hlt; omega) _) (by simp [World.setCell]) (fun b _ hb => Below.heap_setCell _ _ _ b (by show b ≠ p; omega))
                      case measure => simp [intOf]; omega
                    · obtain rfl : t = 64 := by omega
                      have cq := hst9.rows.cell k hkm
                      rw [HU.out] at cq
                      have hlt := hbk.lt
                      have hsrc := src_blk hbk hl
                      have hR3 : R ≤ wr.heap.size := by have := hst9.ht.size; omega
                      have H9 := hide (And.intro hbk (And.intro hst9 hsrc))
                      clear hbk hst9 hsrc H8
                      go_wp2_with (at_builtin; (refine wpList_app2 (o := ⟨some 150, _, _, _, _, _⟩) rfl (.tmp 148) (.tmp 149) 33 rfl R 3 i8 (.int .i64 0) 8 Try.underlying33 hi hz0 hz1 hz2' rfl (.slice A (ns k) c) (ns k) (ivz (mks k (ns k))) (by rw [← HU.out]; exact H9.out.2.1.rows.own k hkm) (some ⟨p, 0, none⟩) 64 64 (ivz l) H9.out.2.2 ?hm ?h1 ?h2 ?h3 rfl rfl ?_))
                      case hm => omega
                      case h1 => simp only [maxLen]; omega
                      case h2 => omega
                      case h3 => exact hR3
                      intro v5 w5 own5 gr5 grew5
                      obtain ⟨hst5, A5, c5, rfl, hpl5⟩ := H9.out.2.1.grow HE.out hkm HU.out (mks_take k _ _ (Nat.le_refl _)) (Nat.le_refl _) (length_mks _ _) (.inl ⟨rfl, rfl⟩) own5 gr5 grew5
                      obtain ⟨⟨u1, cr⟩, fr⟩ := hst5.spot hkm
                      have hrl := hst5.gs.lt
                      rw [← ivzA] at own5
                      have H5 := hide (And.intro own5 (And.intro hpl5 hst5))
                      clear own5 gr5 grew5 hst5 hpl5 cq
                      go_wp2_with fail
                      go_roundw
                      case rel => exact ⟨k + 1, _, _, _, _, by omega, by go_num, H5.out.2.2.put HE.out hkm HU.out (by rw [List.take_append_of_le_length (by rw [length_mks]; omega), mks_take k _ _ (Nat.le_refl _)]) H5.out.1 H5.out.2.1⟩
                      case measure => simp [intOf]; omega
                · obtain rfl : m = k := by omega
                  go_wp2_with fail
                  go_loopw [14] (fun v wr3 => ∃ k : Nat, k ≤ m ∧ v = .int .i64 (k : Int) ∧ St w wr3 R q r m m Sk us ns V G C) (fun v _ => m - (intOf v).toNat)
                  case atStart => exact ⟨0, by omega, rfl, H7.out⟩
                  case round =>
                    obtain ⟨k, hk, rfl, hst3⟩ := hrel
                    have H3 := hide hst3
                    clear hst3 H7
                    by_cases hkm : k < m
                    · have n1 : (0 : Int) ≤ (k : Int) := by omega
                      have n2 : (k : Int) < (m : Int) := by omega
                      obtain ⟨A, c, hu⟩ := owned_slice (H3.out.rows.own k hkm)
                      obtain ⟨g2, c2, hV, _⟩ := own_place (H3.out.own k hkm) (by omega)
                      have hnk : ns k ≤ 1000000 := HP.out.small k hkm
                      have HU := hide (And.intro hu hV)
                      clear hu hV
                      go_wp2_with fail
                      go_loopw [15] (fun v wr3 => ∃ i : Nat, i ≤ ns k ∧ v = .int .i64 (i : Int) ∧ St w wr3 R q r m m Sk us ns V G C) (fun v _ => ns k - (intOf v).toNat)
                      case atStart => exact ⟨0, by omega, rfl, H3.out⟩
                      case round =>
                        obtain ⟨i, hi6, rfl, hst4⟩ := hrel
                        have cq := hst4.rows.cell k hkm
                        have cr := hst4.at_ hkm
                        rw [HU.out.1] at cq
                        rw [HU.out.2] at cr
                        have H4 := hide hst4
                        clear hst4
                        by_cases hin : i < ns k
                        · have i1 : (0 : Int) ≤ (i : Int) := by omega
                          have i2 : (i : Int) < (ns k : Int) + 64 := by omega
                          have i3 : (i : Int) < (ns k : Int) := by omega
                          have hib : i ≤ 1000000000 := by omega
                          have hkb : k ≤ 1000000000 := by omega
                          have cg : wr.cell? ⟨g2, i, none⟩ = some (.int .i64 (mk k i)) := by
                            have h1 := H4.out.own k hkm
                            rw [HU.out.2] at h1
                            exact (own_cell h1 i (by omega)).1.trans (mark_at (H4.out.take k hkm) hin)
                          obtain ⟨g1, c1, hu1, _⟩ := own_place (H4.out.rows.own k hkm) (by omega)
                          have cu := row_at H4.out hkm hu1 hin
                          obtain ⟨rfl, rfl⟩ : A = some ⟨g1, 0, none⟩ ∧ c = c1 := by
                            rw [HU.out.1] at hu1
                            injection hu1 with e1 _ e3
                            exact ⟨e1, e3⟩
                          clear hu1
                          go_wp2_with fail
                          go_quiet ((go_at_call 56; exact Calls.quiet_of_same (mk_any k i hkb hib _)))
                          go_wp2_with fail
                          go_roundw
                          case rel => exact ⟨i + 1, by omega, by go_num, H4.out.drewN HE.out _⟩
                          case measure => simp [intOf]; omega
                        · obtain rfl : i = ns k := by omega
                          go_wp2_with fail
                          go_roundw
                          case rel => exact ⟨k + 1, by omega, by go_num, H4.out⟩
                          case measure => simp [intOf]; omega
                    · obtain rfl : m = k := by omega
                      go_wp2_with fail
                      go_ret
                      exact ⟨rfl, H3.out.ht⟩
end Go.Proofs.Ytfppddnfdinipaa.ApI
end
section
namespace Go.Proofs.Ytfppddnfdinipaa
open Go Go.RowKit
theorem info_Limbs : (Try.prog.info? 232).map (fun i => (i.zero, i.size, i.bytes)) = some (some (.slice none 0 0), 1, 24) := by kernel_rfl
set_option maxRecDepth 100000 in
set_option maxHeartbeats 1000000 in
theorem flatLimbs_nil (w : World) : Calls Try.prog 97 #[.slice none 0 0] w fun e w' => e = .returned (.bool true) ∧ Below w.heap.size w w' := by
  obtain ⟨i, hi, hz0, hz1, hz2⟩ := info_parts info_Limbs
  go_enter Try.func97, Try.ntmps97
  go_wp2_with fail
  refine wp_loop_once ?_
  go_wp2_with (at_make; refine wpList_make_row _ rfl _ _ 111 rfl 232 i (.slice none 0 0) Try.underlying111 hi hz0 hz1 rfl _ _ 0 rfl rfl ?e0 ?e1 ?_)
  case e0 => rw [hz2]; omega
  case e1 => omega
  go_wp2_with fail
  refine wp_loop_once ?_
  go_wp2_with fail
  refine wp_loop_once ?_
  go_wp2_with fail
  refine wp_loop_once ?_
  go_wp2_with fail
  refine wp_loop_once ?_
  go_wp2_with fail
  go_ret
  exact ⟨rfl, (Below.refl _ _).alloc (Nat.le_refl _) _⟩
theorem info_Words : (Try.prog.info? 234).map (fun i => (i.zero, i.size, i.bytes)) = some (some (.slice none 0 0), 1, 24) := by kernel_rfl
set_option maxRecDepth 100000 in
set_option maxHeartbeats 1000000 in
theorem flatWords_nil (w : World) : Calls Try.prog 98 #[.slice none 0 0] w fun e w' => e = .returned (.bool true) ∧ Below w.heap.size w w' := by
  obtain ⟨i, hi, hz0, hz1, hz2⟩ := info_parts info_Words
  go_enter Try.func98, Try.ntmps98
  go_wp2_with fail
  refine wp_loop_once ?_
  go_wp2_with (at_make; refine wpList_make_row _ rfl _ _ 112 rfl 234 i (.slice none 0 0) Try.underlying112 hi hz0 hz1 rfl _ _ 0 rfl rfl ?e0 ?e1 ?_)
  case e0 => rw [hz2]; omega
  case e1 => omega
  go_wp2_with fail
  refine wp_loop_once ?_
  go_wp2_with fail
  refine wp_loop_once ?_
  go_wp2_with fail
  refine wp_loop_once ?_
  go_wp2_with fail
  refine wp_loop_once ?_
  go_wp2_with fail
  go_ret
  exact ⟨rfl, (Below.refl _ _).alloc (Nat.le_refl _) _⟩
theorem info_Ints : (Try.prog.info? 33).map (fun i => (i.zero, i.size, i.bytes)) = some (some (.slice none 0 0), 1, 24) := by kernel_rfl
set_option maxRecDepth 100000 in
set_option maxHeartbeats 1000000 in
theorem flatInts_nil (w : World) : Calls Try.prog 99 #[.slice none 0 0] w fun e w' => e = .returned (.bool true) ∧ Below w.heap.size w w' := by
  obtain ⟨i, hi, hz0, hz1, hz2⟩ := info_parts info_Ints
  go_enter Try.func99, Try.ntmps99
  go_wp2_with fail
  refine wp_loop_once ?_
  go_wp2_with (at_make; refine wpList_make_row _ rfl _ _ 44 rfl 33 i (.slice none 0 0) Try.underlying44 hi hz0 hz1 rfl _ _ 0 rfl rfl ?e0 ?e1 ?_)
  case e0 => rw [hz2]; omega
  case e1 => omega
  go_wp2_with fail
  refine wp_loop_once ?_
  go_wp2_with fail
  refine wp_loop_once ?_
  go_wp2_with fail
  refine wp_loop_once ?_
  go_wp2_with fail
  refine wp_loop_once ?_
  go_wp2_with fail
  go_ret
  exact ⟨rfl, (Below.refl _ _).alloc (Nat.le_refl _) _⟩
theorem info_Longs : (Try.prog.info? 235).map (fun i => (i.zero, i.size, i.bytes)) = some (some (.slice none 0 0), 1, 24) := by kernel_rfl
set_option maxRecDepth 100000 in
set_option maxHeartbeats 1000000 in
theorem flatLongs_nil (w : World) : Calls Try.prog 100 #[.slice none 0 0] w fun e w' => e = .returned (.bool true) ∧ Below w.heap.size w w' := by
  obtain ⟨i, hi, hz0, hz1, hz2⟩ := info_parts info_Longs
  go_enter Try.func100, Try.ntmps100
  go_wp2_with fail
  refine wp_loop_once ?_
  go_wp2_with (at_make; refine wpList_make_row _ rfl _ _ 113 rfl 235 i (.slice none 0 0) Try.underlying113 hi hz0 hz1 rfl _ _ 0 rfl rfl ?e0 ?e1 ?_)
  case e0 => rw [hz2]; omega
  case e1 => omega
  go_wp2_with fail
  refine wp_loop_once ?_
  go_wp2_with fail
  refine wp_loop_once ?_
  go_wp2_with fail
  refine wp_loop_once ?_
  go_wp2_with fail
  refine wp_loop_once ?_
  go_wp2_with fail
  go_ret
  exact ⟨rfl, (Below.refl _ _).alloc (Nat.le_refl _) _⟩
theorem info_Texts : (Try.prog.info? 236).map (fun i => (i.zero, i.size, i.bytes)) = some (some (.slice none 0 0), 1, 24) := by kernel_rfl
set_option maxRecDepth 100000 in
set_option maxHeartbeats 1000000 in
theorem flatTexts_nil (w : World) : Calls Try.prog 101 #[.slice none 0 0] w fun e w' => e = .returned (.bool true) ∧ Below w.heap.size w w' := by
  obtain ⟨i, hi, hz0, hz1, hz2⟩ := info_parts info_Texts
  go_enter Try.func101, Try.ntmps101
  go_wp2_with fail
  refine wp_loop_once ?_
  go_wp2_with (at_make; refine wpList_make_row _ rfl _ _ 114 rfl 236 i (.slice none 0 0) Try.underlying114 hi hz0 hz1 rfl _ _ 0 rfl rfl ?e0 ?e1 ?_)
  case e0 => rw [hz2]; omega
  case e1 => omega
  go_wp2_with fail
  refine wp_loop_once ?_
  go_wp2_with fail
  refine wp_loop_once ?_
  go_wp2_with fail
  refine wp_loop_once ?_
  go_wp2_with fail
  refine wp_loop_once ?_
  go_wp2_with fail
  go_ret
  exact ⟨rfl, (Below.refl _ _).alloc (Nat.le_refl _) _⟩
theorem info_Truths : (Try.prog.info? 220).map (fun i => (i.zero, i.size, i.bytes)) = some (some (.slice none 0 0), 1, 24) := by kernel_rfl
set_option maxRecDepth 100000 in
set_option maxHeartbeats 1000000 in
theorem flatTruths_nil (w : World) : Calls Try.prog 103 #[.slice none 0 0] w fun e w' => e = .returned (.bool true) ∧ Below w.heap.size w w' := by
  obtain ⟨i, hi, hz0, hz1, hz2⟩ := info_parts info_Truths
  go_enter Try.func103, Try.ntmps103
  go_wp2_with fail
  refine wp_loop_once ?_
  go_wp2_with (at_make; refine wpList_make_row _ rfl _ _ 115 rfl 220 i (.slice none 0 0) Try.underlying115 hi hz0 hz1 rfl _ _ 0 rfl rfl ?e0 ?e1 ?_)
  case e0 => rw [hz2]; omega
  case e1 => omega
  go_wp2_with fail
  refine wp_loop_once ?_
  go_wp2_with fail
  refine wp_loop_once ?_
  go_wp2_with fail
  refine wp_loop_once ?_
  go_wp2_with fail
  refine wp_loop_once ?_
  go_wp2_with fail
  go_ret
  exact ⟨rfl, (Below.refl _ _).alloc (Nat.le_refl _) _⟩
theorem info_Paths : (Try.prog.info? 24).map (fun i => (i.zero, i.size, i.bytes)) = some (some (.slice none 0 0), 1, 24) := by kernel_rfl
set_option maxRecDepth 100000 in
set_option maxHeartbeats 1000000 in
theorem flatPaths_nil (w : World) : Calls Try.prog 104 #[.slice none 0 0] w fun e w' => e = .returned (.bool true) ∧ Below w.heap.size w w' := by
  obtain ⟨i, hi, hz0, hz1, hz2⟩ := info_parts info_Paths
  go_enter Try.func104, Try.ntmps104
  go_wp2_with fail
  refine wp_loop_once ?_
  go_wp2_with (at_make; refine wpList_make_row _ rfl _ _ 116 rfl 24 i (.slice none 0 0) Try.underlying116 hi hz0 hz1 rfl _ _ 0 rfl rfl ?e0 ?e1 ?_)
  case e0 => rw [hz2]; omega
  case e1 => omega
  go_wp2_with fail
  refine wp_loop_once ?_
  go_wp2_with fail
  refine wp_loop_once ?_
  go_wp2_with fail
  refine wp_loop_once ?_
  go_wp2_with fail
  refine wp_loop_once ?_
  go_wp2_with fail
  go_ret
  exact ⟨rfl, (Below.refl _ _).alloc (Nat.le_refl _) _⟩
theorem info_Kids : (Try.prog.info? 237).map (fun i => (i.zero, i.size, i.bytes)) = some (some (.slice none 0 0), 1, 24) := by kernel_rfl
set_option maxRecDepth 100000 in
set_option maxHeartbeats 1000000 in
theorem flatKids_nil (w : World) : Calls Try.prog 105 #[.slice none 0 0] w fun e w' => e = .returned (.bool true) ∧ Below w.heap.size w w' := by
  obtain ⟨i, hi, hz0, hz1, hz2⟩ := info_parts info_Kids
  go_enter Try.func105, Try.ntmps105
  go_wp2_with fail
  refine wp_loop_once ?_
  go_wp2_with (at_make; refine wpList_make_row _ rfl _ _ 117 rfl 237 i (.slice none 0 0) Try.underlying117 hi hz0 hz1 rfl _ _ 0 rfl rfl ?e0 ?e1 ?_)
  case e0 => rw [hz2]; omega
  case e1 => omega
  go_wp2_with fail
  refine wp_loop_once ?_
  go_wp2_with fail
  refine wp_loop_once ?_
  go_wp2_with fail
  refine wp_loop_once ?_
  go_wp2_with fail
  refine wp_loop_once ?_
  go_wp2_with fail
  go_ret
  exact ⟨rfl, (Below.refl _ _).alloc (Nat.le_refl _) _⟩
theorem info_Nodes : (Try.prog.info? 245).map (fun i => (i.zero, i.size, i.bytes)) = some (some (.slice none 0 0), 1, 24) := by kernel_rfl
set_option maxRecDepth 100000 in
set_option maxHeartbeats 1000000 in
theorem flatNodes_nil (w : World) : Calls Try.prog 106 #[.slice none 0 0] w fun e w' => e = .returned (.bool true) ∧ Below w.heap.size w w' := by
  obtain ⟨i, hi, hz0, hz1, hz2⟩ := info_parts info_Nodes
  go_enter Try.func106, Try.ntmps106
  go_wp2_with fail
  refine wp_loop_once ?_
  go_wp2_with (at_make; refine wpList_make_row _ rfl _ _ 118 rfl 245 i (.slice none 0 0) Try.underlying118 hi hz0 hz1 rfl _ _ 0 rfl rfl ?e0 ?e1 ?_)
  case e0 => rw [hz2]; omega
  case e1 => omega
  go_wp2_with fail
  refine wp_loop_once ?_
  go_wp2_with fail
  refine wp_loop_once ?_
  go_wp2_with fail
  refine wp_loop_once ?_
  go_wp2_with fail
  refine wp_loop_once ?_
  go_wp2_with fail
  go_ret
  exact ⟨rfl, (Below.refl _ _).alloc (Nat.le_refl _) _⟩
theorem info_Lines : (Try.prog.info? 248).map (fun i => (i.zero, i.size, i.bytes)) = some (some (.slice none 0 0), 1, 24) := by kernel_rfl
set_option maxRecDepth 100000 in
set_option maxHeartbeats 1000000 in
theorem flatLines_nil (w : World) : Calls Try.prog 107 #[.slice none 0 0] w fun e w' => e = .returned (.bool true) ∧ Below w.heap.size w w' := by
  obtain ⟨i, hi, hz0, hz1, hz2⟩ := info_parts info_Lines
  go_enter Try.func107, Try.ntmps107
  go_wp2_with fail
  refine wp_loop_once ?_
  go_wp2_with (at_make; refine wpList_make_row _ rfl _ _ 119 rfl 248 i (.slice none 0 0) Try.underlying119 hi hz0 hz1 rfl _ _ 0 rfl rfl ?e0 ?e1 ?_)
  case e0 => rw [hz2]; omega
  case e1 => omega
  go_wp2_with fail
  refine wp_loop_once ?_
  go_wp2_with fail
  refine wp_loop_once ?_
  go_wp2_with fail
  refine wp_loop_once ?_
  go_wp2_with fail
  refine wp_loop_once ?_
  go_wp2_with fail
  go_ret
  exact ⟨rfl, (Below.refl _ _).alloc (Nat.le_refl _) _⟩
theorem info_Changes : (Try.prog.info? 253).map (fun i => (i.zero, i.size, i.bytes)) = some (some (.slice none 0 0), 1, 24) := by kernel_rfl
set_option maxRecDepth 100000 in
set_option maxHeartbeats 1000000 in
theorem flatChanges_nil (w : World) : Calls Try.prog 108 #[.slice none 0 0] w fun e w' => e = .returned (.bool true) ∧ Below w.heap.size w w' := by
  obtain ⟨i, hi, hz0, hz1, hz2⟩ := info_parts info_Changes
  go_enter Try.func108, Try.ntmps108
  go_wp2_with fail
  refine wp_loop_once ?_
  go_wp2_with (at_make; refine wpList_make_row _ rfl _ _ 120 rfl 253 i (.slice none 0 0) Try.underlying120 hi hz0 hz1 rfl _ _ 0 rfl rfl ?e0 ?e1 ?_)
  case e0 => rw [hz2]; omega
  case e1 => omega
  go_wp2_with fail
  refine wp_loop_once ?_
  go_wp2_with fail
  refine wp_loop_once ?_
  go_wp2_with fail
  refine wp_loop_once ?_
  go_wp2_with fail
  refine wp_loop_once ?_
  go_wp2_with fail
  go_ret
  exact ⟨rfl, (Below.refl _ _).alloc (Nat.le_refl _) _⟩
theorem info_Runs : (Try.prog.info? 73).map (fun i => (i.zero, i.size, i.bytes)) = some (some (.slice none 0 0), 1, 24) := by kernel_rfl
set_option maxRecDepth 100000 in
set_option maxHeartbeats 1000000 in
theorem flatRuns_nil (w : World) : Calls Try.prog 109 #[.slice none 0 0] w fun e w' => e = .returned (.bool true) ∧ Below w.heap.size w w' := by
  obtain ⟨i, hi, hz0, hz1, hz2⟩ := info_parts info_Runs
  go_enter Try.func109, Try.ntmps109
  go_wp2_with fail
  refine wp_loop_once ?_
  go_wp2_with (at_make; refine wpList_make_row _ rfl _ _ 72 rfl 73 i (.slice none 0 0) Try.underlying72 hi hz0 hz1 rfl _ _ 0 rfl rfl ?e0 ?e1 ?_)
  case e0 => rw [hz2]; omega
  case e1 => omega
  go_wp2_with fail
  refine wp_loop_once ?_
  go_wp2_with fail
  refine wp_loop_once ?_
  go_wp2_with fail
  refine wp_loop_once ?_
  go_wp2_with fail
  refine wp_loop_once ?_
  go_wp2_with fail
  go_ret
  exact ⟨rfl, (Below.refl _ _).alloc (Nat.le_refl _) _⟩
theorem info_Objects : (Try.prog.info? 259).map (fun i => (i.zero, i.size, i.bytes)) = some (some (.slice none 0 0), 1, 24) := by kernel_rfl
set_option maxRecDepth 100000 in
set_option maxHeartbeats 1000000 in
theorem flatObjects_nil (w : World) : Calls Try.prog 110 #[.slice none 0 0] w fun e w' => e = .returned (.bool true) ∧ Below w.heap.size w w' := by
  obtain ⟨i, hi, hz0, hz1, hz2⟩ := info_parts info_Objects
  go_enter Try.func110, Try.ntmps110
  go_wp2_with fail
  refine wp_loop_once ?_
  go_wp2_with (at_make; refine wpList_make_row _ rfl _ _ 121 rfl 259 i (.slice none 0 0) Try.underlying121 hi hz0 hz1 rfl _ _ 0 rfl rfl ?e0 ?e1 ?_)
  case e0 => rw [hz2]; omega
  case e1 => omega
  go_wp2_with fail
  refine wp_loop_once ?_
  go_wp2_with fail
  refine wp_loop_once ?_
  go_wp2_with fail
  refine wp_loop_once ?_
  go_wp2_with fail
  refine wp_loop_once ?_
  go_wp2_with fail
  go_ret
  exact ⟨rfl, (Below.refl _ _).alloc (Nat.le_refl _) _⟩
theorem info_Quotas : (Try.prog.info? 264).map (fun i => (i.zero, i.size, i.bytes)) = some (some (.slice none 0 0), 1, 24) := by kernel_rfl
set_option maxRecDepth 100000 in
set_option maxHeartbeats 1000000 in
theorem flatQuotas_nil (w : World) : Calls Try.prog 111 #[.slice none 0 0] w fun e w' => e = .returned (.bool true) ∧ Below w.heap.size w w' := by
  obtain ⟨i, hi, hz0, hz1, hz2⟩ := info_parts info_Quotas
  go_enter Try.func111, Try.ntmps111
  go_wp2_with fail
  refine wp_loop_once ?_
  go_wp2_with (at_make; refine wpList_make_row _ rfl _ _ 122 rfl 264 i (.slice none 0 0) Try.underlying122 hi hz0 hz1 rfl _ _ 0 rfl rfl ?e0 ?e1 ?_)
  case e0 => rw [hz2]; omega
  case e1 => omega
  go_wp2_with fail
  refine wp_loop_once ?_
  go_wp2_with fail
  refine wp_loop_once ?_
  go_wp2_with fail
  refine wp_loop_once ?_
  go_wp2_with fail
  refine wp_loop_once ?_
  go_wp2_with fail
  go_ret
  exact ⟨rfl, (Below.refl _ _).alloc (Nat.le_refl _) _⟩
theorem info_Nameds : (Try.prog.info? 268).map (fun i => (i.zero, i.size, i.bytes)) = some (some (.slice none 0 0), 1, 24) := by kernel_rfl
set_option maxRecDepth 100000 in
set_option maxHeartbeats 1000000 in
theorem flatNameds_nil (w : World) : Calls Try.prog 112 #[.slice none 0 0] w fun e w' => e = .returned (.bool true) ∧ Below w.heap.size w w' := by
  obtain ⟨i, hi, hz0, hz1, hz2⟩ := info_parts info_Nameds
  go_enter Try.func112, Try.ntmps112
  go_wp2_with fail
  refine wp_loop_once ?_
  go_wp2_with (at_make; refine wpList_make_row _ rfl _ _ 123 rfl 268 i (.slice none 0 0) Try.underlying123 hi hz0 hz1 rfl _ _ 0 rfl rfl ?e0 ?e1 ?_)
  case e0 => rw [hz2]; omega
  case e1 => omega
  go_wp2_with fail
  refine wp_loop_once ?_
  go_wp2_with fail
  refine wp_loop_once ?_
  go_wp2_with fail
  refine wp_loop_once ?_
  go_wp2_with fail
  refine wp_loop_once ?_
  go_wp2_with fail
  go_ret
  exact ⟨rfl, (Below.refl _ _).alloc (Nat.le_refl _) _⟩
theorem info_Drvs : (Try.prog.info? 274).map (fun i => (i.zero, i.size, i.bytes)) = some (some (.slice none 0 0), 1, 24) := by kernel_rfl
set_option maxRecDepth 100000 in
set_option maxHeartbeats 1000000 in
theorem flatDrvs_nil (w : World) : Calls Try.prog 113 #[.slice none 0 0] w fun e w' => e = .returned (.bool true) ∧ Below w.heap.size w w' := by
  obtain ⟨i, hi, hz0, hz1, hz2⟩ := info_parts info_Drvs
  go_enter Try.func113, Try.ntmps113
  go_wp2_with fail
  refine wp_loop_once ?_
  go_wp2_with (at_make; refine wpList_make_row _ rfl _ _ 124 rfl 274 i (.slice none 0 0) Try.underlying124 hi hz0 hz1 rfl _ _ 0 rfl rfl ?e0 ?e1 ?_)
  case e0 => rw [hz2]; omega
  case e1 => omega
  go_wp2_with fail
  refine wp_loop_once ?_
  go_wp2_with fail
  refine wp_loop_once ?_
  go_wp2_with fail
  refine wp_loop_once ?_
  go_wp2_with fail
  refine wp_loop_once ?_
  go_wp2_with fail
  go_ret
  exact ⟨rfl, (Below.refl _ _).alloc (Nat.le_refl _) _⟩
theorem info_Mades : (Try.prog.info? 27).map (fun i => (i.zero, i.size, i.bytes)) = some (some (.slice none 0 0), 1, 24) := by kernel_rfl
set_option maxRecDepth 100000 in
set_option maxHeartbeats 1000000 in
theorem flatMades_nil (w : World) : Calls Try.prog 114 #[.slice none 0 0] w fun e w' => e = .returned (.bool true) ∧ Below w.heap.size w w' := by
  obtain ⟨i, hi, hz0, hz1, hz2⟩ := info_parts info_Mades
  go_enter Try.func114, Try.ntmps114
  go_wp2_with fail
  refine wp_loop_once ?_
  go_wp2_with (at_make; refine wpList_make_row _ rfl _ _ 125 rfl 27 i (.slice none 0 0) Try.underlying125 hi hz0 hz1 rfl _ _ 0 rfl rfl ?e0 ?e1 ?_)
  case e0 => rw [hz2]; omega
  case e1 => omega
  go_wp2_with fail
  refine wp_loop_once ?_
  go_wp2_with fail
  refine wp_loop_once ?_
  go_wp2_with fail
  refine wp_loop_once ?_
  go_wp2_with fail
  refine wp_loop_once ?_
  go_wp2_with fail
  go_ret
  exact ⟨rfl, (Below.refl _ _).alloc (Nat.le_refl _) _⟩
theorem info_Builts : (Try.prog.info? 279).map (fun i => (i.zero, i.size, i.bytes)) = some (some (.slice none 0 0), 1, 24) := by kernel_rfl
set_option maxRecDepth 100000 in
set_option maxHeartbeats 1000000 in
theorem flatBuilts_nil (w : World) : Calls Try.prog 115 #[.slice none 0 0] w fun e w' => e = .returned (.bool true) ∧ Below w.heap.size w w' := by
  obtain ⟨i, hi, hz0, hz1, hz2⟩ := info_parts info_Builts
  go_enter Try.func115, Try.ntmps115
  go_wp2_with fail
  refine wp_loop_once ?_
  go_wp2_with (at_make; refine wpList_make_row _ rfl _ _ 126 rfl 279 i (.slice none 0 0) Try.underlying126 hi hz0 hz1 rfl _ _ 0 rfl rfl ?e0 ?e1 ?_)
  case e0 => rw [hz2]; omega
  case e1 => omega
  go_wp2_with fail
  refine wp_loop_once ?_
  go_wp2_with fail
  refine wp_loop_once ?_
  go_wp2_with fail
  refine wp_loop_once ?_
  go_wp2_with fail
  refine wp_loop_once ?_
  go_wp2_with fail
  go_ret
  exact ⟨rfl, (Below.refl _ _).alloc (Nat.le_refl _) _⟩
theorem info_Requests : (Try.prog.info? 284).map (fun i => (i.zero, i.size, i.bytes)) = some (some (.slice none 0 0), 1, 24) := by kernel_rfl
set_option maxRecDepth 100000 in
set_option maxHeartbeats 1000000 in
theorem flatRequests_nil (w : World) : Calls Try.prog 116 #[.slice none 0 0] w fun e w' => e = .returned (.bool true) ∧ Below w.heap.size w w' := by
  obtain ⟨i, hi, hz0, hz1, hz2⟩ := info_parts info_Requests
  go_enter Try.func116, Try.ntmps116
  go_wp2_with fail
  refine wp_loop_once ?_
  go_wp2_with (at_make; refine wpList_make_row _ rfl _ _ 127 rfl 284 i (.slice none 0 0) Try.underlying127 hi hz0 hz1 rfl _ _ 0 rfl rfl ?e0 ?e1 ?_)
  case e0 => rw [hz2]; omega
  case e1 => omega
  go_wp2_with fail
  refine wp_loop_once ?_
  go_wp2_with fail
  refine wp_loop_once ?_
  go_wp2_with fail
  refine wp_loop_once ?_
  go_wp2_with fail
  refine wp_loop_once ?_
  go_wp2_with fail
  go_ret
  exact ⟨rfl, (Below.refl _ _).alloc (Nat.le_refl _) _⟩
theorem info_Replies : (Try.prog.info? 290).map (fun i => (i.zero, i.size, i.bytes)) = some (some (.slice none 0 0), 1, 24) := by kernel_rfl
set_option maxRecDepth 100000 in
set_option maxHeartbeats 1000000 in
theorem flatReplies_nil (w : World) : Calls Try.prog 117 #[.slice none 0 0] w fun e w' => e = .returned (.bool true) ∧ Below w.heap.size w w' := by
  obtain ⟨i, hi, hz0, hz1, hz2⟩ := info_parts info_Replies
  go_enter Try.func117, Try.ntmps117
  go_wp2_with fail
  refine wp_loop_once ?_
  go_wp2_with (at_make; refine wpList_make_row _ rfl _ _ 128 rfl 290 i (.slice none 0 0) Try.underlying128 hi hz0 hz1 rfl _ _ 0 rfl rfl ?e0 ?e1 ?_)
  case e0 => rw [hz2]; omega
  case e1 => omega
  go_wp2_with fail
  refine wp_loop_once ?_
  go_wp2_with fail
  refine wp_loop_once ?_
  go_wp2_with fail
  refine wp_loop_once ?_
  go_wp2_with fail
  refine wp_loop_once ?_
  go_wp2_with fail
  go_ret
  exact ⟨rfl, (Below.refl _ _).alloc (Nat.le_refl _) _⟩
end Go.Proofs.Ytfppddnfdinipaa
end
section
namespace Go.Proofs.Ytfppddnfdinipaa.ApI
open Go Go.RowKit
theorem info_BytesI : (Try.prog.info? 66).map (fun i => (i.zero, i.size, i.bytes)) = some (some (.slice none 0 0), 1, 24) := by kernel_rfl
set_option maxRecDepth 100000 in
set_option maxHeartbeats 1000000 in
theorem flatBytes_nil (w : World) : Calls Try.prog 102 #[.slice none 0 0] w fun e w' => e = .returned (.bool true) ∧ Below w.heap.size w w' := by
  obtain ⟨i, hi, hz0, hz1, hz2⟩ := info_parts info_BytesI
  go_enter Try.func102, Try.ntmps102
  go_wp2_with fail
  refine wp_loop_once ?_
  go_wp2_with (at_make; refine wpList_make_row _ rfl _ _ 65 rfl 66 i (.slice none 0 0) Try.underlying65 hi hz0 hz1 rfl _ _ 0 rfl rfl ?e0 ?e1 ?_)
  case e0 => rw [hz2]; omega
  case e1 => omega
  go_wp2_with fail
  refine wp_loop_once ?_
  go_wp2_with fail
  refine wp_loop_once ?_
  go_wp2_with fail
  refine wp_loop_once ?_
  go_wp2_with fail
  refine wp_loop_once ?_
  go_wp2_with fail
  go_ret
  exact ⟨rfl, (Below.refl _ _).alloc (Nat.le_refl _) _⟩
def nl : Value := .slice none 0 0
/-- a bag of rows of bytes -/
def bagOf (v : Value) : Array Value := #[.slice none 0 0, .slice none 0 0, v, .slice none 0 0, .slice none 0 0, .slice none 0 0, .slice none 0 0, .slice none 0 0, .slice none 0 0, .slice none 0 0, .slice none 0 0, .slice none 0 0, .slice none 0 0, .slice none 0 0, .slice none 0 0, .slice none 0 0, .slice none 0 0, .slice none 0 0, .slice none 0 0, .slice none 0 0, .slice none 0 0]
theorem bag_five (v : Value) : (bagOf v)[2]? = some v := rfl
theorem bag_nil (v : Value) (i : Nat) (h : i < 21) (h5 : i ≠ 2) : (bagOf v)[i]? = some (.slice none 0 0) := by
  have h2 : i = 0 ∨ i = 1 ∨ i = 3 ∨ i = 4 ∨ i = 5 ∨ i = 6 ∨ i = 7 ∨ i = 8 ∨ i = 9 ∨ i = 10 ∨ i = 11 ∨ i = 12 ∨ i = 13 ∨ i = 14 ∨ i = 15 ∨ i = 16 ∨ i = 17 ∨ i = 18 ∨ i = 19 ∨ i = 20 := by omega
  rcases h2 with rfl | rfl | rfl | rfl | rfl | rfl | rfl | rfl | rfl | rfl | rfl | rfl | rfl | rfl | rfl | rfl | rfl | rfl | rfl | rfl <;> rfl
theorem bag_set (v u : Value) : (bagOf v).setIfInBounds 2 u = bagOf u := rfl
set_option maxRecDepth 100000 in
set_option maxHeartbeats 4000000 in
theorem bagApart_any (R q m cap g : Nat) (us : Nat → Value) (ns : Nat → Nat) (L0 : Nat → List Int) (hm0 : 0 < m) (hm : m ≤ 1000) (w : World) (hR : R ≤ w.heap.size) (hr0 : Rows8 w R q m us ns L0) (hp : Parted q m us ns) (hb : Blk w g 130 (bagOf (.slice (some ⟨q, 0, none⟩) m cap))) :
    Calls Try.prog 53 #[.pointer (some ⟨g, 0, none⟩)] w fun e w' => e = .returned (.bool true) ∧ Turned (RS m us) w w' := by
  have hnb : ¬ RS m us g := by
    rintro ⟨j, hj, hg⟩
    exact owned_ne (hr0.own j hj) hb (by decide) hg
  obtain ⟨w0, hw0⟩ : ∃ w0, w0 = w := ⟨_, rfl⟩
  have HT0 : Hid (Turned (RS m us) w w0) := hide (by rw [hw0]; exact Turned.refl _ _)
  have H0 : Hid (Rows8 w0 R q m us ns L0 ∧ Blk w0 g 130 (bagOf (.slice (some ⟨q, 0, none⟩) m cap))) := hide (by rw [hw0]; exact ⟨hr0, hb⟩)
  have HNB := hide hnb
  have HP := hide hp
  have c0 := (H0.out.2.cell 0).trans (bag_nil _ 0 (by decide) (by decide))
  have l0 := H0.out.2.lt
  rw [show Calls Try.prog 53 #[.pointer (some ⟨g, 0, none⟩)] w (fun e w' => e = .returned (.bool true) ∧ Turned (RS m us) w w') = Calls Try.prog 53 #[.pointer (some ⟨g, 0, none⟩)] w0 (fun e w' => e = .returned (.bool true) ∧ Turned (RS m us) w w') by rw [hw0]]
  clear hr0 hp hb hnb hw0
  go_enter Try.func53, Try.ntmps53
  go_wp2_with fail
  refine (flatLimbs_nil _).mono ?_
  rintro e w1 ⟨rfl, hb0⟩
  have H1 := hide (And.intro (H0.out.1.keep fun b hlt _ => hb0.block b hlt) (H0.out.2.below hb0 H0.out.2.lt))
  have HT1 := hide (HT0.out.trans (Turned.of_below hb0 _))
  clear hb0
  dsimp only
  have c1 := (H1.out.2.cell 1).trans (bag_nil _ 1 (by decide) (by decide))
  have l1 := H1.out.2.lt
  go_wp2_with fail
  refine (flatWords_nil _).mono ?_
  rintro e w2 ⟨rfl, hb1⟩
  have H2 := hide (And.intro (H1.out.1.keep fun b hlt _ => hb1.block b hlt) (H1.out.2.below hb1 H1.out.2.lt))
  have HT2 := hide (HT1.out.trans (Turned.of_below hb1 _))
  clear hb1
  dsimp only
  have HR5 : Hid (R ≤ w2.heap.size) := hide (by have := HT2.out.size; omega)
  have HQ5 : Hid (q < w2.heap.size) := hide (World.block_lt_of_cell? w2 _ (H2.out.1.cell 0 (by omega)))
  have c2 := (H2.out.2.cell 2).trans (bag_five _ )
  have l2 := H2.out.2.lt
  clear c1 l1
  go_wp2_with fail
  refine (flatInts_any R q m cap us ns L0 hm _ HR5.out HQ5.out H2.out.1 HP.out).mono ?_
  rintro e w3 ⟨rfl, ht2⟩
  have h3 := hide (And.intro ht2 (H2.out.2.turned ht2 HNB.out))
  clear ht2
  dsimp only
  have H3 : Hid (Turned (RS m us) w w3 ∧ Blk w3 g 130 (bagOf (.slice (some ⟨q, 0, none⟩) m cap))) := hide ⟨(HT2.out).trans h3.out.1, h3.out.2⟩
  clear h3
  have c3 := (H3.out.2.cell 3).trans (bag_nil _ 3 (by decide) (by decide))
  have l3 := H3.out.2.lt
  clear c2 l2
  go_wp2_with fail
  refine (flatLongs_nil _).mono ?_
  rintro e w4 ⟨rfl, hb3⟩
  have H4 := hide (And.intro (H3.out.1.trans (Turned.of_below hb3 _)) (H3.out.2.below hb3 H3.out.2.lt))
  clear hb3
  dsimp only
  have c4 := (H4.out.2.cell 4).trans (bag_nil _ 4 (by decide) (by decide))
  have l4 := H4.out.2.lt
  clear c3 l3
  go_wp2_with fail
  refine (flatTexts_nil _).mono ?_
  rintro e w5 ⟨rfl, hb4⟩
  have H5 := hide (And.intro (H4.out.1.trans (Turned.of_below hb4 _)) (H4.out.2.below hb4 H4.out.2.lt))
  clear hb4
  dsimp only
  have c5 := (H5.out.2.cell 5).trans (bag_nil _ 5 (by decide) (by decide))
  have l5 := H5.out.2.lt
  clear c4 l4
  go_wp2_with fail
  refine (flatBytes_nil _).mono ?_
  rintro e w6 ⟨rfl, hb5⟩
  have H6 := hide (And.intro (H5.out.1.trans (Turned.of_below hb5 _)) (H5.out.2.below hb5 H5.out.2.lt))
  clear hb5
  dsimp only
  have c6 := (H6.out.2.cell 6).trans (bag_nil _ 6 (by decide) (by decide))
  have l6 := H6.out.2.lt
  clear c5 l5
  go_wp2_with fail
  refine (flatTruths_nil _).mono ?_
  rintro e w7 ⟨rfl, hb6⟩
  have H7 := hide (And.intro (H6.out.1.trans (Turned.of_below hb6 _)) (H6.out.2.below hb6 H6.out.2.lt))
  clear hb6
  dsimp only
  have c7 := (H7.out.2.cell 7).trans (bag_nil _ 7 (by decide) (by decide))
  have l7 := H7.out.2.lt
  clear c6 l6
  go_wp2_with fail
  refine (flatPaths_nil _).mono ?_
  rintro e w8 ⟨rfl, hb7⟩
  have H8 := hide (And.intro (H7.out.1.trans (Turned.of_below hb7 _)) (H7.out.2.below hb7 H7.out.2.lt))
  clear hb7
  dsimp only
  have c8 := (H8.out.2.cell 8).trans (bag_nil _ 8 (by decide) (by decide))
  have l8 := H8.out.2.lt
  clear c7 l7
  go_wp2_with fail
  refine (flatKids_nil _).mono ?_
  rintro e w9 ⟨rfl, hb8⟩
  have H9 := hide (And.intro (H8.out.1.trans (Turned.of_below hb8 _)) (H8.out.2.below hb8 H8.out.2.lt))
  clear hb8
  dsimp only
  have c9 := (H9.out.2.cell 9).trans (bag_nil _ 9 (by decide) (by decide))
  have l9 := H9.out.2.lt
  clear c8 l8
  go_wp2_with fail
  refine (flatNodes_nil _).mono ?_
  rintro e w10 ⟨rfl, hb9⟩
  have H10 := hide (And.intro (H9.out.1.trans (Turned.of_below hb9 _)) (H9.out.2.below hb9 H9.out.2.lt))
  clear hb9
  dsimp only
  have c10 := (H10.out.2.cell 10).trans (bag_nil _ 10 (by decide) (by decide))
  have l10 := H10.out.2.lt
  clear c9 l9
  go_wp2_with fail
  refine (flatLines_nil _).mono ?_
  rintro e w11 ⟨rfl, hb10⟩
  have H11 := hide (And.intro (H10.out.1.trans (Turned.of_below hb10 _)) (H10.out.2.below hb10 H10.out.2.lt))
  clear hb10
  dsimp only
  have c11 := (H11.out.2.cell 11).trans (bag_nil _ 11 (by decide) (by decide))
  have l11 := H11.out.2.lt
  clear c10 l10
  go_wp2_with fail
  refine (flatChanges_nil _).mono ?_
  rintro e w12 ⟨rfl, hb11⟩
  have H12 := hide (And.intro (H11.out.1.trans (Turned.of_below hb11 _)) (H11.out.2.below hb11 H11.out.2.lt))
  clear hb11
  dsimp only
  have c12 := (H12.out.2.cell 12).trans (bag_nil _ 12 (by decide) (by decide))
  have l12 := H12.out.2.lt
  clear c11 l11
  go_wp2_with fail
  refine (flatRuns_nil _).mono ?_
  rintro e w13 ⟨rfl, hb12⟩
  have H13 := hide (And.intro (H12.out.1.trans (Turned.of_below hb12 _)) (H12.out.2.below hb12 H12.out.2.lt))
  clear hb12
  dsimp only
  have c13 := (H13.out.2.cell 13).trans (bag_nil _ 13 (by decide) (by decide))
  have l13 := H13.out.2.lt
  clear c12 l12
  go_wp2_with fail
  refine (flatObjects_nil _).mono ?_
  rintro e w14 ⟨rfl, hb13⟩
  have H14 := hide (And.intro (H13.out.1.trans (Turned.of_below hb13 _)) (H13.out.2.below hb13 H13.out.2.lt))
  clear hb13
  dsimp only
  have c14 := (H14.out.2.cell 14).trans (bag_nil _ 14 (by decide) (by decide))
  have l14 := H14.out.2.lt
  clear c13 l13
  go_wp2_with fail
  refine (flatQuotas_nil _).mono ?_
  rintro e w15 ⟨rfl, hb14⟩
  have H15 := hide (And.intro (H14.out.1.trans (Turned.of_below hb14 _)) (H14.out.2.below hb14 H14.out.2.lt))
  clear hb14
  dsimp only
  have c15 := (H15.out.2.cell 15).trans (bag_nil _ 15 (by decide) (by decide))
  have l15 := H15.out.2.lt
  clear c14 l14
  go_wp2_with fail
  refine (flatNameds_nil _).mono ?_
  rintro e w16 ⟨rfl, hb15⟩
  have H16 := hide (And.intro (H15.out.1.trans (Turned.of_below hb15 _)) (H15.out.2.below hb15 H15.out.2.lt))
  clear hb15
  dsimp only
  have c16 := (H16.out.2.cell 16).trans (bag_nil _ 16 (by decide) (by decide))
  have l16 := H16.out.2.lt
  clear c15 l15
  go_wp2_with fail
  refine (flatDrvs_nil _).mono ?_
  rintro e w17 ⟨rfl, hb16⟩
  have H17 := hide (And.intro (H16.out.1.trans (Turned.of_below hb16 _)) (H16.out.2.below hb16 H16.out.2.lt))
  clear hb16
  dsimp only
  have c17 := (H17.out.2.cell 17).trans (bag_nil _ 17 (by decide) (by decide))
  have l17 := H17.out.2.lt
  clear c16 l16
  go_wp2_with fail
  refine (flatMades_nil _).mono ?_
  rintro e w18 ⟨rfl, hb17⟩
  have H18 := hide (And.intro (H17.out.1.trans (Turned.of_below hb17 _)) (H17.out.2.below hb17 H17.out.2.lt))
  clear hb17
  dsimp only
  have c18 := (H18.out.2.cell 18).trans (bag_nil _ 18 (by decide) (by decide))
  have l18 := H18.out.2.lt
  clear c17 l17
  go_wp2_with fail
  refine (flatBuilts_nil _).mono ?_
  rintro e w19 ⟨rfl, hb18⟩
  have H19 := hide (And.intro (H18.out.1.trans (Turned.of_below hb18 _)) (H18.out.2.below hb18 H18.out.2.lt))
  clear hb18
  dsimp only
  have c19 := (H19.out.2.cell 19).trans (bag_nil _ 19 (by decide) (by decide))
  have l19 := H19.out.2.lt
  clear c18 l18
  go_wp2_with fail
  refine (flatRequests_nil _).mono ?_
  rintro e w20 ⟨rfl, hb19⟩
  have H20 := hide (And.intro (H19.out.1.trans (Turned.of_below hb19 _)) (H19.out.2.below hb19 H19.out.2.lt))
  clear hb19
  dsimp only
  have c20 := (H20.out.2.cell 20).trans (bag_nil _ 20 (by decide) (by decide))
  have l20 := H20.out.2.lt
  clear c19 l19
  go_wp2_with fail
  refine (flatReplies_nil _).mono ?_
  rintro e w21 ⟨rfl, hb20⟩
  have H21 := hide (And.intro (H20.out.1.trans (Turned.of_below hb20 _)) (H20.out.2.below hb20 H20.out.2.lt))
  clear hb20
  dsimp only
  clear c20 l20
  go_wp2_with fail
  go_ret
  exact ⟨rfl, H21.out.1⟩
end Go.Proofs.Ytfppddnfdinipaa.ApI
end
section
namespace Go.Proofs.Ytfppddnfdinipaa.ApI
open Go Go.RowKit
set_option maxRecDepth 100000 in
set_option maxHeartbeats 1000000 in
theorem putInts_any (g R n n1 c1 : Nat) (A1 : Option Addr) (v : Value) (us : List Value) (hn : n ≤ 100000) (w : World) (hR : R ≤ w.heap.size) (hg : R ≤ g) (hb : Blk w g 130 (bagOf v)) (ho : w.ownsRow R 33 1 v n us) :
    Calls Try.prog 52 #[.pointer (some ⟨g, 0, none⟩), .slice A1 n1 c1] w fun e w' => e = .returned (.tuple #[]) ∧ ∃ v', Blk w' g 130 (bagOf v') ∧ w'.ownsRow R 33 1 v' (n + 1) (us ++ [.slice A1 n1 c1]) ∧ Below R w w' := by
  obtain ⟨ir, hir, rz0, rz1, rz2⟩ := info_parts info_rowI
  have c5 := (hb.cell 2).trans (bag_five v)
  have hlt := hb.lt
  have hne := owned_ne ho hb (by decide)
  have H := hide (And.intro hb (And.intro ho hne))
  clear hb ho hne
  go_enter Try.func52, Try.ntmps52
  go_wp2_with (at_builtin; (refine wpList_app (o := ⟨some 11, _, _, _, _, _⟩) rfl (.tmp 8) (.tmp 10) 44 rfl R 33 ir (.slice none 0 0) 24 Try.underlying44 hir rz0 rz1 rz2 rfl v n us (H.out.2.1.alloc _) _ 1 1 [.slice A1 n1 c1] (src_one _ _ _ rfl) ?h1 ?h2 ?h3 rfl rfl ?_))
  case h1 => simp only [maxLen]; omega
  case h2 => omega
  case h3 => rw [size_alloc]; omega
  intro v2 w2 own2 gr2 _ _
  have hb2 := (H.out.1.alloc (.cells #[.slice A1 n1 c1] 33)).grown gr2 (fun e => H.out.2.2 e.symm)
  have hbel : Below R w w2 := ((Below.refl R w).alloc hR _).grown gr2 (by rw [size_alloc]; omega) (fun q hq => (owned_lt H.out.2.1 hq).1)
  obtain ⟨A2, k2, rfl⟩ := owned_slice own2
  have c2 := (hb2.cell 2).trans (bag_five v)
  have f2 := hb2.frozen 2
  have hlt2 := hb2.lt
  have H2 := hide (And.intro hb2 (And.intro own2 hbel))
  clear hb2 own2 gr2 hbel c5
  go_wp2_with fail
  go_end0
  refine ⟨rfl, .slice A2 (n + 1) k2, ?_, ?_, H2.out.2.2.setCell (by exact hg) _⟩
  · have h1 := H2.out.1.set_ 2 (.slice A2 (n + 1) k2)
    rwa [bag_set] at h1
  · exact owned_keep H2.out.2.1 fun q hq _ => Below.heap_setCell w2 _ _ q (by rintro rfl; exact owned_ne H2.out.2.1 H2.out.1 (by decide) hq)
theorem range_get (us : Nat → Value) (m j : Nat) (h : j < m) : ((List.range m).map us)[j]? = some (us j) := by simp [h]
set_option maxRecDepth 100000 in
set_option maxHeartbeats 1000000 in
theorem apartInts_any (R q m cap : Nat) (us : Nat → Value) (ns : Nat → Nat) (L0 : Nat → List Int) (hm0 : 0 < m) (hm : m ≤ 1000) (w : World) (hR : R ≤ w.heap.size) (hq : q < w.heap.size) (hr0 : Rows8 w R q m us ns L0) (hp : Parted q m us ns) :
    Calls Try.prog 17 #[.slice (some ⟨q, 0, none⟩) m cap] w fun e w' => e = .returned (.bool true) ∧ Turned (RS m us) w w' := by
  obtain ⟨g, hg⟩ : ∃ g, g = w.heap.size := ⟨_, rfl⟩
  have HG := hide hg
  have HX := hide (And.intro hr0 hp)
  obtain ⟨w0, hw0⟩ : ∃ w0, w0 = w.alloc (.cells (bagOf (.slice none 0 0)) 130) := ⟨_, rfl⟩
  have hb0 : Blk w0 g 130 (bagOf (.slice none 0 0)) := by rw [hw0, hg]; exact Blk.new _ _ _
  have hbel0 : Below g w w0 := by rw [hw0, hg]; exact (Below.refl _ _).alloc (Nat.le_refl _) _
  have HW := hide hw0
  have H0 := hide (And.intro hb0 hbel0)
  clear hg hr0 hp hw0 hb0 hbel0
  go_enter Try.func17, Try.ntmps17
  go_wp2_with fail
  rw [← HG.out]
  go_loopw [4] (fun v wr => ∃ (k : Nat) (vb : Value), k ≤ m ∧ v = .int .i64 (k : Int) ∧ Blk wr g 130 (bagOf vb) ∧ wr.ownsRow g 33 1 vb k ((List.range k).map us) ∧ Below g w wr) (fun v _ => m - (intOf v).toNat)
  case atStart =>
    have h := H0.out
    rw [HW.out] at h
    exact ⟨0, .slice none 0 0, by omega, rfl, h.1, ⟨rfl, .inl ⟨rfl, rfl⟩⟩, h.2⟩
  case round =>
    obtain ⟨k, vb, hk, rfl, hb, ho, hbel⟩ := hrel
    have hgs : g ≤ wr.heap.size := by have := hbel.size; have := HG.out; omega
    have HY := hide (And.intro hb (And.intro ho hbel))
    clear hb ho hbel H0 HW
    by_cases hkm : k < m
    · have n1 : (0 : Int) ≤ (k : Int) := by omega
      have n2 : (k : Int) < (m : Int) := by omega
      obtain ⟨A, c, hu⟩ := owned_slice (HX.out.1.own k hkm)
      have cq := (HY.out.2.2.cell (p := ⟨q, k, none⟩) (by show q < g; have := HG.out; omega)).trans (HX.out.1.cell k hkm)
      rw [hu] at cq
      have HU := hide hu
      clear hu
      go_wp2_with (go_at_call 52; refine (putInts_any g g k (ns k) c A vb ((List.range k).map us) (by omega) _ hgs (Nat.le_refl _) HY.out.1 HY.out.2.1).mono ?_; rintro e w1 ⟨rfl, v1, hb1, ho1, hbel1⟩; have H1 := hide (And.intro hb1 (And.intro ho1 hbel1)); clear hb1 ho1 hbel1)
      go_roundw
      case rel =>
        refine ⟨k + 1, v1, by omega, by go_num, H1.out.1, ?_, HY.out.2.2.trans H1.out.2.2⟩
        rw [List.range_succ, List.map_append, List.map_cons, List.map_nil, HU.out]
        exact H1.out.2.1
      case measure => simp [intOf]; omega
    · obtain rfl : m = k := by omega
      obtain ⟨q2, cap2, hvb, _⟩ := own_place HY.out.2.1 hm0
      have ho := HY.out.2.1
      rw [hvb] at ho
      have hwg : w.heap.size ≤ wr.heap.size := HY.out.2.2.size
      have hr2 : Rows8 wr R q2 m us ns L0 := ⟨fun j hj => owned_keep (HX.out.1.own j hj) fun b _ hlt => HY.out.2.2.block b (by have := HG.out; omega), fun j hj => (own_cell ho j hj).1.trans (range_get us m j hj)⟩
      have hp2 : Parted q2 m us ns := ⟨HX.out.2.dis, by
        rintro ⟨j, hj, hg⟩
        have h1 := (owned_lt (HX.out.1.own j hj) hg).2
        have h2 : g ≤ q2 := (owned_lt ho rfl).1
        have := HG.out
        omega, HX.out.2.small⟩
      have hb2 := HY.out.1
      rw [hvb] at hb2
      have HZ := hide (And.intro hr2 (And.intro hp2 hb2))
      have hRw : R ≤ wr.heap.size := by omega
      clear ho hr2 hp2 hb2 hvb
      go_wp2_with (go_at_call 53; refine (bagApart_any R q2 m cap2 g us ns L0 hm0 hm _ hRw HZ.out.1 HZ.out.2.1 HZ.out.2.2).mono ?_; rintro e w1 ⟨rfl, ht1⟩; have H1 := hide ht1; clear ht1)
      go_ret
      have hbw : Below w.heap.size w wr := by rw [← HG.out]; exact HY.out.2.2
      exact ⟨rfl, (Turned.of_below hbw (RS m us)).trans H1.out⟩
end Go.Proofs.Ytfppddnfdinipaa.ApI
end
section
namespace Go.Proofs.Ytfppddnfdinipaa
open Go Go.RowKit Go.Maps
set_option maxRecDepth 100000
theorem OwnI.slice_ {N : Nat} {w : World} {u : Value} {l : List Nat} (h : OwnI N w u l) : ∃ A c, u = .slice A l.length c := by
  rcases owned_formN h with ⟨rfl, h0, _⟩ | ⟨g, cap, cur, rfl, _⟩
  · exact ⟨none, 0, by rw [h0]⟩
  · exact ⟨_, _, rfl⟩
theorem OwnI.ivz_ {N : Nat} {w : World} {u : Value} {l : List Nat} (h : OwnI N w u l) : w.ownsRow N 3 1 u l.length (ivz (l.map fun k => ((k : Nat) : Int))) := by
  have e : ivz (l.map fun k => ((k : Nat) : Int)) = iv l := by simp [ivz, iv]
  rw [e]
  exact h
set_option maxHeartbeats 8000000 in
theorem pickLeast_any (w : World) (v : Cvs) (c : CaseP) (hl : LightC c) (hC : CaseAt w.heap.size w v c) (f : Int) (hf9 : -9223372036854775808 ≤ f ∧ f ≤ 9223372036854775807) :
    Calls Try.prog 3 #[.agg (caseC v).toArray, .int .i64 f] w fun e w' => e = .returned (.bool true) ∧ Below w.heap.size w w' := by
  have ho : okH v.own := by rw [hC.own]; exact hC.okO
  have hsz0 := csz ho
  obtain ⟨w1, hw1⟩ : ∃ w1, w1 = w.alloc (.cells (caseC v).toArray 29) := ⟨_, rfl⟩
  have hb1 : Below w.heap.size w w1 := by rw [hw1]; exact (Below.refl _ w).alloc (Nat.le_refl _) _
  have hk1 : Blk w1 w.heap.size 29 (caseC v).toArray := by rw [hw1]; exact Blk.new _ _ _
  have HC1 := hide (And.intro (show CaseAt w1.heap.size w1 v c from (hC.alike hb1.block).widen hb1.size) (And.intro hk1 hb1))
  have HW1 := hide hw1
  clear hb1 hk1 hC hw1
  go_enter Try.func3, Try.ntmps3
  go_wp2_with (first | (refine wpList_value (o := ⟨some 2, _, _, _, _, _⟩) rfl (.pointer (some ⟨w.heap.size, 0, none⟩)) w1 (by rw [HW1.out]; kernel_rfl) ?_) | (refine wpList_value (o := ⟨some 15, _, _, _, _, _⟩) rfl (.agg (caseC v).toArray) w1 (exec_load_blk (o := ⟨some 15, _, _, _, _, _⟩) 29 (.tmp 2) rfl w.heap.size rfl 29 _ _ w1 HC1.out.2.1 Try.underlying29 rfl hsz0) ?_))
  refine (great_any w1 v c hl HC1.out.1).mono ?_
  rintro e w2 ⟨rfl, hb⟩
  have HC2 := hide (And.intro (show CaseAt w2.heap.size w2 v c from (HC1.out.1.alike hb.block).widen hb.size) (And.intro (show Blk w2 w.heap.size 29 (caseC v).toArray from HC1.out.2.1.below hb HC1.out.2.1.lt) (show Below w.heap.size w w2 from HC1.out.2.2.trans (Below.mono hb HC1.out.2.2.size))))
  clear hb
  dsimp only
  by_cases hg : 120 < c.size
  · have hd : decide (120 < c.size) = true := decide_eq_true hg
    rw [hd]
    go_wp2_with fail
    refine (awake24_any w2).mono ?_
    rintro e w9 ⟨rfl, hb⟩
    dsimp only
    have HE := hide (show Below w.heap.size w w9 from HC2.out.2.2.trans (Below.mono hb HC2.out.2.2.size))
    clear hb
    go_wp2_with fail
    go_ret
    exact ⟨rfl, HE.out⟩
  · have hd : decide (120 < c.size) = false := decide_eq_false hg
    rw [hd]
    have hc : c.size ≤ 120 := by omega
    clear hd hg
    by_cases hk : f > 300
    · go_wp2_with fail
      refine (awake24_any w2).mono ?_
      rintro e w9 ⟨rfl, hb⟩
      dsimp only
      have HE := hide (show Below w.heap.size w w9 from HC2.out.2.2.trans (Below.mono hb HC2.out.2.2.size))
      clear hb
      go_wp2_with fail
      go_ret
      exact ⟨rfl, HE.out⟩
    · go_wp2_with (refine wpList_value (o := ⟨some 22, _, _, _, _, _⟩) rfl (.agg (caseC v).toArray) w2 (exec_load_blk (o := ⟨some 22, _, _, _, _, _⟩) 29 (.tmp 2) rfl w.heap.size rfl 29 _ _ w2 HC2.out.2.1 Try.underlying29 rfl hsz0) ?_)
      refine (lent_any w2 v c hc HC2.out.1).mono ?_
      rintro e w3 ⟨v', rfl, hc', hl', hb⟩
      have HC3 := hide (And.intro (show CaseAt w3.heap.size w3 v c from (HC2.out.1.alike hb.block).widen hb.size) (And.intro (show Blk w3 w.heap.size 29 (caseC v).toArray from HC2.out.2.1.below hb HC2.out.2.1.lt) (show Below w.heap.size w w3 from HC2.out.2.2.trans (Below.mono hb HC2.out.2.2.size))))
      have HV3 := hide (And.intro hc' hl')
      clear hb hc' hl'
      dsimp only
      have hov : okH v'.own := by rw [HV3.out.1.own]; exact HV3.out.1.okO
      have hszv := csz hov
      have hallv := case_all HV3.out.1
      go_wp2_with (first | ((with_reducible refine wpList_box (o1 := ⟨some 5, _, _, _, _, _⟩) (o2 := ⟨none, _, _, _, _, _⟩) rfl rfl 29 (.tmp 5) (.tmp 23) ?_ zcL.toArray (caseC v').toArray ?_ hszv ?_ ?_ ?_ ?_ ?_); rfl; kernel_rfl; (simp only [List.size_toArray, caseC_len hov]; kernel_rfl); exact hallv; rfl; rfl; intro w4 hm4 hb4; have H4 := hide (And.intro hm4 hb4); clear hm4 hb4; simp only [Act.put, List.setIfInBounds_toArray, List.set_cons_zero, List.set_cons_succ]) | (refine wpList_value (o := ⟨some 25, _, _, _, _, _⟩) rfl (.agg (caseC v').toArray) w4 (exec_load_blk (o := ⟨some 25, _, _, _, _, _⟩) 29 (.tmp 5) rfl w3.heap.size rfl 29 _ _ w4 H4.out.1 Try.underlying29 rfl hszv) ?_))
      have HC4 := hide (And.intro (show CaseAt w4.heap.size w4 v c from (HC3.out.1.alike H4.out.2.block).widen H4.out.2.size) (And.intro (show Blk w4 w.heap.size 29 (caseC v).toArray from HC3.out.2.1.below H4.out.2 HC3.out.2.1.lt) (show Below w.heap.size w w4 from HC3.out.2.2.trans (Below.mono H4.out.2 HC3.out.2.2.size))))
      have HV4 := hide (And.intro (show CaseAt w4.heap.size w4 v' c from (HV3.out.1.alike H4.out.2.block).widen H4.out.2.size) (And.intro (show LentAt w4 v' c from HV3.out.2.below H4.out.2) (show Blk w4 w3.heap.size 29 (caseC v').toArray from H4.out.1)))
      have HB4 := hide (Below.refl w4.heap.size w4)
      clear H4 HV3 hallv
      obtain ⟨R, hR⟩ : ∃ R, R = leastB c f := ⟨_, rfl⟩
      obtain ⟨L, N, E⟩ := R
      have hL9 : L.length ≤ 1000000 := by
        have h := congrArg (fun r => r.1) hR
        have h : L = (leastB c f).1 := h
        rw [h]
        exact least_len hc f
      have HQ := hide hR
      clear hR
      refine (least_any w4 v' c hc ((HV4.out.1.alike HB4.out.block).widen HB4.out.size) f hf9).mono ?_
      rintro e w5 ⟨u6, rfl, ho6, hb⟩
      rw [← HQ.out] at ho6 ⊢
      have HB5 := hide (show Below w4.heap.size w4 w5 from HB4.out.trans (Below.mono hb HB4.out.size))
      obtain ⟨A6, c6, rfl⟩ := OwnI.slice_ ho6
      have HO6 := hide (show OwnI w4.heap.size w5 (.slice A6 L.length c6) L from ho6)
      clear hb ho6
      dsimp only
      go_wp2_with (refine wpList_value (o := ⟨some 32, _, _, _, _, _⟩) rfl (.agg (caseC v).toArray) w5 (exec_load_blk (o := ⟨some 32, _, _, _, _, _⟩) 29 (.tmp 2) rfl w.heap.size rfl 29 _ _ w5 (HC4.out.2.1.below HB5.out HC4.out.2.1.lt) Try.underlying29 rfl hsz0) ?_)
      refine (rcase_any w5 v c hc ((HC4.out.1.alike HB5.out.block).widen HB5.out.size)).mono ?_
      rintro e w6 ⟨v2, rfl, h2, hb⟩
      have HB6 := hide (show Below w4.heap.size w4 w6 from HB5.out.trans (Below.mono hb HB5.out.size))
      have HB56 := hide hb
      have HR6 := hide h2
      clear hb h2
      dsimp only
      go_wp2_with fail
      refine (rleast_any w6 v2 c hc HR6.out f hf9).mono ?_
      rintro e w7 ⟨u9, rfl, ho9, hb⟩
      rw [← HQ.out] at ho9 ⊢
      have HB7 := hide (show Below w4.heap.size w4 w7 from HB6.out.trans (Below.mono hb HB6.out.size))
      have HB67 := hide hb
      obtain ⟨A9, c9, rfl⟩ := OwnI.slice_ ho9
      have HO9 := hide (show OwnI 0 w7 (.slice A9 L.length c9) L from ho9)
      clear hb ho9
      dsimp only
      go_wp2_with (refine wpList_value (o := ⟨some 40, _, _, _, _, _⟩) rfl (.agg (caseC v').toArray) w7 (exec_load_blk (o := ⟨some 40, _, _, _, _, _⟩) 29 (.tmp 5) rfl w3.heap.size rfl 29 _ _ w7 (HV4.out.2.2.below HB7.out HV4.out.2.2.lt) Try.underlying29 rfl hszv) ?_)
      refine (least_any w7 v' c hc ((HV4.out.1.alike HB7.out.block).widen HB7.out.size) f hf9).mono ?_
      rintro e w8 ⟨u12, rfl, ho12, hb⟩
      rw [← HQ.out] at ho12 ⊢
      have HB8 := hide (show Below w4.heap.size w4 w8 from HB7.out.trans (Below.mono hb HB7.out.size))
      obtain ⟨A12, c12, rfl⟩ := OwnI.slice_ ho12
      have HO12 := hide (show OwnI w7.heap.size w8 (.slice A12 L.length c12) L from ho12)
      have H78 := hide hb
      clear hb ho12
      dsimp only
      go_wp2_with fail
      have H57 := hide (show w5.heap.size ≤ w7.heap.size by have := HB56.out.size; have := HB67.out.size; omega)
      have HO68 := hide (show OwnI w4.heap.size w8 (.slice A6 L.length c6) L from owned_keepN (owned_keepN (owned_keepN HO6.out fun g _ hl => HB56.out.block g hl) fun g _ hl => HB67.out.block g hl) fun g _ hl => H78.out.block g hl)
      have HO98 := hide (show OwnI 0 w8 (.slice A9 L.length c9) L from owned_keepN HO9.out fun g _ hl => H78.out.block g hl)
      refine (sameInts_any (L.map fun k => ((k : Nat) : Int)) (L.map fun k => ((k : Nat) : Int)) (by rw [List.length_map]; exact hL9) (by rw [List.length_map]; exact hL9) (.slice A6 L.length c6) (.slice A9 L.length c9) w8 (OwnI.ints HO68.out) (OwnI.ints HO98.out)).mono ?_
      rintro e w9 ⟨rfl, hb⟩
      rw [decide_eq_true rfl]
      have HB9 := hide (show Below w4.heap.size w4 w9 from HB8.out.trans (Below.mono hb HB8.out.size))
      have H89 := hide hb
      clear hb
      dsimp only
      obtain ⟨w10, hw10⟩ : ∃ w10, w10 = w9.alloc (.cells #[.slice A6 L.length c6, .slice A12 L.length c12] 33) := ⟨_, rfl⟩
      have hb : Below w9.heap.size w9 w10 := by rw [hw10]; exact (Below.refl _ w9).alloc (Nat.le_refl _) _
      have hk10 : Blk w10 w9.heap.size 33 #[.slice A6 L.length c6, .slice A12 L.length c12] := by rw [hw10]; exact Blk.new _ _ _
      have HB10 := hide (show Below w4.heap.size w4 w10 from HB9.out.trans (Below.mono hb HB9.out.size))
      have HO6X := hide (show OwnI w4.heap.size w10 (.slice A6 L.length c6) L from owned_keepN (owned_keepN HO68.out fun g _ hl => H89.out.block g hl) fun g _ hl => hb.block g hl)
      have HO12X := hide (show OwnI w7.heap.size w10 (.slice A12 L.length c12) L from owned_keepN (owned_keepN HO12.out fun g _ hl => H89.out.block g hl) fun g _ hl => hb.block g hl)
      have H10 := hide (And.intro hk10 hb)
      have HW10 := hide hw10
      clear hk10 hb hw10
      go_wp2_with fail
      rw [← HW10.out]
      obtain ⟨us, hus⟩ : ∃ us : Nat → Value, us = fun j => if j = 0 then .slice A6 L.length c6 else .slice A12 L.length c12 := ⟨_, rfl⟩
      have u0 : us 0 = .slice A6 L.length c6 := by rw [hus]; rfl
      have u1 : us 1 = .slice A12 L.length c12 := by rw [hus]; rfl
      have h2 : ∀ j, j < 2 → j = 0 ∨ j = 1 := fun j hj => by omega
      have hrows : ApI.Rows8 w10 w4.heap.size w9.heap.size 2 us (fun _ => L.length) (fun _ => L.map fun k => ((k : Nat) : Int)) := by
        refine ⟨fun j hj => ?_, fun j hj => ?_⟩
        · rcases h2 j hj with rfl | rfl
          · rw [u0]; exact OwnI.ivz_ HO6X.out
          · rw [u1]; exact owned_baseN (OwnI.ivz_ HO12X.out) fun g hg => by have := (owned_ltN HO12X.out hg).1; have := HB7.out.size; omega
        · rcases h2 j hj with rfl | rfl
          · rw [u0, H10.out.1.cell]; rfl
          · rw [u1, H10.out.1.cell]; rfl
      have h05 : ∀ g, (us 0).ownBlock = some g → w4.heap.size ≤ g ∧ g < w7.heap.size := fun g hg => by
        rw [u0] at hg
        exact ⟨(owned_ltN HO6X.out hg).1, by have := (owned_ltN HO6.out hg).2; have := H57.out; omega⟩
      have h15 : ∀ g, (us 1).ownBlock = some g → w7.heap.size ≤ g ∧ g < w9.heap.size := fun g hg => by
        rw [u1] at hg
        exact ⟨(owned_ltN HO12X.out hg).1, by have := (owned_ltN HO12.out hg).2; have := H89.out.size; omega⟩
      have h79 : w7.heap.size ≤ w9.heap.size := by have := H78.out.size; have := H89.out.size; omega
      have hpart : ApI.Parted w9.heap.size 2 us (fun _ => L.length) := by
        refine ⟨fun i j hi hj hij g hg hg2 => ?_, ?_, fun j hj => hL9⟩
        · rcases h2 i hi with rfl | rfl <;> rcases h2 j hj with rfl | rfl
          · exact hij rfl
          · have := h05 g hg; have := h15 g hg2; omega
          · have := h15 g hg; have := h05 g hg2; omega
          · exact hij rfl
        · rintro ⟨j, hj, hg⟩
          rcases h2 j hj with rfl | rfl
          · have := h05 _ hg; omega
          · have := h15 _ hg; omega
      have hRS : ∀ g, ApI.RS 2 us g → w4.heap.size ≤ g := by
        rintro g ⟨j, hj, hg⟩
        have := HB7.out.size
        rcases h2 j hj with rfl | rfl
        · exact (h05 g hg).1
        · have := (h15 g hg).1; omega
      refine (ApI.apartInts_any w4.heap.size w9.heap.size 2 2 us (fun _ => L.length) (fun _ => L.map fun k => ((k : Nat) : Int)) (by decide) (by decide) w10 HB10.out.size H10.out.1.lt hrows hpart).mono ?_
      rintro e w11 ⟨rfl, ht⟩
      have HB11 := hide (show Below w4.heap.size w4 w11 from HB10.out.trans ⟨ht.os, ht.tape, ht.output, ht.size, fun k hk => ht.block k (by have := HB10.out.size; omega) fun hs => by have := hRS k hs; omega⟩)
      clear ht hrows hpart h05 h15 hRS h2 u0 u1 hus h79
      dsimp only
      go_wp2_with (first | (refine wpList_value_w (o := ⟨some 66, _, _, _, _, _⟩) (by kernel_rfl) (.agg (caseC v').toArray) w11 (exec_load_blk (o := ⟨some 66, _, _, _, _, _⟩) 29 (.tmp 5) rfl w3.heap.size rfl 29 _ _ w11 (HV4.out.2.2.below HB11.out HV4.out.2.2.lt) Try.underlying29 rfl hszv) ?_) | (refine wpList_value_w (o := ⟨some 67, _, _, _, _, _⟩) (by kernel_rfl) (.agg (caseC v).toArray) w11 (exec_load_blk (o := ⟨some 67, _, _, _, _, _⟩) 29 (.tmp 2) rfl w.heap.size rfl 29 _ _ w11 (HC4.out.2.1.below HB11.out HC4.out.2.1.lt) Try.underlying29 rfl hsz0) ?_))
      refine (kept_any w11 v' v c hc ((HV4.out.1.alike HB11.out.block).widen HB11.out.size) (HV4.out.2.1.below HB11.out) ((HC4.out.1.alike HB11.out.block).widen HB11.out.size)).mono ?_
      rintro e w12 ⟨rfl, hb⟩
      have HB12 := hide (show Below w4.heap.size w4 w12 from HB11.out.trans (Below.mono hb HB11.out.size))
      clear hb
      dsimp only
      go_wp2_with fail
      refine (awake24_any w12).mono ?_
      rintro e w13 ⟨rfl, hb⟩
      have HB13 := hide (show Below w4.heap.size w4 w13 from HB12.out.trans (Below.mono hb HB12.out.size))
      clear hb
      dsimp only
      go_wp2_with fail
      go_ret
      exact ⟨rfl, HC4.out.2.2.trans (Below.mono HB13.out HC4.out.2.2.size)⟩
end Go.Proofs.Ytfppddnfdinipaa
end
section
namespace Go.Proofs.Ytfppddnfdinipaa
open Go Go.ChangeShapes Go.WideShapes Go.ChangeAt Go.RowKit
set_option maxRecDepth 100000
theorem pickLeast_lifted (os : Os) (started : os.Started) (H : Type) (enc : TypeId × Value → H) :
    ReturnsInHanded {} Try.checked os 3 .any (Rows.pickLeastSpec.pre6 enc Try.prog Try.f3 Rows.pickLeastRow.domain false) (Rows.pickLeastSpec.post enc Try.prog Try.f3 false true false false) := by
  refine returnsInHanded_of_change_sized (C := Try.checked) Try.ownPF started (by kernel_rfl) Try.func3
    (ChangeSpec.witness6 (enc := enc) (C := Try.checked) false ⟨#[], #[.agg zcC, .int .i64 0], []⟩ 8 (by kernel_rfl) (by kernel_rfl) (by kernel_rfl) (by kernel_rfl)) ?_
  intro W base args ds gs before hval0 hW _ hsz0 _
  have hval : ∀ (j : Nat) t v, Try.f3.params[j]? = some t → args[j]? = some v → Value.okWide Try.prog W .any base t v := hval0
  have hsz : (DataW.weightsEach Try.prog (Try.f3.params.toList ++ []) (ds ++ gs)).all (· ≤ reachBytes) = true := hsz0
  have hW' := hW
  obtain ⟨p, q, hA0, hV, rfl, hfz, hnd⟩ := hW
  have hA : DataW.TrodAll enc Try.prog W 0 (fun _ => true) true Try.f3.params.toList args.toList ds p := hA0
  rw [Try.params3] at hA hval hsz
  obtain ⟨v0, v1, d0, d1, p0, p1, rfl, rfl, rfl, h0, h1⟩ := trodAll_two hA
  obtain ⟨rfl, rfl⟩ := trodVars_none hV
  have hs0 : ∀ n ∈ d0.weights Try.prog 29, n ≤ reachBytes := fun n hn => by
    have h := List.all_eq_true.1 hsz n (DataW.weights_mem_each (j := 0) (t := 29) (d := d0) rfl rfl n hn)
    simpa using h
  obtain ⟨v, c, rfl, hat, hl⟩ := open_case (hval 0 29 v0 rfl rfl) h0 hs0
  obtain ⟨f, rfl, hf⟩ : ∃ f : Int, v1 = .int .i64 f ∧ -9223372036854775808 ≤ f ∧ f ≤ 9223372036854775807 := by
    obtain ⟨z, rfl⟩ := okWide_int Try.underlying3 (hval 1 3 v1 rfl rfl)
    obtain ⟨fu, hfu⟩ := h1
    obtain ⟨z', e, _, hw⟩ := DataW.trod_int Try.underlying3 hfu
    simp [Value.cells] at e
    subst e
    refine ⟨_, rfl, ?_⟩
    simp [Lit.wf, IntKind.min, IntKind.max, IntKind.signed, IntKind.bits] at hw
    omega
  have fin : ∀ e W', e = Ending.returned (.bool true) ∧ Below W.heap.size W W' → ∃ x, e = .returned x ∧ Rows.pickLeastSpec.post enc Try.prog Try.f3 false true false false W #[.agg (caseC v).toArray, .int .i64 f] x W' := by
    rintro e W' ⟨rfl, hb⟩
    exact ⟨_, rfl, law_end laidOut hW' rfl rfl (by kernel_rfl) Try.underlying4 (by kernel_rfl) hb⟩
  exact (pickLeast_any W v c hl hat f hf).mono fin
theorem pickLeast_holds : Rows.PickLeastSaid :=
  OpenClaim.holds_of_wide 3 Try.f3 rfl rfl rfl rfl rfl rfl rfl ⟨rfl, rfl, rfl, rfl, rfl⟩ rfl rfl rfl rfl rfl (by kernel_rfl) Try.func3 (by kernel_rfl)
    (of_decide_eq_true (by kernel_rfl)) (by unfold Func.isWrapper; first | (rw [if_pos (by decide +kernel)]; kernel_rfl) | (rw [if_neg (by decide +kernel)]; exact ⟨rfl, rfl⟩))
    (fun os started H enc _ => pickLeast_lifted os started H enc)
#print axioms pickLeast_holds
end Go.Proofs.Ytfppddnfdinipaa
end
