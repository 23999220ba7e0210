/- spencelaw01.CodeMakes: two makers side by side. What is plain of it. -/
import Derived.Test.YtjmenaplgndnnaaApartE
import Derived.Test.YtjmenaplgndnnaaPartsM
namespace Go.Proofs.Ytjmenaplgndnnaa
open Go Go.RowKit
theorem bytes_none0 (w : World) (B : Nat) : BytesAt w B (.slice none 0 0) [] := ⟨none, 0, rfl, Nat.le_refl _, fun h => absurd h (by simp)⟩
theorem mem_many {ls : List Part} {p : Part} (h : p ∈ ls) : p.b.length ≤ many ls := by
  induction ls with
  | nil => cases h
  | cons x xs ih =>
    simp only [many, List.map_cons, List.sum_cons] at ih ⊢
    rcases List.mem_cons.1 h with rfl | h
    · omega
    · have := ih h; omega
/-- two makers, and a block of bytes apart from them -/
structure Mk2 (w wr : World) (R g gr gi : Nat) (ic : Array Value) (l : List UInt8) (bad : Bool) (lr : List UInt8) (badr : Bool) (v vr : Value) : Prop where
  m : MkAt wr R g 30 l bad v
  r : MkAt wr R gr 33 lr badr vr
  apart : ∀ q, v.ownBlock = some q → vr.ownBlock ≠ some q
  bl : Below R w wr
  ib : Blk wr gi 5 ic
  vi : v.ownBlock ≠ some gi
  ri : vr.ownBlock ≠ some gi
  gR : R ≤ g
  grR : R ≤ gr
variable {w wr w2 : World} {R g gr gi : Nat} {ic : Array Value} {l l' : List UInt8} {bad bad' : Bool} {lr lr' : List UInt8} {badr badr' : Bool} {v v' vr vr' : Value}
theorem MkAt.keeps {base T : Nat} (h : MkAt wr base g T l bad v) (hg : w2.heap[g]? = wr.heap[g]?) (hv : ∀ q, v.ownBlock = some q → q < wr.heap.size → w2.heap[q]? = wr.heap[q]?) : MkAt w2 base g T l bad v :=
  ⟨hg.trans h.blk, owned_keep h.own hv⟩
theorem Mk2.below (h : Mk2 w wr R g gr gi ic l bad lr badr v vr) (hb : Below wr.heap.size wr w2) : Mk2 w w2 R g gr gi ic l bad lr badr v vr :=
  ⟨h.m.keeps (hb.block g h.m.blk.lt) fun q _ hq => hb.block q hq, h.r.keeps (hb.block gr h.r.blk.lt) fun q _ hq => hb.block q hq, h.apart, h.bl.trans (hb.mono (by have := h.m.blk.lt; have := h.gR; omega)), h.ib.below hb h.ib.lt, h.vi, h.ri, h.gR, h.grR⟩
theorem Mk2.ne (h : Mk2 w wr R g gr gi ic l bad lr badr v vr) : g ≠ gr ∧ gi ≠ g ∧ gi ≠ gr ∧ v.ownBlock ≠ some g ∧ v.ownBlock ≠ some gr ∧ vr.ownBlock ≠ some g ∧ vr.ownBlock ≠ some gr :=
  ⟨h.m.blk.ne_ h.r.blk (by decide), h.ib.ne_ h.m.blk (by decide), h.ib.ne_ h.r.blk (by decide), owned_ne h.m.own h.m.blk (by decide), owned_ne h.m.own h.r.blk (by decide), owned_ne h.r.own h.m.blk (by decide), owned_ne h.r.own h.r.blk (by decide)⟩
theorem Mk2.stepM (h : Mk2 w wr R g gr gi ic l bad lr badr v vr) (hm : MkAt w2 R g 30 l' bad' v') (ht : Turned (MkS g v) wr w2) (hmv : Moved wr v v') : Mk2 w w2 R g gr gi ic l' bad' lr badr v' vr := by
  obtain ⟨n1, n2, n3, n4, n5, n6, n7⟩ := h.ne
  have hs := ht.size
  have hgr : ∀ q, q < wr.heap.size → q ≠ g → v.ownBlock ≠ some q → w2.heap[q]? = wr.heap[q]? := fun q hq h1 h2 => ht.block q hq fun hS => by
    rcases hS with hS | hS
    · exact h1 hS
    · exact h2 hS
  refine ⟨hm, h.r.keeps (hgr gr h.r.blk.lt (Ne.symm n1) n5) fun q hq hlt => hgr q hlt (fun e => n6 (e ▸ hq)) (fun e => h.apart q e hq), fun q hq e => ?_, h.bl.trans (ht.below (by have := h.m.blk.lt; have := h.gR; omega) fun k hk => ?_), (hgr gi h.ib.lt n2 h.vi).trans h.ib, fun e => ?_, h.ri, h.gR, h.grR⟩
  · rcases hmv with h1 | ⟨x, h1, hx⟩
    · exact h.apart q (h1 ▸ hq) e
    · rw [h1] at hq
      injection hq with hq
      have := (owned_lt h.r.own e).2
      omega
  · rcases hk with rfl | hk
    · exact h.gR
    · exact (owned_lt h.m.own hk).1
  · rcases hmv with h1 | ⟨x, h1, hx⟩
    · exact h.vi (h1 ▸ e)
    · rw [h1] at e
      injection e with e
      have := h.ib.lt
      omega
theorem Mk2.stepR (h : Mk2 w wr R g gr gi ic l bad lr badr v vr) (hm : MkAt w2 R gr 33 lr' badr' vr') (ht : Turned (MkS gr vr) wr w2) (hmv : Moved wr vr vr') : Mk2 w w2 R g gr gi ic l bad lr' badr' v vr' := by
  obtain ⟨n1, n2, n3, n4, n5, n6, n7⟩ := h.ne
  have hs := ht.size
  have hgr : ∀ q, q < wr.heap.size → q ≠ gr → vr.ownBlock ≠ some q → w2.heap[q]? = wr.heap[q]? := fun q hq h1 h2 => ht.block q hq fun hS => by
    rcases hS with hS | hS
    · exact h1 hS
    · exact h2 hS
  refine ⟨h.m.keeps (hgr g h.m.blk.lt n1 n6) fun q hq hlt => hgr q hlt (fun e => n5 (e ▸ hq)) (h.apart q hq), hm, fun q hq e => ?_, h.bl.trans (ht.below (by have := h.m.blk.lt; have := h.gR; omega) fun k hk => ?_), (hgr gi h.ib.lt n3 h.ri).trans h.ib, h.vi, fun e => ?_, h.gR, h.grR⟩
  · rcases hmv with h1 | ⟨x, h1, hx⟩
    · exact h.apart q hq (h1 ▸ e)
    · rw [h1] at e
      injection e with e
      have := (owned_lt h.m.own hq).2
      omega
  · rcases hk with rfl | hk
    · exact h.grR
    · exact (owned_lt h.r.own hk).1
  · rcases hmv with h1 | ⟨x, h1, hx⟩
    · exact h.ri (h1 ▸ e)
    · rw [h1] at e
      injection e with e
      have := h.ib.lt
      omega
/-- other blocks turn -/
theorem Mk2.turned {S : Nat → Prop} (h : Mk2 w wr R g gr gi ic l bad lr badr v vr) (ht : Turned S wr w2) (h1 : ¬ S g) (h2 : ¬ S gr) (h3 : ∀ q, v.ownBlock = some q → ¬ S q) (h4 : ∀ q, vr.ownBlock = some q → ¬ S q) (h5 : ∀ k, S k → R ≤ k) :
    MkAt w2 R g 30 l bad v ∧ MkAt w2 R gr 33 lr badr vr ∧ Below R w w2 :=
  ⟨h.m.keeps (ht.block g h.m.blk.lt h1) fun q hq hlt => ht.block q hlt (h3 q hq), h.r.keeps (ht.block gr h.r.blk.lt h2) fun q hq hlt => ht.block q hlt (h4 q hq), h.bl.trans (ht.below (by have := h.m.blk.lt; have := h.gR; omega) h5)⟩
/-- what a loop's head knows of two makers -/
structure Mks (w wr : World) (R g gr : Nat) (l lr : List UInt8) (bad : Bool) (v vr : Value) (bound : Nat) : Prop where
  m : MkAt wr R g 30 l bad v
  r : MkAt wr R gr 33 lr bad vr
  same : bad = false → l = lr
  apart : ∀ q, v.ownBlock = some q → vr.ownBlock ≠ some q
  bl : Below R w wr
  gR : R ≤ g
  grR : R ≤ gr
  ll : l.length ≤ bound
  lr_ : lr.length ≤ bound
theorem Mks.with {bound : Nat} (h : Mks w wr R g gr l lr bad v vr bound) (hb : Below wr.heap.size wr w2) (hi : Blk w2 gi 5 ic) (hg : wr.heap.size ≤ gi) : Mk2 w w2 R g gr gi ic l bad lr bad v vr :=
  ⟨h.m.keeps (hb.block g h.m.blk.lt) fun q _ hq => hb.block q hq, h.r.keeps (hb.block gr h.r.blk.lt) fun q _ hq => hb.block q hq, h.apart, h.bl.trans (hb.mono (by have := h.m.blk.lt; have := h.gR; omega)), hi, fun e => by have := (owned_lt h.m.own e).2; omega, fun e => by have := (owned_lt h.r.own e).2; omega, h.gR, h.grR⟩
theorem num_same {n : Int} (h : bad = false → l = lr) : (mkNum l bad n).2 = (rNum lr bad n).2 ∧ ((mkNum l bad n).2 = false → (mkNum l bad n).1 = (rNum lr bad n).1) := by
  unfold mkNum rNum
  by_cases h1 : 0 ≤ n ∧ n ≤ 1099511627776
  · cases bad with
    | true => simp [h1]
    | false => simp [h1, h rfl]
  · simp [h1]
theorem text_same {u : List UInt8} (h : bad = false → l = lr) : (mkText l bad u).2 = (rText lr bad u).2 ∧ ((mkText l bad u).2 = false → (mkText l bad u).1 = (rText lr bad u).1) := by
  unfold mkText rText
  by_cases h1 : u.length ≤ 1048576
  · cases bad with
    | true => simp [h1]
    | false => simp [h1, h rfl]
  · simp [h1]
theorem num_bound {n : Int} : (mkNum l bad n).1.length ≤ l.length + 10 ∧ (rNum lr bad n).1.length ≤ lr.length + 10 := by
  unfold mkNum rNum
  by_cases h1 : 0 ≤ n ∧ n ≤ 1099511627776
  · have h2 := num_len n.toNat (by omega)
    rw [if_pos h1, if_pos h1]
    constructor
    · split
      · show l.length ≤ _; omega
      · show (l ++ num n.toNat).length ≤ _; rw [List.length_append]; omega
    · show (lr ++ num n.toNat).length ≤ _; rw [List.length_append]; omega
  · rw [if_neg h1, if_neg h1]
    exact ⟨by show l.length ≤ _; omega, by show lr.length ≤ _; omega⟩
theorem text_bound {u : List UInt8} : (mkText l bad u).1.length ≤ l.length + 10 + u.length ∧ (rText lr bad u).1.length ≤ lr.length + 10 + u.length := by
  unfold mkText rText
  by_cases h1 : u.length ≤ 1048576
  · have h2 := num_len u.length (by omega)
    rw [if_pos h1, if_pos h1]
    constructor
    · split
      · show l.length ≤ _; omega
      · show (l ++ num u.length ++ u).length ≤ _; rw [List.length_append, List.length_append]; omega
    · show (lr ++ num u.length ++ u).length ≤ _; rw [List.length_append, List.length_append]; omega
  · rw [if_neg h1, if_neg h1]
    exact ⟨by show l.length ≤ _; omega, by show lr.length ≤ _; omega⟩
/-- what is lent is a row of one's own -/
theorem own_lent {w : World} {R gi : Nat} {u : List UInt8} (hb : Blk w gi 5 (bv (u ++ marks)).toArray) (hR : R ≤ gi) (hu : u.length ≤ 1000000) : w.ownsRow R 5 1 (.slice (some ⟨gi, 0, none⟩) u.length (u.length + 12)) u.length (bv u) := by
  have hm : marks.length = 12 := by simp [marks]
  refine ⟨by rw [bvL]; omega, .inr ⟨gi, u.length + 12, _, rfl, hR, hb, by omega, by simp only [maxLen]; omega, ?_, ?_⟩⟩
  · rw [List.size_toArray, bvL, List.length_append, hm]; omega
  · rw [List.toList_toArray, bv_take, Nat.mul_one, List.take_left]
theorem src_lent {w : World} {gi : Nat} {u : List UInt8} (hb : Blk w gi 5 (bv (u ++ marks)).toArray) : Src w (some ⟨gi, 0, none⟩) u.length (u.length + 12) (bv u) :=
  ⟨bvL u, (by intro h; cases h), bv1 u, (by
    intro ad had j x hx
    injection had with had
    subst had
    have e : (⟨gi, 0, none⟩ : Addr).add j = ⟨gi, j, none⟩ := by unfold Addr.add; split <;> simp_all
    have hj : j < (bv u).length := (List.getElem?_eq_some_iff.1 hx).1
    rw [e, hb.cell, List.getElem?_toArray, bvA, List.getElem?_append_left hj]
    exact hx)⟩
def three {α : Type} (a b c : α) : Nat → α
  | 0 => a
  | 1 => b
  | _ => c
set_option maxHeartbeats 400000 in
theorem makes_apart {S na ca nc cc : Nat} {Aa Ac : Option Addr} {La Lc u : List UInt8} (h : Mk2 w wr R g gr gi (bv (u ++ marks)).toArray l bad lr bad v vr)
    (hS : g < S ∧ gr < S ∧ gi < S ∧ (∀ q, v.ownBlock = some q → q < S) ∧ (∀ q, vr.ownBlock = some q → q < S)) (_ : R ≤ S) (hRgi : R ≤ gi) (ha : wr.ownsRow S 5 1 (.slice Aa na ca) na (bv La)) (hc : wr.ownsRow S 5 1 (.slice Ac nc cc) nc (bv Lc))
    (hac : ∀ q, (Value.slice Aa na ca).ownBlock = some q → (Value.slice Ac nc cc).ownBlock ≠ some q) (hsa : na ≤ 1000000) (hsc : nc ≤ 1000000) (hsu : u.length ≤ 1000000) :
    Calls Try.prog 21 #[.slice (some ⟨wr.heap.size, 0, none⟩) 3 3] (wr.alloc (.cells #[.slice Aa na ca, .slice Ac nc cc, .slice (some ⟨gi, 0, none⟩) u.length (u.length + 12)] 26))
      fun e w' => e = .returned (.bool true) ∧ MkAt w' R g 30 l bad v ∧ MkAt w' R gr 33 lr bad vr ∧ Below R w w' := by
  obtain ⟨s1, s2, s3, s4, s5⟩ := hS
  obtain ⟨n1, n2, n3, n4, n5, n6, n7⟩ := h.ne
  obtain ⟨wq, hwq⟩ : ∃ wq, wq = wr.alloc (.cells #[.slice Aa na ca, .slice Ac nc cc, .slice (some ⟨gi, 0, none⟩) u.length (u.length + 12)] 26) := ⟨_, rfl⟩
  have hal : Below wr.heap.size wr wq := by rw [hwq]; exact (Below.refl _ _).alloc (Nat.le_refl _) _
  have hq : Blk wq wr.heap.size 26 #[.slice Aa na ca, .slice Ac nc cc, .slice (some ⟨gi, 0, none⟩) u.length (u.length + 12)] := by rw [hwq]; exact Blk.new _ _ _
  rw [← hwq]
  have hi := own_lent h.ib hRgi hsu
  have hb := fun (x : Value) (n : Nat) (l : List UInt8) (ho : wr.ownsRow S 5 1 x n (bv l)) => owned_base ho (base' := R) (fun q hq => by have := (owned_lt ho hq).1; omega)
  have hk := fun (x : Value) (n : Nat) (l : List UInt8) (ho : wr.ownsRow R 5 1 x n (bv l)) => owned_keep ho (w' := wq) (fun q _ hlt => hal.block q hlt)
  have hrow : Rows8 wq R wr.heap.size 3 (three (.slice Aa na ca) (.slice Ac nc cc) (.slice (some ⟨gi, 0, none⟩) u.length (u.length + 12))) (three na nc u.length) (three La Lc u) := by
    refine ⟨fun j hj => ?_, fun j hj => ?_⟩
    · match j, hj with
      | 0, _ => exact hk _ _ _ (hb _ _ _ ha)
      | 1, _ => exact hk _ _ _ (hb _ _ _ hc)
      | 2, _ => exact hk _ _ _ hi
    · match j, hj with
      | 0, _ => exact hq.cell 0
      | 1, _ => exact hq.cell 1
      | 2, _ => exact hq.cell 2
  have hba := fun q (hq : (Value.slice Aa na ca).ownBlock = some q) => (owned_lt ha hq)
  have hbc := fun q (hq : (Value.slice Ac nc cc).ownBlock = some q) => (owned_lt hc hq)
  have hpart : Parted wr.heap.size 3 (three (.slice Aa na ca) (.slice Ac nc cc) (.slice (some ⟨gi, 0, none⟩) u.length (u.length + 12))) (three na nc u.length) := by
    refine ⟨fun i j hi hj hne q h1 h2 => ?_, fun ⟨j, hj, h1⟩ => ?_, fun j hj => ?_⟩
    · match i, hi, j, hj, hne, h1, h2 with
      | 0, _, 0, _, hne, _, _ => exact hne rfl
      | 0, _, 1, _, _, h1, h2 => exact hac q h1 h2
      | 0, _, 2, _, _, h1, h2 => have := (hba q h1).1; injection h2 with h2; change gi = q at h2; omega
      | 1, _, 0, _, _, h1, h2 => exact hac q h2 h1
      | 1, _, 1, _, hne, _, _ => exact hne rfl
      | 1, _, 2, _, _, h1, h2 => have := (hbc q h1).1; injection h2 with h2; change gi = q at h2; omega
      | 2, _, 0, _, _, h1, h2 => have := (hba q h2).1; injection h1 with h1; change gi = q at h1; omega
      | 2, _, 1, _, _, h1, h2 => have := (hbc q h2).1; injection h1 with h1; change gi = q at h1; omega
      | 2, _, 2, _, hne, _, _ => exact hne rfl
    · match j, hj, h1 with
      | 0, _, h1 => have := (hba _ h1).2; omega
      | 1, _, h1 => have := (hbc _ h1).2; omega
      | 2, _, h1 => injection h1 with h1; change gi = _ at h1; have := h.ib.lt; omega
    · match j, hj with
      | 0, _ => exact hsa
      | 1, _ => exact hsc
      | 2, _ => exact hsu
  have hRS2 : ∀ q, RS 3 (three (.slice Aa na ca) (.slice Ac nc cc) (.slice (some ⟨gi, 0, none⟩) u.length (u.length + 12))) q → q = gi ∨ S ≤ q := by
    rintro q ⟨j, hj, h1⟩
    match j, hj, h1 with
    | 0, _, h1 => exact .inr (hba _ h1).1
    | 1, _, h1 => exact .inr (hbc _ h1).1
    | 2, _, h1 => injection h1 with h1; exact .inl h1.symm
  have hsz := hal.size
  refine (apartBytes_any R wr.heap.size 3 3 _ _ _ (by omega) (by omega) wq (by have := h.m.blk.lt; have := h.gR; omega) hq.lt hrow hpart).mono ?_
  rintro e w' ⟨rfl, ht⟩
  refine ⟨rfl, (h.below hal).turned ht (fun hx => ?_) (fun hx => ?_) (fun q hq hx => ?_) (fun q hq hx => ?_) (fun k hk => ?_)⟩
  · rcases hRS2 _ hx with h1 | h1
    · exact n2 h1.symm
    · omega
  · rcases hRS2 _ hx with h1 | h1
    · exact n3 h1.symm
    · omega
  · rcases hRS2 _ hx with h1 | h1
    · exact h.vi (h1 ▸ hq)
    · have := s4 q hq; omega
  · rcases hRS2 _ hx with h1 | h1
    · exact h.ri (h1 ▸ hq)
    · have := s5 q hq; omega
  · rcases hRS2 _ hk with h1 | h1 <;> omega
end Go.Proofs.Ytjmenaplgndnnaa
