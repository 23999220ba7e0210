/- spencelaw01.CodeGets: two cursors side by side. What is plain of it. -/
import Derived.Test.YtjmenaplgndnnaaRefCur
import Derived.Test.YtjmenaplgndnnaaOver
import Derived.Test.YtjmenaplgndnnaaMakesA
namespace Go.Proofs.Ytjmenaplgndnnaa
open Go Go.RowKit
/-- two cursors, and a block of bytes apart from them -/
structure G2 (w wr : World) (R gc gr rbc rbr gi : Nat) (ic : Array Value) (c1 : Cu) (A1 : Option Addr) (k1 : Nat) (c2 : Cu) (A2 : Option Addr) (k2 : Nat) : Prop where
  c : CuAt wr gc 114 rbc c1 A1 k1
  r : CuAt wr gr 100 rbr c2 A2 k2
  bl : Below R w wr
  ib : Blk wr gi 5 ic
  n1 : 0 < c1.rest.length → rbc ≠ gr
  n2 : 0 < c2.rest.length → rbr ≠ gc
  gR : R ≤ gc
  grR : R ≤ gr
variable {w wr w2 : World} {R gc gr rbc rbr gi : Nat} {ic : Array Value} {c1 c1' c2 c2' : Cu} {A1 A2 A' : Option Addr} {k1 k2 k' : Nat}
theorem G2.ne (h : G2 w wr R gc gr rbc rbr gi ic c1 A1 k1 c2 A2 k2) : gc ≠ gr ∧ gi ≠ gc ∧ gi ≠ gr := ⟨h.c.blk.ne_ h.r.blk (by decide), h.ib.ne_ h.c.blk (by decide), h.ib.ne_ h.r.blk (by decide)⟩
theorem G2.below (h : G2 w wr R gc gr rbc rbr gi ic c1 A1 k1 c2 A2 k2) (hb : Below wr.heap.size wr w2) : G2 w w2 R gc gr rbc rbr gi ic c1 A1 k1 c2 A2 k2 :=
  ⟨h.c.below hb, h.r.below hb, h.bl.trans (hb.mono (by have := h.c.blk.lt; have := h.gR; omega)), h.ib.below hb h.ib.lt, h.n1, h.n2, h.gR, h.grR⟩
theorem G2.stepC (h : G2 w wr R gc gr rbc rbr gi ic c1 A1 k1 c2 A2 k2) (hc : CuAt w2 gc 114 rbc c1' A' k') (ht : Turned (· = gc) wr w2) (hle : c1'.rest.length ≤ c1.rest.length) : G2 w w2 R gc gr rbc rbr gi ic c1' A' k' c2 A2 k2 := by
  obtain ⟨m1, m2, m3⟩ := h.ne
  refine ⟨hc, h.r.turned ht (Ne.symm m1) fun h0 => h.n2 h0, h.bl.trans (ht.below (by have := h.c.blk.lt; have := h.gR; omega) fun k hk => by rw [hk]; exact h.gR), h.ib.turned ht m2, fun h0 => h.n1 (by omega), h.n2, h.gR, h.grR⟩
theorem G2.stepR (h : G2 w wr R gc gr rbc rbr gi ic c1 A1 k1 c2 A2 k2) (hc : CuAt w2 gr 100 rbr c2' A' k') (ht : Turned (· = gr) wr w2) (hle : c2'.rest.length ≤ c2.rest.length) : G2 w w2 R gc gr rbc rbr gi ic c1 A1 k1 c2' A' k' := by
  obtain ⟨m1, m2, m3⟩ := h.ne
  refine ⟨h.c.turned ht m1 fun h0 => h.n1 h0, hc, h.bl.trans (ht.below (by have := h.c.blk.lt; have := h.gR; omega) fun k hk => by rw [hk]; exact h.grR), h.ib.turned ht m3, h.n1, fun h0 => h.n2 (by omega), h.gR, h.grR⟩
/-- what lies behind all these turns -/
theorem G2.turned {S : Nat → Prop} (h : G2 w wr R gc gr rbc rbr gi ic c1 A1 k1 c2 A2 k2) (ht : Turned S wr w2) (N : Nat) (hN : gc < N ∧ gr < N ∧ gi < N ∧ (0 < c1.rest.length → rbc < N) ∧ (0 < c2.rest.length → rbr < N)) (hS : ∀ k, S k → N ≤ k) : G2 w w2 R gc gr rbc rbr gi ic c1 A1 k1 c2 A2 k2 := by
  obtain ⟨s1, s2, s3, s4, s5⟩ := hN
  have hn : ∀ b, b < N → ¬ S b := fun b hb h => by have := hS b h; omega
  exact ⟨h.c.turned ht (hn _ s1) fun h0 => hn _ (s4 h0), h.r.turned ht (hn _ s2) fun h0 => hn _ (s5 h0), h.bl.trans (ht.below (by have := h.c.blk.lt; have := h.gR; omega) fun k hk => by have := hS k hk; have := h.gR; omega), h.ib.turned ht (hn _ s3), h.n1, h.n2, h.gR, h.grR⟩
theorem G2.room (h : G2 w wr R gc gr rbc rbr gi ic c1 A1 k1 c2 A2 k2) : gc < wr.heap.size ∧ gr < wr.heap.size ∧ gi < wr.heap.size ∧ (0 < c1.rest.length → rbc < wr.heap.size) ∧ (0 < c2.rest.length → rbr < wr.heap.size) :=
  ⟨h.c.blk.lt, h.r.blk.lt, h.ib.lt, fun h0 => by obtain ⟨_, _, h1, _⟩ := h.c.rd h0; exact h1, fun h0 => by obtain ⟨_, _, h1, _⟩ := h.r.rd h0; exact h1⟩
theorem bytes_lent {w : World} {gi : Nat} {u : List UInt8} (hb : Blk w gi 5 (bv (u ++ marks)).toArray) : BytesAt w w.heap.size (.slice (some ⟨gi, 0, none⟩) u.length (u.length + 12)) u := by
  refine ⟨_, u.length + 12, rfl, by omega, fun _ => ⟨gi, 0, rfl, hb.lt, fun j hj => ?_⟩⟩
  rw [Nat.zero_add, hb.cell, List.getElem?_toArray, bvA, List.getElem?_append_left (by rw [bvL]; exact hj)]
  simp [bv, hj]
/-- the beginning of the document's cursor -/
theorem ref_begin {wr : World} {B gr : Nat} {A : Option Addr} {cap : Nat} {l : List UInt8} (hb : Blk wr gr 100 #[.slice A l.length cap, .int .i64 0]) (hby : BytesAt wr B (.slice A l.length cap) l) (hn : A = none → cap = 0) (hB : B ≤ gr) (hBw : B ≤ wr.heap.size) :
    ∃ rbr, CuAt wr gr 100 rbr ⟨l, 0⟩ A cap ∧ (0 < l.length → rbr < B) := by
  obtain ⟨A', cap', e, hc, hA⟩ := hby
  injection e with e1 e2 e3
  subst e1 e3
  by_cases h0 : 0 < l.length
  · obtain ⟨b, off, h1, h2, h3⟩ := hA h0
    exact ⟨b, ⟨hb, hc, hn, by omega, fun _ => ⟨off, h1, by omega, h3⟩⟩, fun _ => h2⟩
  · exact ⟨gr + 1, ⟨hb, hc, hn, by omega, fun h => absurd h h0⟩, fun h => absurd h h0⟩
end Go.Proofs.Ytjmenaplgndnnaa
