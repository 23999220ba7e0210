/- package dev: the pending writes, the last one first: the iterator. package dev: what is read of a sector. package dev: a device of one's own, deed by deed; the chapter's example. spencelaw04: deeds in memory. spencelaw04: great, full; what settles of a sector. spenceref04: a device of the document, in memory; the small walks. spenceref04: a device is made; its fuse, its crash; what is kept is turned. a bit of a number, asked for in two ways. spenceref04: a write is kept; what flushes, what wakes. spenceref04: a write of the document's device. spenceref04: what is read of a sector. a bit is spoilt: the device's, the document's. spenceref04: a bit is spoilt; deeds of the document's device as one's own. spencekit: KeptBytes, SameBytes. spencekit: SameBytes. spencekit.OverBytes: what was told is written over. -/
import Derived.Test.YtfppddnfdinipaaMBK2
import Derived.RangeFuncNested
import Derived.RangeFuncBound
import Derived.RangeFuncCalls
import Derived.RangeFuncLeaves
import Derived.Shelf.Abstract
import Derived.OwnWalkIn
import Derived.TacticsInMore
import Derived.LoopNIn
import Derived.LoopIn
import Derived.RegionIn
import Derived.Shelf.RegionOpen
import Derived.Test.YtfppddnfdinipaaMBK1
import Derived.Deep.QuietTactic
import Derived.BigQuiet
section
namespace Go.Proofs.Ytfppddnfdinipaa
open Go Go.RowKit Go.Shelf
attribute [local go_sem] Oper.semAt_some
set_option maxRecDepth 100000 in
set_option maxHeartbeats 2000000 in
theorem latest1_in (F : Fence) (n : Nat) (h1 : F.fn 162) (hro : F.round = none) (hn : 1 ≤ n) (l Bd n₀ g m cp : Nat) (A : Option Addr) (rp : Nat) (hA : 0 < m → A = some ⟨rp, 0, none⟩) (hm : m ≤ 1000000) (hg : g < n₀) (hBd : Bd < n₀) (J Jx : List Nat → World → Prop)
    (hY : ∀ pre x W, J pre W → pre.length < m → YieldAt F (n - 1) Try.prog l #[.pointer (some ⟨rp, (m - 1 - x) * 65, none⟩)] W fun e W' =>
      (e = .returned (.bool true) ∧ J (pre ++ [x]) W' ∧ Below n₀ W W') ∨ (e = .returned (.bool false) ∧ Jx (pre ++ [x]) W'))
    (W : World) (hb : W.cell? ⟨Bd, 0, none⟩ = some (.pointer (some ⟨g, 0, none⟩))) (hc : W.cell? ⟨g, 4, none⟩ = some (.slice A m cp)) (h0 : J [] W) :
    CallsIn F n Try.prog 162 #[.func (.yield l) #[] #[], .pointer (some ⟨Bd, 0, none⟩)] W fun e W' => (∃ v, e = .returned v) ∧
      ((∃ ys, ys = List.range m ∧ J ys W') ∨ (∃ pre, (∃ k, k ≤ m ∧ pre = List.range k) ∧ Jx pre W')) := by
  refine callsIn_of_wp Try.func162 rfl h1 ?_ hro
  simp only [Try.ntmps162, List.size_toArray, List.length_cons, List.length_nil, Nat.reduceAdd, Nat.reduceSub, Array.replicate_succ, Array.replicate_zero, List.push_toArray, List.append_toArray, List.nil_append, List.cons_append]
  gi_wp2
  gi_loopw [3] (fun i wr => ∃ k : Nat, ((k = m ∧ i = .int .i64 (-1)) ∨ ∃ p : Nat, k + p + 1 = m ∧ i = .int .i64 (p : Int)) ∧ J (List.range k) wr ∧ Below n₀ W wr)
    (fun i _ => (intOf i + 1).toNat)
  case atStart =>
    refine ⟨0, ?_, h0, Below.refl _ _⟩
    rcases Nat.eq_zero_or_pos m with h | h
    · exact .inl ⟨h.symm, by rw [h]; rfl⟩
    · obtain ⟨q, rfl⟩ : ∃ q, m = q + 1 := ⟨m - 1, by omega⟩
      exact .inr ⟨q, by omega, by go_num⟩
  case round =>
    obtain ⟨k, hk, hJs, hnx⟩ := hrel
    rcases hk with ⟨rfl, rfl⟩ | ⟨p, hp, rfl⟩
    · gi_wp2
      go_end0
      exact ⟨⟨_, rfl⟩, .inl ⟨_, rfl, hJs⟩⟩
    · obtain ⟨fn, tmps, assign, body, hy, hR⟩ := hY (List.range k) k wr hJs (by rw [List.length_range]; omega)
      rw [show m - 1 - k = p by omega] at hy
      have hb' := (hnx.cell (p := ⟨Bd, 0, none⟩) hBd).trans hb
      have hc' := (hnx.cell (p := ⟨g, 4, none⟩) hg).trans hc
      obtain rfl := hA (by omega)
      have n1 : (0 : Int) ≤ (p : Int) := by omega
      have n2 : (p : Int) < (m : Int) := by omega
      gi_wp2
      refine hR.mono ?_
      rintro e W3 (⟨rfl, hJ3, hk3⟩ | ⟨rfl, hJx3⟩)
      · gi_wp2
        go_roundw
        case rel =>
          refine ⟨k + 1, ?_, by rw [List.range_succ]; exact hJ3, hnx.trans hk3⟩
          rcases Nat.eq_zero_or_pos p with rfl | h
          · exact .inl ⟨by omega, by go_num⟩
          · obtain ⟨q, rfl⟩ : ∃ q, p = q + 1 := ⟨p - 1, by omega⟩
            exact .inr ⟨q, by omega, by go_num⟩
        case measure => simp [intOf]
      · gi_wp2
        refine bodyPost_ret (results_none rfl _ _ _) rfl ?_
        exact ⟨⟨_, rfl⟩, .inr ⟨_, ⟨k + 1, by omega, (List.range_succ).symm⟩, hJx3⟩⟩
theorem latest_any (w : World) (g : Nat) : Calls Try.prog 127 #[.pointer (some ⟨g, 0, none⟩)] w fun e w' => e = .returned (.func (.func 162) #[] #[.pointer (some ⟨w.heap.size, 0, none⟩)]) ∧ w' = w.alloc (.cells #[.pointer (some ⟨g, 0, none⟩)] 69) := by
  go_enter Try.func127, Try.ntmps127
  go_wp2
  go_ret
  exact ⟨rfl, rfl⟩
/-- the pending writes, the last one first, as a loop is owed them -/
theorem latest_stops (F : Fence) (n : Nat) (h1 : F.fn 162) (hro : F.round = none) (hn : 1 ≤ n) (Bd n₀ g m cp : Nat) (A : Option Addr) (rp : Nat) (hA : 0 < m → A = some ⟨rp, 0, none⟩) (hm : m ≤ 1000000) (w : World) (hw : n₀ ≤ w.heap.size) (hg : g < n₀) (hBd : Bd < n₀)
    (hb : w.cell? ⟨Bd, 0, none⟩ = some (.pointer (some ⟨g, 0, none⟩))) (hc : w.cell? ⟨g, 4, none⟩ = some (.slice A m cp)) :
    SeqStopsK F n Try.prog 162 #[.pointer (some ⟨Bd, 0, none⟩)] (fun x : Nat => #[.pointer (some ⟨rp, (m - 1 - x) * 65, none⟩)]) (Below n₀) (fun ys => ys = List.range m) (fun pre => ∃ k, k ≤ m ∧ pre = List.range k) m w := fun l J Jx W hW _ _ hY h0 =>
  latest1_in F n h1 hro hn l Bd n₀ g m cp A rp hA hm hg hBd J Jx hY W ((hW.cell (p := ⟨Bd, 0, none⟩) (by show Bd < _; omega)).trans hb) ((hW.cell (p := ⟨g, 4, none⟩) (by show g < _; omega)).trans hc) h0
end Go.Proofs.Ytfppddnfdinipaa
end
section
namespace Go.Proofs.Ytfppddnfdinipaa
open Go Go.RowKit Go.Shelf
set_option maxRecDepth 100000 in
set_option maxHeartbeats 400000 in
theorem sclone_some (l : List UInt8) (hl : l.length ≤ 1099511627776) (ad : Addr) (cap : Nat) (w : World) (hs : Src w (some ad) l.length cap (bv l)) :
    Calls Try.prog 128 #[.slice (some ad) l.length cap] w fun e w' => ∃ v', e = .returned v' ∧ w'.ownsRow w.heap.size 5 1 v' l.length (bv l) ∧ Below w.heap.size w w' := by
  obtain ⟨i, hi, hz0, hz1, hz2⟩ := info_parts info_u8
  have HS := hide hs
  clear hs
  have hq := fun (w : World) (a : Option Addr) (n c : Nat) => Lib.run_eql_slice_nil (P := Try.prog) w 66 5 a n c 0 0 Try.underlying66
  go_enter Try.func128, Try.ntmps128
  have hown := owned_new w 5
  have HO := hide hown
  clear hown
  go_wp2_with (at_builtin; (refine wpList_app rfl _ _ 66 rfl w.heap.size 5 i (.int .u8 0) 1 Try.underlying66 hi hz0 hz1 hz2 rfl _ 0 [] HO.out (some ad) l.length cap (bv l) ?h0 ?h1 ?h2 ?h3 rfl rfl ?_))
  case h0 => exact HS.out.alloc _
  case h1 => simp only [maxLen]; omega
  case h2 => omega
  case h3 => rw [size_alloc]; omega
  intro v' w1 own1 gr1 _ _
  go_wp2_with fail
  go_ret
  refine ⟨v', rfl, by simpa using own1, ((Below.refl _ _).alloc (Nat.le_refl _) _).grown gr1 (by rw [size_alloc]; omega) ?_⟩
  intro k hk
  injection hk with hk
  change w.heap.size = k at hk
  omega
theorem sclone64 (l : List UInt8) (hl : l.length = 64) (ad : Addr) (w : World) (hs : Src w (some ad) 64 64 (bv l)) :
    Calls Try.prog 128 #[.slice (some ad) 64 64] w fun e w' => ∃ v', e = .returned v' ∧ w'.ownsRow w.heap.size 5 1 v' 64 (bv l) ∧ Below w.heap.size w w' := by
  have h := sclone_some l (by omega) ad 64 w (by rw [hl]; exact hs)
  rwa [hl] at h
/-- the last pending write of a sector -/
def lastL (L : List (Int × List UInt8)) (x : Int) : Option (List UInt8) := (L.reverse.find? fun p => p.1 == x).map (·.2)
def readL (K : List (List UInt8)) (L : List (Int × List UInt8)) (x : Nat) : List UInt8 := (lastL L (x : Int)).getD (K.getD x [])
/-- what has come of the pending writes, and is none of this sector's -/
def Seen (L : List (Int × List UInt8)) (x : Int) (k : Nat) : Prop := ∀ p, L[L.length - 1 - k]? = some p → p.1 ≠ x
theorem last_none {L : List (Int × List UInt8)} {x : Int} (h : ∀ k, k < L.length → Seen L x k) : lastL L x = none := by
  simp only [lastL, Option.map_eq_none_iff, List.find?_eq_none]
  intro p hp
  obtain ⟨k, hk, he⟩ := List.getElem_of_mem hp
  have hk2 : k < L.length := by simpa using hk
  have := h k hk2 p (by rw [← List.getElem?_reverse hk2, List.getElem?_eq_getElem hk, he])
  simpa using this
theorem last_some {L : List (Int × List UInt8)} {x : Int} {k : Nat} {p : Int × List UInt8} (hk : k < L.length) (h : ∀ j, j < k → Seen L x j) (hp : L[L.length - 1 - k]? = some p) (hx : p.1 = x) : lastL L x = some p.2 := by
  rw [← List.getElem?_reverse hk] at hp
  obtain ⟨hk', he⟩ := List.getElem?_eq_some_iff.1 hp
  have : L.reverse.find? (fun p => p.1 == x) = some p := by
    rw [List.find?_eq_some_iff_getElem]
    refine ⟨by simp [hx], k, hk', he, fun j hj => ?_⟩
    have hjl : j < L.length := by omega
    have := h j hj (L.reverse[j]'(by simp; omega)) (by rw [← List.getElem?_reverse hjl, List.getElem?_eq_getElem])
    simpa using this
  rw [lastL, this]
  rfl
theorem own_grown {w w' : World} {base n s : Nat} {e : TypeId} {v : Value} {xs : List Value} {row : Option Nat} (h : w.ownsRow base e s v n xs) (hg : w.grownBy w' row) (hr : ∀ r, row = some r → ∃ o : Obj, w.heap[r]? = some o ∧ o.isCells = false) : w'.ownsRow base e s v n xs := by
  refine owned_keepN h fun k hk hl => hg.block k hl fun e => ?_
  obtain ⟨o, ho, hc⟩ := hr k e.symm
  rcases owned_formN h with ⟨rfl, _⟩ | ⟨g, cap, cur, rfl, _, _, _, hb, _⟩
  · cases hk
  · have hk : some g = some k := hk
    injection hk with hk
    subst hk
    rw [show w.heap[g]? = _ from hb] at ho
    injection ho with ho
    subst ho
    cases hc
attribute [local go_sem] Oper.semAt_some
theorem keepsFrom_below {B : Nat} {W W' : World} (h : Below W.heap.size W W') : KeepsFrom B W W' := ⟨h.size, fun k _ _ hk _ => (h.block k (Array.getElem?_eq_some_iff.1 hk).1).trans hk⟩
set_option maxRecDepth 100000 in
set_option maxHeartbeats 2000000 in
theorem read_ok {g rk n c m : Nat} {vp : Value} {de fu : Int} (K : List (List UInt8)) (L : List (Int × List UInt8)) (x : Nat) (w : World) (hn : n ≤ 8192) (hm : m ≤ 1000000) (hx : x < n) (hKn : K.length = n) (hLm : L.length = m) (hK : ∀ b ∈ K, b.length = 64) (hL : ∀ p ∈ L, p.2.length = 64)
    (hb : Blk w g 150 (dv de fu false (.slice (some ⟨rk, 0, none⟩) n c) vp)) (hk : w.ownsRow 0 213 64 (.slice (some ⟨rk, 0, none⟩) n c) n (keptCells K)) (hp : w.ownsRow 0 215 65 vp m (pendCells L)) :
    Calls Try.prog 72 #[.pointer (some ⟨g, 0, none⟩), .int .i64 (x : Int)] w fun e w' => ∃ v, e = .returned (.tuple #[v, .int .i64 0]) ∧ w'.ownsRow w.heap.size 5 1 v 64 (bv (readL K L x)) ∧ Below w.heap.size w w' := by
  have hd : decide (0 ≤ (x : Int) ∧ (x : Int) < (n : Int)) = true := decide_eq_true (by omega)
  obtain ⟨A, cp, rfl⟩ : ∃ A cp, vp = .slice A m cp := by
    rcases owned_formN hp with ⟨h, h0, _⟩ | ⟨r, cap, _, h, _⟩
    · exact ⟨none, 0, by rw [h, h0]⟩
    · exact ⟨_, cap, h⟩
  obtain ⟨rp, hA⟩ : ∃ rp, 0 < m → A = some ⟨rp, 0, none⟩ := by
    rcases Nat.eq_zero_or_pos m with h | h
    · exact ⟨0, fun h2 => by omega⟩
    · obtain ⟨rp, cap', hvp⟩ := owned_placeN hp h
      injection hvp with e1 _ e2
      exact ⟨rp, fun _ => e1⟩
  have hlt := hb.lt
  have H := hide (And.intro hb (And.intro hk hp))
  have HN := hide (And.intro (And.intro hKn hLm) (And.intro hK hL))
  have HA := hide hA
  clear hb hk hp hKn hLm hK hL hA
  refine (callsIn_wide (n := 5)).1 ?_
  refine callsIn_of_wp_marks Try.func72 rfl trivial ?_ rfl
  simp only [Try.ntmps72, List.size_toArray, List.length_cons, List.length_nil, Nat.reduceAdd, Nat.reduceSub, Array.replicate_succ, Array.replicate_zero, List.push_toArray, List.append_toArray, List.nil_append, List.cons_append]
  refine wpIn_wide.2 ?_
  have b1 := ((Blk.new w 3 #[.int .i64 (x : Int)]).alloc (.cells #[.slice none 0 0] 66)).alloc (.cells #[.int .i64 0] 34)
  have b2 := (Blk.new (w.alloc (.cells #[.int .i64 (x : Int)] 3)) 66 #[.slice none 0 0]).alloc (.cells #[.int .i64 0] 34)
  have b3 := Blk.new ((w.alloc (.cells #[.int .i64 (x : Int)] 3)).alloc (.cells #[.slice none 0 0] 66)) 34 #[.int .i64 0]
  have hB0 : Below w.heap.size w (((w.alloc (.cells #[.int .i64 (x : Int)] 3)).alloc (.cells #[.slice none 0 0] 66)).alloc (.cells #[.int .i64 0] 34)) := (((Below.refl _ w).alloc (Nat.le_refl _) _).alloc (by simp) _).alloc (by simp; omega) _
  have hdv := H.out.1.below hB0 hlt
  simp only [size_alloc] at b2 b3
  have H1 := hide (And.intro hdv (And.intro hB0 (And.intro b1 (And.intro b2 b3))))
  have c1 := b1.cell 0
  clear b1 b2 b3 hdv hB0
  go_wp2_with fail
  refine (able_any _ H1.out.1).mono ?_
  rintro e w' ⟨rfl, hw'⟩
  rw [if_neg (by simp)]
  have H2 : Hid (Blk w' g 150 (dv de fu false (.slice (some ⟨rk, 0, none⟩) n c) (.slice A m cp)) ∧ Below w.heap.size w w' ∧ Blk w' w.heap.size 3 #[.int .i64 (x : Int)] ∧ Blk w' (w.heap.size + 1) 66 #[.slice none 0 0] ∧ Blk w' (w.heap.size + 1 + 1) 34 #[.int .i64 0] ∧ w'.heap.size = w.heap.size + 1 + 1 + 1) := hide (by
    rw [hw']
    have h := H1.out
    exact ⟨h.1, h.2.1, h.2.2.1, h.2.2.2.1, h.2.2.2.2, by simp⟩)
  have c1 := H2.out.2.2.1.cell 0
  clear hw' H1
  dsimp only
  go_wp2_with fail
  refine (has_any _ hn (x : Int) (by omega) H2.out.1).mono ?_
  rintro e w1 ⟨rfl, rfl⟩
  rw [hd]
  dsimp only
  go_wp2_with fail
  refine (latest_any _ g).mono ?_
  rintro e W0 ⟨rfl, hW0⟩
  dsimp only
  have hbB : Blk W0 w1.heap.size 69 #[.pointer (some ⟨g, 0, none⟩)] := by rw [hW0]; exact Blk.new _ _ _
  have hb10 : Below w1.heap.size w1 W0 := by rw [hW0]; exact (Below.refl _ _).alloc (Nat.le_refl _) _
  have hs0 : W0.heap.size = w.heap.size + 1 + 1 + 1 + 1 := by rw [hW0, size_alloc, H2.out.2.2.2.2.2]
  clear hW0
  have cg4 : W0.cell? ⟨g, 4, none⟩ = some (.slice A m cp) := ((H2.out.1.below hb10 H2.out.1.lt).cell 4).trans (dv4 ..)
  have hB1 : Below w.heap.size w W0 := H2.out.2.1.trans (Below.mono hb10 (by rw [H2.out.2.2.2.2.2]; omega))
  have hI0 : (∀ y ∈ ([] : List Nat), Seen L (x : Int) y) ∧ W0.cell? ⟨w.heap.size, 0, none⟩ = some (.int .i64 (x : Int)) ∧ (W0.cell? ⟨w.heap.size + 1, 0, none⟩ = some (.slice none 0 0) ∧ W0.frozen? ⟨w.heap.size + 1, 0, none⟩ = false) ∧ W0.cell? ⟨w.heap.size + 1 + 1, 0, none⟩ = some (.int .i64 0) ∧ W0.frozen? ⟨w.heap.size + 1 + 1, 0, none⟩ = false := by
    have h1 := H2.out.2.2.1.below hb10 H2.out.2.2.1.lt
    have h2 := H2.out.2.2.2.1.below hb10 H2.out.2.2.2.1.lt
    have h3 := H2.out.2.2.2.2.1.below hb10 H2.out.2.2.2.2.1.lt
    exact ⟨by simp, h1.cell 0, ⟨h2.cell 0, h2.frozen 0⟩, h3.cell 0, h3.frozen 0⟩
  have hlt1 : w1.heap.size < W0.heap.size := hbB.lt
  have hg0 : g < W0.heap.size := by have := hB1.size; omega
  have HI := hide (And.intro hI0 hB1)
  have HLN : L.length = m := HN.out.1.2
  have HS := hide hs0
  go_wp2_with fail
  refine (wpIn_wide (n := 5)).1 ?_
  refine wpIn_rangeFunc_ownG (F := Fence.wide) (n := 5) (α := Nat) rfl (by omega) (gf := 162) (lb := #[.pointer (some ⟨w1.heap.size, 0, none⟩)]) rfl trivial (enters_of Try.func162 (by kernel_rfl) rfl)
    (latest_stops Fence.wide 4 trivial rfl (by omega) w1.heap.size W0.heap.size g m cp A rp HA.out hm W0 (Nat.le_refl _) hg0 hlt1 (hbB.cell 0) cg4) belowK_t (belowK_b (Nat.le_refl _)) (Below.refl _ _) (fun _ => rfl)
    (fun pre W => ((∀ y ∈ pre, Seen L (x : Int) y) ∧ W.cell? ⟨w.heap.size, 0, none⟩ = some (.int .i64 (x : Int)) ∧ (W.cell? ⟨w.heap.size + 1, 0, none⟩ = some (.slice none 0 0) ∧ W.frozen? ⟨w.heap.size + 1, 0, none⟩ = false) ∧ W.cell? ⟨w.heap.size + 1 + 1, 0, none⟩ = some (.int .i64 0) ∧ W.frozen? ⟨w.heap.size + 1 + 1, 0, none⟩ = false) ∧ Below w.heap.size w W)
    (fun c pre W => (c = .ret ∧ ∃ ini last, pre = ini ++ [last] ∧ (∀ y ∈ ini, Seen L (x : Int) y) ∧ ∃ b, L[L.length - 1 - last]? = some ((x : Int), b) ∧ ∃ v, W.cell? ⟨w.heap.size + 1, 0, none⟩ = some v ∧ W.ownsRow w.heap.size 5 1 v 64 (bv b) ∧ W.cell? ⟨w.heap.size + 1 + 1, 0, none⟩ = some (.int .i64 0)) ∧ Below w.heap.size w W)
    (OwnFrom.and (Own.from (fun s A B row hs hg hr => ⟨hs.1, cell_kept hs.2.1 hg hr, ⟨cell_kept hs.2.2.1.1 hg hr, (frozen_kept hs.2.2.1.1 hg hr).trans hs.2.2.1.2⟩, cell_kept hs.2.2.2.1 hg hr, (frozen_kept hs.2.2.2.1 hg hr).trans hs.2.2.2.2⟩) _) (ownFrom_below (Nat.le_refl _) (by rw [HS.out]; omega)))
    (fun c => OwnFrom.and (Own.from (fun s A B row hs hg hr => by obtain ⟨hc, ini, last, e1, e2, p, e3, v, e5, e6, e7⟩ := hs; exact ⟨hc, ini, last, e1, e2, p, e3, v, cell_kept e5 hg hr, own_grown e6 hg hr, cell_kept e7 hg hr⟩) _) (ownFrom_below (Nat.le_refl _) (by rw [HS.out]; omega)))
    HI.out
    (fun y => { tmps := #[Value.pointer (some ⟨g, 0, none⟩), Value.int .i64 (x : Int), undef, Value.pointer (some ⟨w.heap.size, 0, none⟩), Value.pointer (some ⟨w.heap.size + 1, 0, none⟩), Value.pointer (some ⟨w.heap.size + 1 + 1, 0, none⟩), Value.int .i64 0, Value.pointer (some ⟨rp, (m - 1 - y) * 65, none⟩), Value.pointer (some ⟨g, 0, none⟩), Value.int .i64 0, Value.int .i64 0, Value.bool false, undef, Value.pointer (some ⟨g, 0, none⟩), Value.int .i64 (x : Int), Value.bool true, Value.bool false, Value.pointer (some ⟨g, 0, none⟩), Value.func (Fn.func 162) #[] #[.pointer (some ⟨w1.heap.size, 0, none⟩)], Value.pointer (some ⟨rp, (m - 1 - y) * 65, none⟩), undef, undef, undef, undef, undef, undef, undef, undef, undef, undef, undef, undef, undef, undef, undef, undef, undef, undef, undef], defers := [] }) ?assign ?body ?done ?stop
  case assign =>
    intro l y W K hK
    gi_wp2
    exact hK
  case body =>
    rintro l pre y W ⟨⟨hse, hcx, ⟨hc4, hf4⟩, hc5, hf5⟩, hB⟩ hlen
    have hm0 : 0 < m := by omega
    obtain rfl := HA.out hm0
    have hpr : W.ownsRow 0 215 65 (.slice (some ⟨rp, 0, none⟩) m cp) m (pendCells L) := owned_keepN H.out.2.2 fun k _ hl => hB.block k hl
    obtain ⟨p, hpj⟩ : ∃ p, L[m - 1 - y]? = some p := ⟨L[m - 1 - y]'(by omega), List.getElem?_eq_getElem _⟩
    have hp64 : p.2.length = 64 := HN.out.2.2 p (List.mem_of_getElem? hpj)
    obtain ⟨q, hq⟩ : ∃ q, q = (m - 1 - y) * 65 := ⟨_, rfl⟩
    have hrange : W.rangeAt rp q (sh p.1 p.2) := own_range hpr q 65 _ (by rw [hq]; exact pend_at L (m - 1 - y) p HN.out.2.2 hpj)
    have hcat : W.cell? ⟨rp, q, none⟩ = some (.int .i64 p.1) := hrange 0 _ rfl
    have hsrc : Src W (some ⟨rp, q + 1, none⟩) p.2.length 64 (bv p.2) := ⟨bvL _, (fun h => (by cases h)), bv1 _, fun ad had j u hu => by
      injection had with had
      subst had
      rw [Addr.add_mid, Nat.add_assoc]
      refine hrange (1 + j) u ?_
      rw [Nat.add_comm]
      simpa [sh, hp64] using hu⟩
    rw [hp64] at hsrc
    have HSR : Hid (Src W.drew (some ⟨rp, q + 1, none⟩) 64 64 (bv p.2)) := hide ⟨hsrc.len, hsrc.none_, hsrc.one, hsrc.cells⟩
    have HP := hide hpj
    have HSE := hide hse
    have HBB := hide hB
    have HQ := hide hq
    clear hsrc hrange hpj hpr hse hB hI0 hB1 HI hb10 hbB H2
    dsimp only
    rw [← hq]
    clear hq
    have hbW := HBB.out.size
    gi_wp2
    gi_region
    all_goals gi_wp2_with fail
    all_goals first
      | (refine ⟨trivial, (CallsIn.inRound l (callsIn_wide.2 (sclone64 p.2 hp64 ⟨rp, q + 1, none⟩ W.drew HSR.out))).mono ?_⟩
         rintro e w3 ⟨v, rfl, ho3, hb3⟩
         obtain ⟨k3, cap3, hv3⟩ := owned_placeN ho3 (by omega)
         subst hv3
         have hbW3 : Below W.heap.size W w3 := ⟨hb3.os, hb3.tape, hb3.output, hb3.size, hb3.block⟩
         have c4' := (hb3.cell (p := ⟨w.heap.size + 1, 0, none⟩) (World.block_lt_of_cell? W _ hc4)).trans hc4
         have f4' := (hb3.frozen (p := ⟨w.heap.size + 1, 0, none⟩) (World.block_lt_of_cell? W _ hc4)).trans hf4
         have c5' := (hb3.cell (p := ⟨w.heap.size + 1 + 1, 0, none⟩) (World.block_lt_of_cell? W _ hc5)).trans hc5
         have f5' := (hb3.frozen (p := ⟨w.heap.size + 1 + 1, 0, none⟩) (World.block_lt_of_cell? W _ hc5)).trans hf5
         have h4 := World.block_lt_of_cell? W _ hc4
         have h5 := World.block_lt_of_cell? W _ hc5
         have hk3 : W.heap.size ≤ k3 := (owned_ltN ho3 rfl).1
         have H3 := hide (And.intro ho3 (And.intro hbW3 (And.intro h4 h5)))
         clear ho3 hb3 hbW3 h4 h5
         have hpx : (p.1 == (x : Int)) = true := by assumption
         dsimp only
         gi_wp2
         obtain ⟨ho3, hbW3, h4, h5⟩ := H3.out
         refine ⟨((keepsFrom_below hbW3).trans ((KeepsOthers.setCell _ _ _).from _)).trans ((KeepsOthers.setCell _ _ _).from _), ⟨rfl, pre, y, rfl, HSE.out, p.2, by rw [HP.out, ← eq_of_beq hpx], .slice (some ⟨k3, 0, none⟩) 64 cap3, ?_, ?_, ?_⟩, ?_⟩
         · rw [World.cell?_setCell_other _ _ _ _ (fun e => by simp at e)]
           exact World.cell?_setCell_same' _ _ _ (by rw [c4']; rfl)
         · refine owned_baseN (owned_keepN ho3 fun k hk _ => ?_) (fun k hk => ?_)
           · have hk : some k3 = some k := hk
             injection hk with hk
             rw [Below.heap_setCell _ ⟨w.heap.size + 1 + 1, 0, none⟩ _ k (fun e => by have e : k = w.heap.size + 1 + 1 := e; have h5 : w.heap.size + 1 + 1 < W.heap.size := h5; omega), Below.heap_setCell _ ⟨w.heap.size + 1, 0, none⟩ _ k (fun e => by have e : k = w.heap.size + 1 := e; have h4 : w.heap.size + 1 < W.heap.size := h4; omega)]
           · have hk : some k3 = some k := hk
             injection hk with hk
             omega
         · exact World.cell?_setCell_same' _ _ _ (by rw [World.cell?_setCell_other _ _ _ _ (fun e => by simp at e), c5']; rfl)
         · exact ((HBB.out.trans (Below.mono hbW3 hbW)).setCell (by show w.heap.size ≤ w.heap.size + 1; omega) _).setCell (by show w.heap.size ≤ w.heap.size + 1 + 1; omega) _)
      | (have hpx : (p.1 == (x : Int)) = false := by assumption
         refine ⟨(KeepsOthers.drew W).from _, (Below.refl _ W).drew, ⟨fun z hz => ?_, hcx, ⟨hc4, hf4⟩, hc5, hf5⟩, HBB.out.drew⟩
         rcases List.mem_append.1 hz with hz | hz
         · exact HSE.out z hz
         · obtain rfl := List.mem_singleton.1 hz
           intro p' hp' e
           rw [HLN, HP.out] at hp'
           injection hp' with hp'
           subst hp'
           rw [e] at hpx
           simp at hpx)
  case done =>
    rintro D ys W hD rfl ⟨⟨hse, hcx, ⟨hc4, hf4⟩, hc5, hf5⟩, hB⟩ hK
    have HSE := hide hse
    have HBB := hide hB
    clear hse hB hI0 hB1 HI hb10 hbB
    obtain ⟨b0, hkb⟩ : ∃ b, K[x]? = some b := ⟨K[x]'(by have := HN.out.1.1; omega), List.getElem?_eq_getElem _⟩
    have hb64 : b0.length = 64 := HN.out.2.1 b0 (List.mem_of_getElem? hkb)
    have hdv : Blk W g 150 (dv de fu false (.slice (some ⟨rk, 0, none⟩) n c) (.slice A m cp)) := H.out.1.below HBB.out hlt
    have hkr : W.ownsRow 0 213 64 (.slice (some ⟨rk, 0, none⟩) n c) n (keptCells K) := owned_keepN H.out.2.1 fun j _ hl => HBB.out.block j hl
    have hr : readL K L x = b0 := by
      unfold readL
      rw [last_none (fun k hk => HSE.out k (List.mem_range.2 (by omega)))]
      simp [List.getD, hkb]
    have HR := hide (And.intro hdv (And.intro hkr (And.intro hr hkb)))
    clear hdv hkr hr hkb
    go_wp2_with fail
    let V38 : Value → World → Prop := fun u W' => ∃ k cap, u = .slice (some ⟨k, 0, none⟩) 64 cap ∧ W.heap.size ≤ k ∧ W'.ownsRow W.heap.size 5 1 u 64 (bv b0)
    have hL : ∀ p ∈ ([(38, V38)] : MadeL), MadeOk p.2 := by
      intro p hp
      obtain rfl := List.mem_singleton.1 hp
      refine ⟨?_, ?_⟩
      · rintro u W1 W2 ⟨k, cap, rfl, h1, h2⟩ hx2
        exact ⟨k, cap, rfl, h1, owned_keepN h2 fun j _ hl => hx2.block j hl⟩
      · rintro u W1 ⟨k, cap, rfl, h1, h2⟩
        exact ⟨k, rfl, (owned_ltN h2 rfl).2⟩
    refine wp_made 8 [(38, V38)] (by kernel_rfl) (by kernel_rfl) hL (by simp) (by simp) ?_
    simp only [List.take_succ_cons, List.take_zero, List.drop_succ_cons, List.drop_zero]
    refine made_val (.pointer (some ⟨g, 0, none⟩)) (by kernel_rfl) (by kernel_rfl) (by kernel_rfl) (fun _ _ => by kernel_rfl) ?_
    simp only [Act.put, List.setIfInBounds_toArray, List.set_cons_zero, List.set_cons_succ]
    refine made_val (.pointer (some ⟨g, 0, none⟩)) (by kernel_rfl) (by kernel_rfl) (by kernel_rfl) (fun _ _ => by kernel_rfl) ?_
    simp only [Act.put, List.setIfInBounds_toArray, List.set_cons_zero, List.set_cons_succ]
    refine made_val (.pointer (some ⟨g, 3, none⟩)) (by kernel_rfl) (by kernel_rfl) (by kernel_rfl) (fun _ _ => by kernel_rfl) ?_
    simp only [Act.put, List.setIfInBounds_toArray, List.set_cons_zero, List.set_cons_succ]
    refine made_val (.slice (some ⟨rk, 0, none⟩) n c) (by kernel_rfl) (by kernel_rfl) (by kernel_rfl) (fun W2 hW => exec_load_slice (o := ⟨some 34, _, _, _, _, _⟩) 145 213 (.tmp 33) rfl ⟨g, 3, none⟩ rfl _ W2 Try.underlying145 (((HR.out.1.below hW HR.out.1.lt).cell 3).trans (dv3 ..))) ?_
    simp only [Act.put, List.setIfInBounds_toArray, List.set_cons_zero, List.set_cons_succ]
    refine made_val (.int .i64 (x : Int)) (by kernel_rfl) (by kernel_rfl) (by kernel_rfl) (fun W2 hW => exec_load_cell (o := ⟨some 35, _, _, _, _, _⟩) 3 (.tmp 3) rfl ⟨w.heap.size, 0, none⟩ rfl _ _ W2 Try.underlying3 rfl ((hW.cell (p := ⟨w.heap.size, 0, none⟩) (World.block_lt_of_cell? W _ hcx)).trans hcx)) ?_
    simp only [Act.put, List.setIfInBounds_toArray, List.set_cons_zero, List.set_cons_succ]
    refine made_val (.pointer (some ⟨rk, (x : Int).toNat * 64, none⟩)) (by kernel_rfl) (by kernel_rfl) (by kernel_rfl) (fun W2 _ => exec_index (o := ⟨some 36, _, _, _, _, _⟩) 145 213 (.tmp 34) (.tmp 35) rfl rk n c (x : Int) .i64 rfl rfl ⟨by omega, by omega⟩ 64 Try.underlying145 sz_sect W2) ?_
    simp only [Act.put, List.setIfInBounds_toArray, List.set_cons_zero, List.set_cons_succ]
    rw [show (x : Int).toNat = x from Int.toNat_natCast x]
    refine made_val (.slice (some ⟨rk, x * 64, none⟩) 64 64) (by kernel_rfl) (by kernel_rfl) (by kernel_rfl) (fun _ _ => by kernel_rfl) ?_
    simp only [Act.put, List.setIfInBounds_toArray, List.set_cons_zero, List.set_cons_succ]
    refine made_newcall 38 V38 128 #[.slice (some ⟨rk, x * 64, none⟩) 64 64] hL (by kernel_rfl) (by kernel_rfl) rfl rfl (fun _ => by kernel_rfl) (fun W2 hW => ?hcl) ?_
    case hcl =>
      have hs2 : Src W2 (some ⟨rk, x * 64, none⟩) 64 64 (bv b0) := ⟨by rw [bvL, hb64], (fun h => (by cases h)), bv1 b0, fun ad had j u hu => by
        injection had with had
        subst had
        rw [Addr.add_mid]
        exact own_range (owned_keepN HR.out.2.1 fun j _ hl => hW.block j hl) (x * 64) 64 _ (kept_at K x b0 HN.out.2.1 HR.out.2.2.2) j u hu⟩
      refine (sclone64 b0 hb64 _ W2 hs2).mono ?_
      rintro e W3 ⟨v, rfl, ho, hb3⟩
      obtain ⟨k, cap, hv⟩ := owned_placeN ho (by omega)
      have hk := (owned_ltN ho (g := k) (by rw [hv]; rfl)).1
      have hsz : W.heap.size ≤ W2.heap.size := hW.size
      exact ⟨v, k, rfl, hb3, ⟨k, cap, hv, by omega, owned_baseN ho fun j hj => by have := (owned_ltN ho hj).1; omega⟩, by rw [hv]; rfl, hk⟩
    simp only [Act.put, List.setIfInBounds_toArray, List.set_cons_zero, List.set_cons_succ]
    show ∀ w', _ → _
    intro W4 hb4
    simp only [ended]
    rintro u ⟨k, cap, rfl, hk, ho⟩ _
    simp only [Act.put, List.setIfInBounds_toArray, List.set_cons_zero, List.set_cons_succ]
    have hb4 : Below W.heap.size W W4 := hb4
    have c4' := (hb4.cell (p := ⟨w.heap.size + 1, 0, none⟩) (World.block_lt_of_cell? W _ hc4)).trans hc4
    have f4' := (hb4.frozen (p := ⟨w.heap.size + 1, 0, none⟩) (World.block_lt_of_cell? W _ hc4)).trans hf4
    have c5' := (hb4.cell (p := ⟨w.heap.size + 1 + 1, 0, none⟩) (World.block_lt_of_cell? W _ hc5)).trans hc5
    have f5' := (hb4.frozen (p := ⟨w.heap.size + 1 + 1, 0, none⟩) (World.block_lt_of_cell? W _ hc5)).trans hf5
    have h4 : w.heap.size + 1 < W.heap.size := World.block_lt_of_cell? W _ hc4
    have h5 : w.heap.size + 1 + 1 < W.heap.size := World.block_lt_of_cell? W _ hc5
    have HO := hide ho
    have HB4 := hide hb4
    clear ho hb4
    go_wp2_with fail
    have hDW : D < W.heap.size := (Array.getElem?_eq_some_iff.1 hK).1
    have hK4 : W4.heap[D]? = some (.deferred (some [])) := (HB4.out.block D hDW).trans hK
    obtain ⟨w5, hw5⟩ : ∃ w5, w5 = (W4.setCell ⟨w.heap.size + 1, 0, none⟩ (.slice (some ⟨k, 0, none⟩) 64 cap)).setCell ⟨w.heap.size + 1 + 1, 0, none⟩ (.int .i64 0) := ⟨_, rfl⟩
    have hK5 : w5.heap[D]? = some (.deferred (some [])) := by rw [hw5]; exact (KeepsOthers.setCell _ _ _).same D _ ((KeepsOthers.setCell _ _ _).same D _ hK4 rfl) rfl
    have hc4' : w5.cell? ⟨w.heap.size + 1, 0, none⟩ = some (.slice (some ⟨k, 0, none⟩) 64 cap) := by
      rw [hw5, World.cell?_setCell_other _ _ _ _ (fun e => by simp at e)]
      exact World.cell?_setCell_same' _ _ _ (by rw [c4']; rfl)
    have hc5' : w5.cell? ⟨w.heap.size + 1 + 1, 0, none⟩ = some (.int .i64 0) := by
      rw [hw5]
      exact World.cell?_setCell_same' _ _ _ (by rw [World.cell?_setCell_other _ _ _ _ (fun e => by simp at e), c5']; rfl)
    have ho5 : w5.ownsRow w.heap.size 5 1 (.slice (some ⟨k, 0, none⟩) 64 cap) 64 (bv b0) := by
      rw [hw5]
      refine owned_baseN (owned_keepN HO.out fun j hj _ => ?_) (fun j hj => ?_)
      · have hj : some k = some j := hj
        injection hj with hj
        rw [Below.heap_setCell _ ⟨w.heap.size + 1 + 1, 0, none⟩ _ j (fun e => by have e : j = w.heap.size + 1 + 1 := e; omega), Below.heap_setCell _ ⟨w.heap.size + 1, 0, none⟩ _ j (fun e => by have e : j = w.heap.size + 1 := e; omega)]
      · have hj : some k = some j := hj
        injection hj with hj
        omega
    have hB5 : Below w.heap.size w w5 := by
      rw [hw5]
      exact ((HBB.out.trans (Below.mono HB4.out HBB.out.size)).setCell (by show w.heap.size ≤ w.heap.size + 1; omega) _).setCell (by show w.heap.size ≤ w.heap.size + 1 + 1; omega) _
    rw [← hw5]
    clear hw5
    refine ⟨by simp, .inl ⟨_, _, rfl, run_takeDeferred hK5, ?_⟩⟩
    have hc6 := cell_kept hc4' (grownBy_putObj' _ D (.deferred none)) (fun r e => by cases e; exact ⟨_, hK5, rfl⟩)
    have hc7 := cell_kept hc5' (grownBy_putObj' _ D (.deferred none)) (fun r e => by cases e; exact ⟨_, hK5, rfl⟩)
    refine ⟨.tuple #[.slice (some ⟨k, 0, none⟩) 64 cap, .int .i64 0], ?_, _, rfl, ?_, ?_⟩
    · simp [results, Try.f72, go_sem, hc6, hc7]
    · rw [HR.out.2.2.1]
      exact own_grown ho5 (grownBy_putObj' _ D (.deferred none)) (fun r e => by cases e; exact ⟨_, hK5, rfl⟩)
    · exact hB5.trans (belowK_b (w := w) (Nat.le_refl _) w5 D _ _ (by omega) hK5 rfl rfl)
  case stop =>
    rintro D c' pre W hD ⟨k, hk, rfl⟩ ⟨⟨rfl, ini, last, e1, e2, b, e3, v, hc4, ho, hc5⟩, hB⟩ hK
    refine wpIn_wide.2 ?_
    have HO := hide ho
    have HBB := hide hB
    have HE := hide (And.intro e1 (And.intro e2 e3))
    clear ho hB e1 e2 e3 hI0 hB1 HI hb10 hbB
    go_wp2_with fail
    refine ⟨by simp, .inl ⟨_, _, rfl, run_takeDeferred hK, ?_⟩⟩
    have hc4' := cell_kept hc4 (grownBy_putObj' _ D (.deferred none)) (fun r e => by cases e; exact ⟨_, hK, rfl⟩)
    have hc5' := cell_kept hc5 (grownBy_putObj' _ D (.deferred none)) (fun r e => by cases e; exact ⟨_, hK, rfl⟩)
    obtain ⟨e1, e2, e3⟩ := HE.out
    obtain ⟨k', rfl⟩ : ∃ k', k = k' + 1 := by
      cases k with
      | zero => simp at e1
      | succ k' => exact ⟨k', rfl⟩
    rw [List.range_succ] at e1
    obtain ⟨rfl, e5⟩ := List.append_inj' e1 rfl
    obtain rfl : k' = last := by simpa using e5
    have hr : readL K L x = b := by
      unfold readL
      rw [last_some (by omega) (fun j hj => e2 j (List.mem_range.2 hj)) e3 rfl]
      rfl
    refine ⟨.tuple #[v, .int .i64 0], ?_, v, rfl, ?_, ?_⟩
    · simp [results, Try.f72, go_sem, hc4', hc5']
    · rw [hr]
      exact own_grown HO.out (grownBy_putObj' _ D (.deferred none)) (fun r e => by cases e; exact ⟨_, hK, rfl⟩)
    · exact HBB.out.trans (belowK_b (w := w) (Nat.le_refl _) W D _ _ (by omega) hK rfl rfl)
/-- a sector as it is seen -/
def Dv.read (D : Dv) (x : Nat) : List UInt8 := readL D.kept D.pend x
theorem readDev_any {D : Dv} {F : Nat → Prop} {g : Nat} (x : Nat) (hx : x < D.kept.length) (w : World) (h : DevAt w F g D) (hdn : D.dn = false) (hm : D.pend.length ≤ 1000000) : Calls Try.prog 72 #[.pointer (some ⟨g, 0, none⟩), .int .i64 (x : Int)] w fun e w' => ∃ v, e = .returned (.tuple #[v, .int .i64 0]) ∧ w'.ownsRow w.heap.size 5 1 v 64 (bv (D.read x)) ∧ Below w.heap.size w w' := by
  obtain ⟨rk, c, vp, rfl, hb, hk, hp, hok⟩ := h
  rw [hdn] at hb
  exact read_ok D.kept D.pend x w hok.n2 hm hx rfl rfl hok.k64 (fun p hp => (hok.p64 p hp).1) hb hk hp
end Go.Proofs.Ytfppddnfdinipaa
end
section
namespace Go.Proofs.Ytfppddnfdinipaa
open Go Go.RowKit
/-- a device of one's own: it lies behind block R, what lies ahead of that is as it was -/
structure Mine (R : Nat) (w0 w : World) (F : Nat → Prop) (g : Nat) (D : Dv) : Prop where
  dev : DevAt w F g D
  bel : Below R w0 w
  low : ∀ k, F k → R ≤ k
section
variable {R g : Nat} {w0 w w' : World} {F : Nat → Prop} {D D' : Dv}
theorem Mine.left (h : Mine R w0 w F g D) (hR : R ≤ w0.heap.size) (hl : Left w F g D' w') : ∃ F', Mine R w0 w' F' g D' := by
  obtain ⟨F', h1, h2, h3⟩ := hl
  have hs := h.bel.size
  refine ⟨F', h1, ⟨h2.os.trans h.bel.os, h2.tape.trans h.bel.tape, h2.output.trans h.bel.output, Nat.le_trans hs h2.size, fun k hk => (h2.block k (by omega) (fun hf => by have := h.low k hf; omega)).trans (h.bel.block k hk)⟩, fun k hk => ?_⟩
  rcases h3 k hk with h3 | h3
  · exact h.low k h3
  · omega
theorem Mine.grow (h : Mine R w0 w F g D) (hR : R ≤ w0.heap.size) (hb : Below w.heap.size w w') : Mine R w0 w' F g D :=
  ⟨h.dev.keep fun k hk _ => hb.block k hk, h.bel.trans (Below.mono hb (by have := h.bel.size; omega)), h.low⟩
theorem Mine.new (h : Mine R w0 w F g D) {k : Nat} (hk : w.heap.size ≤ k) : ¬ F k := fun hf => by have := h.dev.lt k hf; omega
theorem mineNew (n : Nat) (hn : 1 ≤ n ∧ n ≤ 8192) (hb : Below R w0 w) (hR : R ≤ w0.heap.size) : Calls Try.prog 31 #[.int .i64 (n : Int)] w fun e w' => ∃ g F, e = .returned (.tuple #[.pointer (some ⟨g, 0, none⟩), .int .i64 0]) ∧ Mine R w0 w' F g (Dv.new n) := by
  refine (newDev_any n hn w).mono ?_
  rintro e w' ⟨g, F, rfl, h1, h2, h3⟩
  have hs := hb.size
  exact ⟨g, F, rfl, h1, hb.trans (Below.mono h2 (by omega)), fun k hk => by have := h3 k hk; omega⟩
theorem mineWrite (h : Mine R w0 w F g D) (hR : R ≤ w0.heap.size) (x : Int) (l : List UInt8) (A : Option Addr) (cap : Nat) (hde : D.de ≤ 1000000000) (hm : D.pend.length ≤ 100000) (hx : -9223372036854775808 ≤ x ∧ x ≤ 9223372036854775807) (hl : l.length ≤ 1000000000)
    (hs : Src w A l.length cap (bv l)) (hsb : ∀ ad, A = some ad → 0 < l.length → ¬ F ad.block) :
    Calls Try.prog 67 #[.pointer (some ⟨g, 0, none⟩), .int .i64 x, .slice A l.length cap] w fun e w' => e = .returned (.int .i64 (D.write x l).1) ∧ ∃ F', Mine R w0 w' F' g (D.write x l).2 :=
  (write_any x l A cap w h.dev hde hm hx hl hs hsb).mono fun _ _ ⟨h1, h2⟩ => ⟨h1, h.left hR h2⟩
theorem mineFlush (h : Mine R w0 w F g D) (hR : R ≤ w0.heap.size) (hde : D.de ≤ 1000000000) (hm : D.pend.length ≤ 100000) : Calls Try.prog 68 #[.pointer (some ⟨g, 0, none⟩)] w fun e w' => e = .returned (.int .i64 D.flush.1) ∧ ∃ F', Mine R w0 w' F' g D.flush.2 :=
  (flush_any w h.dev hde hm).mono fun _ _ ⟨h1, h2⟩ => ⟨h1, h.left hR h2⟩
theorem mineWake (h : Mine R w0 w F g D) (hR : R ≤ w0.heap.size) (x : Int) (hm : D.pend.length ≤ 100000) : Calls Try.prog 38 #[.pointer (some ⟨g, 0, none⟩), .int .i64 x] w fun e w' => e = .returned (.int .i64 (D.wake x).1) ∧ ∃ F', Mine R w0 w' F' g (D.wake x).2 :=
  (wake_any x w h.dev hm).mono fun _ _ ⟨h1, h2⟩ => ⟨h1, h.left hR h2⟩
theorem mineCrash (h : Mine R w0 w F g D) (hR : R ≤ w0.heap.size) : Calls Try.prog 37 #[.pointer (some ⟨g, 0, none⟩)] w fun e w' => e = .returned (.int .i64 D.crash.1) ∧ ∃ F', Mine R w0 w' F' g D.crash.2 :=
  (crashDev_any w h.dev).mono fun _ _ ⟨h1, h2⟩ => ⟨h1, h.left hR h2⟩
theorem mineFuse (h : Mine R w0 w F g D) (hR : R ≤ w0.heap.size) (x : Int) (hx : x ≤ 9223372036854775807) : Calls Try.prog 80 #[.pointer (some ⟨g, 0, none⟩), .int .i64 x] w fun e w' => e = .returned (.int .i64 (D.fuse x).1) ∧ ∃ F', Mine R w0 w' F' g (D.fuse x).2 :=
  (fuseDev_any x hx w h.dev).mono fun _ _ ⟨h1, h2⟩ => ⟨h1, h.left hR h2⟩
theorem mineStat (h : Mine R w0 w F g D) (hR : R ≤ w0.heap.size) : Calls Try.prog 87 #[.pointer (some ⟨g, 0, none⟩)] w fun e w' => e = .returned (.agg #[.int .i64 (D.kept.length : Int), .int .i64 (D.pend.length : Int), .int .i64 D.de, .bool D.dn]) ∧ Mine R w0 w' F g D :=
  (statDev_any w h.dev).mono fun _ _ ⟨h1, h2⟩ => ⟨h1, h.grow hR h2⟩
theorem mineRead (h : Mine R w0 w F g D) (hR : R ≤ w0.heap.size) (x : Nat) (hx : x < D.kept.length) (hdn : D.dn = false) (hm : D.pend.length ≤ 1000000) : Calls Try.prog 72 #[.pointer (some ⟨g, 0, none⟩), .int .i64 (x : Int)] w fun e w' => ∃ v, e = .returned (.tuple #[v, .int .i64 0]) ∧ w'.ownsRow w.heap.size 5 1 v 64 (bv (D.read x)) ∧ Mine R w0 w' F g D :=
  (readDev_any x hx w h.dev hdn hm).mono fun _ _ ⟨v, h1, h2, h3⟩ => ⟨v, h1, h2, h.grow hR h3⟩
theorem mineKept (h : Mine R w0 w F g D) (hR : R ≤ w0.heap.size) : Calls Try.prog 86 #[.pointer (some ⟨g, 0, none⟩)] w fun e w' => ∃ v, e = .returned v ∧ w'.ownsRow w.heap.size 5 1 v (D.kept.length * 64) (bv D.kept.flatten) ∧ Mine R w0 w' F g D :=
  (keptDev_any w h.dev).mono fun _ _ ⟨v, h1, h2, h3⟩ => ⟨v, h1, h2, h.grow hR h3⟩
end
/-- a row of one's own, just made of bytes -/
theorem src_new (w : World) (l : List UInt8) (n cap : Nat) (h : l.length = n) : Src (w.alloc (.cells (bv l).toArray 5)) (some ⟨w.heap.size, 0, none⟩) n cap (bv l) :=
  ⟨by rw [bvL, h], (fun h => by cases h), bv1 l, fun ad had j u hu => by
    injection had with had
    subst had
    rw [Addr.add_mid, Nat.zero_add, (Blk.new w 5 (bv l).toArray).cell]
    simpa using hu⟩
theorem mineWriteNew {R g : Nat} {w0 w : World} {F : Nat → Prop} {D : Dv} (h : Mine R w0 w F g D) (hR : R ≤ w0.heap.size) (x : Int) (b : UInt8) (z : Int) (hz : z = (b.toNat : Int)) (hde : D.de ≤ 1000000000) (hm : D.pend.length ≤ 100000) (hx : -9223372036854775808 ≤ x ∧ x ≤ 9223372036854775807) :
    Calls Try.prog 67 #[.pointer (some ⟨g, 0, none⟩), .int .i64 x, .slice (some ⟨w.heap.size, 0, none⟩) 1 1] (w.alloc (.cells #[.int .u8 z] 5)) fun e w' => e = .returned (.int .i64 (D.write x [b]).1) ∧ ∃ F', Mine R w0 w' F' g (D.write x [b]).2 := by
  subst hz
  have h2 : Mine R w0 (w.alloc (.cells #[.int .u8 (b.toNat : Int)] 5)) F g D := h.grow hR ((Below.refl _ w).alloc (Nat.le_refl _) _)
  exact mineWrite h2 hR x [b] _ 1 hde hm hx (by simp) (src_new w [b] 1 1 rfl) (fun ad had _ => by
    injection had with had
    subst had
    exact h.new (Nat.le_refl _))
/-- the example's device -/
def aw1 : Dv := ((Dv.new 2).write 0 [1]).2
def aw2 : Dv := aw1.flush.2
def aw3 : Dv := (aw2.write 0 [2]).2
def aw4 : Dv := aw3.crash.2
def aw5 (k : Nat) : Dv := (aw4.wake (k : Int)).2
theorem aw_facts : ((Dv.new 2).write 0 [1]).1 = 0 ∧ aw1.flush.1 = 0 ∧ (aw2.write 0 [2]).1 = 0 ∧ aw3.crash.1 = 0 := by decide +kernel
theorem aw_small : aw1.de ≤ 1000000000 ∧ aw1.pend.length ≤ 100000 ∧ aw2.de ≤ 1000000000 ∧ aw2.pend.length ≤ 100000 ∧ aw4.pend.length ≤ 100000 := by decide +kernel
theorem aw_end : ∀ k : Nat, k < 2 → (aw4.wake (k : Int)).1 = 0 ∧ (aw5 k).kept.length = 2 ∧ (aw5 k).dn = false ∧ (aw5 k).pend.length ≤ 1000000 ∧ (aw5 k).read 0 = UInt8.ofNat (1 + k) :: List.replicate 63 0 := by decide +kernel
theorem info_1 : (Try.prog.info? 5).map (fun i => (i.zero, i.size, i.bytes)) = some (some (.int .u8 0), 1, 1) := by kernel_rfl
end Go.Proofs.Ytfppddnfdinipaa
end
section
namespace Go.Proofs.Ytfppddnfdinipaa
open Go.RowKit
structure Deed where
  what : Int
  n : Int
  most : Int
  b : List UInt8
def i64 (z : Int) : Prop := -9223372036854775808 ≤ z ∧ z ≤ 9223372036854775807
/-- a part's four cells -/
structure DeedAt (w : World) (B b o : Nat) (p : Deed) : Prop where
  c0 : w.cell? ⟨b, o, none⟩ = some (.int .i64 p.what)
  c1 : w.cell? ⟨b, o + 1, none⟩ = some (.int .i64 p.n)
  c2 : w.cell? ⟨b, o + 2, none⟩ = some (.int .i64 p.most)
  c3 : ∃ A c, w.cell? ⟨b, o + 3, none⟩ = some (.slice A p.b.length c) ∧ BytesAt w B (.slice A p.b.length c) p.b ∧ (A = none → c = 0)
  k0 : i64 p.what
  k1 : i64 p.n
  k2 : i64 p.most
def DeedsM (w : World) (B : Nat) (v : Value) (ls : List Deed) : Prop :=
  ∃ A cap, v = .slice A ls.length cap ∧ ls.length ≤ cap ∧ (0 < ls.length → ∃ b off, A = some ⟨b, off, none⟩ ∧ b < B ∧ ∀ j, j < ls.length → DeedAt w B b (off + j * 4) (ls.getD j ⟨0, 0, 0, []⟩))
theorem DeedAt.alike {w w' : World} {B b o : Nat} {p : Deed} (h : DeedAt w B b o p) (hb : b < B) (ha : Alike B w w') : DeedAt w' B b o p := by
  obtain ⟨A, c, h1, h2, h3⟩ := h.c3
  have e : ∀ q, w'.cell? ⟨b, q, none⟩ = w.cell? ⟨b, q, none⟩ := fun q => ha.cell (p := ⟨b, q, none⟩) hb
  exact ⟨(e _).trans h.c0, (e _).trans h.c1, (e _).trans h.c2, ⟨A, c, (e _).trans h1, h2.alike ha, h3⟩, h.k0, h.k1, h.k2⟩
theorem DeedsM.alike {w w' : World} {B : Nat} {v : Value} {ls : List Deed} (h : DeedsM w B v ls) (ha : Alike B w w') : DeedsM w' B v ls := by
  obtain ⟨A, cap, hv, hc, hA⟩ := h
  exact ⟨A, cap, hv, hc, fun h0 => by
    obtain ⟨b, off, h1, h2, h3⟩ := hA h0
    exact ⟨b, off, h1, h2, fun j hj => (h3 j hj).alike h2 ha⟩⟩
/-- how many bytes some parts have -/
def many (ls : List Deed) : Nat := (ls.map fun p => p.b.length).sum
theorem many_take (ls : List Deed) (k : Nat) (h : k < ls.length) : many (ls.take (k + 1)) = many (ls.take k) + (ls.getD k ⟨0, 0, 0, []⟩).b.length := by
  unfold many
  rw [List.take_succ_eq_append_getElem h, List.map_append, List.sum_append]
  simp [List.getD, h]
theorem many_take_le (ls : List Deed) (k : Nat) : many (ls.take k) ≤ many ls := by
  have h : many ls = many (ls.take k) + many (ls.drop k) := by
    unfold many
    rw [← List.sum_append, ← List.map_append, List.take_append_drop]
  omega
theorem many_get (ls : List Deed) (k : Nat) (h : k < ls.length) : (ls.getD k ⟨0, 0, 0, []⟩).b.length ≤ many ls := by
  have h1 := many_take ls k h
  have h2 := many_take_le ls (k + 1)
  omega
end Go.Proofs.Ytfppddnfdinipaa
end
section
namespace Go.Proofs.Ytfppddnfdinipaa
open Go Go.RowKit
def greatB (s : Int) (ls : List Deed) : Bool := decide (150 < ls.length) || decide (10000 < many (ls.take 150)) || (decide (60 < s) && decide (s ≤ 8192))
theorem great_no {s : Int} {ls : List Deed} (h : greatB s ls = false) : ls.length ≤ 150 ∧ many ls ≤ 10000 ∧ (s ≤ 60 ∨ 8192 < s) := by
  simp only [greatB, Bool.or_eq_false_iff, decide_eq_false_iff_not, Bool.and_eq_false_iff] at h
  obtain ⟨⟨h1, h2⟩, h3⟩ := h
  have h4 : ls.take 150 = ls := List.take_of_length_le (by omega)
  rw [h4] at h2
  exact ⟨by omega, by omega, by omega⟩
theorem own_blk {w : World} {base g n : Nat} {e : TypeId} {xs : List Value} (h : w.ownsRow base e 1 (.slice (some ⟨g, 0, none⟩) n n) n xs) : Blk w g e xs.toArray ∧ base ≤ g := by
  rcases owned_formN h with ⟨h, _⟩ | ⟨g', cap', cur, h', hb, hn, hc, hh, hs, ht, _⟩
  · cases h
  · injection h' with e1 e2 e3
    injection e1 with e1
    injection e1 with e1
    subst e1 e3
    rw [List.take_of_length_le (by simp; omega)] at ht
    rw [← ht]
    exact ⟨hh, hb⟩
theorem blk_own {w : World} {base g n : Nat} {e : TypeId} {xs : List Value} (h : Blk w g e xs.toArray) (hb : base ≤ g) (hl : xs.length = n) (hm : n ≤ maxLen) : w.ownsRow base e 1 (.slice (some ⟨g, 0, none⟩) n n) n xs :=
  ⟨by omega, .inr ⟨g, n, _, rfl, hb, h, Nat.le_refl _, hm, by simp [hl], by simp [← hl]⟩⟩
theorem pad_copy (l : List UInt8) : ((bv (List.replicate 64 0)).toArray.toList.take 0 ++ (bv l ++ (bv (List.replicate 64 0)).toArray.toList.drop (0 + (bv l).length))).toArray = (bv (pad l)).toArray := by
  have h1 : (bv l).length = l.length := bvL l
  rw [h1, Nat.zero_add, List.take_zero, List.nil_append, pad, bvA]
  congr 2
  unfold bv
  rw [← List.map_drop, List.drop_replicate]
end Go.Proofs.Ytfppddnfdinipaa
end
section
namespace Go.Proofs.Ytfppddnfdinipaa
open Go Go.RowKit
/-- its cells: all that is kept, pending writes, deeds, a fuse, is it down -/
def rdv (va vw : Value) (de fu : Int) (dn : Bool) : Array Value := #[va, vw, .int .i64 de, .int .i64 fu, .bool dn]
theorem rdv0 (va vw : Value) (de fu : Int) (dn : Bool) : (rdv va vw de fu dn)[0]? = some va := rfl
theorem rdv1 (va vw : Value) (de fu : Int) (dn : Bool) : (rdv va vw de fu dn)[1]? = some vw := rfl
theorem rdv2 (va vw : Value) (de fu : Int) (dn : Bool) : (rdv va vw de fu dn)[2]? = some (.int .i64 de) := rfl
theorem rdv3 (va vw : Value) (de fu : Int) (dn : Bool) : (rdv va vw de fu dn)[3]? = some (.int .i64 fu) := rfl
theorem rdv4 (va vw : Value) (de fu : Int) (dn : Bool) : (rdv va vw de fu dn)[4]? = some (.bool dn) := rfl
theorem rdv_set1 (va vw x : Value) (de fu : Int) (dn : Bool) : (rdv va vw de fu dn).setIfInBounds 1 x = rdv va x de fu dn := rfl
theorem rdv_set2 (va vw : Value) (de fu x : Int) (dn : Bool) : (rdv va vw de fu dn).setIfInBounds 2 (.int .i64 x) = rdv va vw x fu dn := rfl
theorem rdv_set3 (va vw : Value) (de fu x : Int) (dn : Bool) : (rdv va vw de fu dn).setIfInBounds 3 (.int .i64 x) = rdv va vw de x dn := rfl
theorem rdv_set4 (va vw : Value) (de fu : Int) (dn x : Bool) : (rdv va vw de fu dn).setIfInBounds 4 (.bool x) = rdv va vw de fu x := rfl
def waitCells (us : List (Int × Value)) : List Value := (us.map fun u => [.int .i64 u.1, u.2]).flatten
/-- the pending writes' own rows -/
def WaitsAt (w : World) (F : Nat → Prop) (ra : Nat) (us : List (Int × Value)) (L : List (Int × List UInt8)) : Prop :=
  us.length = L.length ∧ ∀ (i : Nat) (p : Int × List UInt8), L[i]? = some p → ∃ q c, us[i]? = some (p.1, .slice (some ⟨q, 0, none⟩) 64 c) ∧ F q ∧ q ≠ ra ∧ w.ownsRow 0 5 1 (.slice (some ⟨q, 0, none⟩) 64 c) 64 (bv p.2)
structure RefBlk (w : World) (F : Nat → Prop) (g ra c : Nat) (vw : Value) (us : List (Int × Value)) (D : Dv) : Prop where
  fg : F g
  fa : F ra
  fw : ∀ k, vw.ownBlock = some k → F k
  flt : ∀ k, F k → k < w.heap.size
  blk : Blk w g 179 (rdv (.slice (some ⟨ra, 0, none⟩) (D.kept.length * 64) c) vw D.de D.fu D.dn)
  all : w.ownsRow 0 5 1 (.slice (some ⟨ra, 0, none⟩) (D.kept.length * 64) c) (D.kept.length * 64) (keptCells D.kept)
  row : w.ownsRow 0 228 2 vw D.pend.length (waitCells us)
  wts : WaitsAt w F ra us D.pend
  ok : D.Ok
def RefAt (w : World) (F : Nat → Prop) (g : Nat) (D : Dv) : Prop := ∃ ra c vw us, RefBlk w F g ra c vw us D
theorem WaitsAt.keep {w w' : World} {F : Nat → Prop} {ra : Nat} {us : List (Int × Value)} {L : List (Int × List UInt8)} (h : WaitsAt w F ra us L) (hk : ∀ k, k < w.heap.size → F k → k ≠ ra → w'.heap[k]? = w.heap[k]?) : WaitsAt w' F ra us L :=
  ⟨h.1, fun i p hp => by
    obtain ⟨q, c, h1, h2, h3, h4⟩ := h.2 i p hp
    exact ⟨q, c, h1, h2, h3, owned_keepN h4 fun k hg hl => hk k hl (by injection hg with hg; subst hg; exact h2) (by injection hg with hg; subst hg; exact h3)⟩⟩
theorem WaitsAt.grow {w : World} {F F' : Nat → Prop} {ra : Nat} {us : List (Int × Value)} {L : List (Int × List UInt8)} (h : WaitsAt w F ra us L) (hF : ∀ k, F k → F' k) : WaitsAt w F' ra us L :=
  ⟨h.1, fun i p hp => by
    obtain ⟨q, c, h1, h2, h3, h4⟩ := h.2 i p hp
    exact ⟨q, c, h1, hF q h2, h3, h4⟩⟩
theorem RefBlk.keep {w w' : World} {F : Nat → Prop} {g ra c : Nat} {vw : Value} {us : List (Int × Value)} {D : Dv} (h : RefBlk w F g ra c vw us D) (hs : w.heap.size ≤ w'.heap.size) (hk : ∀ k, k < w.heap.size → F k → w'.heap[k]? = w.heap[k]?) : RefBlk w' F g ra c vw us D :=
  ⟨h.fg, h.fa, h.fw, fun k hf => Nat.lt_of_lt_of_le (h.flt k hf) hs, (hk g h.blk.lt h.fg).trans h.blk, owned_keepN h.all fun k hg hl => hk k hl (by injection hg with hg; subst hg; exact h.fa), owned_keepN h.row fun k hg hl => hk k hl (h.fw k hg), h.wts.keep fun k h1 h2 _ => hk k h1 h2, h.ok⟩
theorem RefAt.keep {w w' : World} {F : Nat → Prop} {g : Nat} {D : Dv} (h : RefAt w F g D) (hs : w.heap.size ≤ w'.heap.size) (hk : ∀ k, k < w.heap.size → F k → w'.heap[k]? = w.heap[k]?) : RefAt w' F g D := by
  obtain ⟨ra, c, vw, us, h⟩ := h
  exact ⟨ra, c, vw, us, h.keep hs hk⟩
theorem RefAt.lt {w : World} {F : Nat → Prop} {g : Nat} {D : Dv} (h : RefAt w F g D) : ∀ k, F k → k < w.heap.size := by
  obtain ⟨ra, c, vw, us, h⟩ := h
  exact h.flt
/-- what a deed leaves -/
def RLeft (w : World) (F : Nat → Prop) (g : Nat) (D : Dv) (w' : World) : Prop := ∃ F', RefAt w' F' g D ∧ Turned F w w' ∧ ∀ k, F' k → F k ∨ w.heap.size ≤ k
theorem RLeft.same {w : World} {F : Nat → Prop} {g : Nat} {D : Dv} (h : RefAt w F g D) : RLeft w F g D w := ⟨F, h, Turned.refl _ _, fun _ h => .inl h⟩
/-- only the device's own block has turned -/
theorem rleft_own {w w' : World} {F : Nat → Prop} {g ra c : Nat} {vw : Value} {us : List (Int × Value)} {D D' : Dv} (h : RefBlk w F g ra c vw us D) (hb : Blk w' g 179 (rdv (.slice (some ⟨ra, 0, none⟩) (D.kept.length * 64) c) vw D'.de D'.fu D'.dn)) (hg : w.grownBy w' (some g)) (ek : D'.kept = D.kept) (ep : D'.pend = D.pend) (hok : D'.Ok) :
    RefBlk w' F g ra c vw us D' ∧ Turned F w w' := by
  have hne : ∀ {n s : Nat} {e : TypeId} {v : Value} {xs : List Value}, w.ownsRow 0 e s v n xs → e ≠ 179 → w'.ownsRow 0 e s v n xs := fun h2 he => owned_keepN h2 fun k hv hl => hg.block k hl (fun e' => owned_neN h2 h.blk he (by rw [hv, e']))
  refine ⟨⟨h.fg, h.fa, h.fw, fun k hf => Nat.lt_of_lt_of_le (h.flt k hf) hg.size, by rw [ek]; exact hb, by rw [ek]; exact hne h.all (by decide), by rw [ep]; exact hne h.row (by decide), ?_, hok⟩, Turned.of_grown hg (fun k e _ => by injection e with e; rw [← e]; exact h.fg)⟩
  rw [ep]
  refine ⟨h.wts.1, fun i p hp => ?_⟩
  obtain ⟨q, c, h1, h2, h3, h4⟩ := h.wts.2 i p hp
  exact ⟨q, c, h1, h2, h3, hne h4 (by decide)⟩
section
set_option maxRecDepth 100000
variable {va vw : Value} {de fu : Int} {dn : Bool} {g : Nat}
theorem rsectors_any {A : Option Addr} {n c : Nat} (w : World) (hn : n ≤ 8192) (hb : Blk w g 179 (rdv (.slice A (n * 64) c) vw de fu dn)) : Calls Try.prog 165 #[.pointer (some ⟨g, 0, none⟩)] w fun e w' => e = .returned (.int .i64 (n : Int)) ∧ w' = w := by
  have c0 := (hb.cell 0).trans (rdv0 ..)
  have hlt := hb.lt
  have hq : ((n * 64 : Nat) : Int).tdiv 64 = (n : Int) := by
    rw [Int.tdiv_eq_ediv_of_nonneg (by omega)]
    omega
  clear hb
  go_enter Try.func165, Try.ntmps165
  go_wp2
  go_ret
  refine ⟨ret_int ?_, rfl⟩
  first | rfl | omega | (rw [← hq]; rfl)
set_option maxHeartbeats 400000 in
theorem rdeed_any (w : World) (hde : 0 ≤ de ∧ de ≤ 1000000000) (hfu : 0 ≤ fu ∧ fu ≤ 9223372036854775807) (hb : Blk w g 179 (rdv va vw de fu false)) : Calls Try.prog 167 #[.pointer (some ⟨g, 0, none⟩)] w fun e w' =>
    e = .returned (.bool (decide ((tick de fu false).1 = 0))) ∧ Blk w' g 179 (rdv va vw (tick de fu false).2.1 (tick de fu false).2.2.1 (tick de fu false).2.2.2) ∧ w.grownBy w' (some g) := by
  have c2 := (hb.cell 2).trans (rdv2 ..)
  have c3 := (hb.cell 3).trans (rdv3 ..)
  have c4 := (hb.cell 4).trans (rdv4 ..)
  have f2 := hb.frozen 2
  have f3 := hb.frozen 3
  have f4 := hb.frozen 4
  have hlt := hb.lt
  have H := hide hb
  have h2 := hde.1
  have h3 := hde.2
  have h4 := hfu.1
  have h5 := hfu.2
  clear hb hde hfu
  by_cases h1 : fu = 1
  · subst h1
    have ht : tick de 1 false = (10, de, 0, true) := by simp [tick]
    rw [ht]
    clear ht
    rw [show decide ((10 : Int) = 0) = false from rfl]
    dsimp only
    go_enter Try.func167, Try.ntmps167
    go_wp2
    go_ret
    have h := (H.out.set_ 3 (.int .i64 0)).set_ 4 (.bool true)
    rw [rdv_set3, rdv_set4] at h
    exact ⟨rfl, h, only_setCell (p := ⟨g, 4, none⟩) (only_setCell (p := ⟨g, 3, none⟩) (World.grownBy.refl _ _) (.inl rfl) _) (.inl rfl) _⟩
  · by_cases h0 : fu = 0
    · subst h0
      have ht : tick de 0 false = (0, de + 1, 0, false) := by simp [tick]
      rw [ht]
      clear ht
      rw [show decide ((0 : Int) = 0) = true from rfl]
      dsimp only
      go_enter Try.func167, Try.ntmps167
      go_wp2
      go_ret
      have h := H.out.set_ 2 (.int .i64 (de + 1))
      rw [rdv_set2] at h
      exact ⟨rfl, h, only_setCell (World.grownBy.refl _ _) (.inl rfl) _⟩
    · have ht : tick de fu false = (0, de + 1, fu - 1, false) := by simp [tick, h1, h0]
      rw [ht]
      have hpos : 0 < fu := by omega
      clear ht
      rw [show decide ((0 : Int) = 0) = true from rfl]
      dsimp only
      go_enter Try.func167, Try.ntmps167
      go_wp2
      go_ret
      have h := (H.out.set_ 3 (.int .i64 (fu - 1))).set_ 2 (.int .i64 (de + 1))
      rw [rdv_set3, rdv_set2] at h
      exact ⟨rfl, h, only_setCell (p := ⟨g, 2, none⟩) (only_setCell (p := ⟨g, 3, none⟩) (World.grownBy.refl _ _) (.inl rfl) _) (.inl rfl) _⟩
end
end Go.Proofs.Ytfppddnfdinipaa
end
section
namespace Go.Proofs.Ytfppddnfdinipaa
open Go Go.RowKit
/-- a row of one's own, its block known, cells in its middle turned -/
theorem own_upd {w : World} {base g n cap s : Nat} {e : TypeId} {xs : List Value} (h : w.ownsRow base e s (.slice (some ⟨g, 0, none⟩) n cap) n xs) : ∃ cur : Array Value, Blk w g e cur ∧ n * s ≤ cur.size ∧ n ≤ cap ∧ ∀ (w' : World) (o : Nat) (vs : List Value), o + vs.length ≤ n * s → Blk w' g e (cur.toList.take o ++ (vs ++ cur.toList.drop (o + vs.length))).toArray → w'.ownsRow base e s (.slice (some ⟨g, 0, none⟩) n cap) n (xs.take o ++ (vs ++ xs.drop (o + vs.length))) := by
  have hl := h.1
  rcases owned_formN h with ⟨h, _⟩ | ⟨g', cap', cur, h', hb, hn, hc, hh, hs, ht, _⟩
  · cases h
  · injection h' with e1 e2 e3
    injection e1 with e1
    injection e1 with e1
    subst e1 e3
    have hns : n * s ≤ cap * s := Nat.mul_le_mul_right _ hn
    refine ⟨cur, hh, by omega, hn, fun w' o vs hf hb' => ?_⟩
    refine ⟨by simp; omega, .inr ⟨g, cap, _, rfl, hb, hb', hn, hc, by simp; omega, ?_⟩⟩
    have e : cur.toList = xs ++ cur.toList.drop (n * s) := by rw [← ht, List.take_append_drop]
    show (cur.toList.take o ++ (vs ++ cur.toList.drop (o + vs.length))).take (n * s) = _
    have e1 : cur.toList.take o = xs.take o := by rw [← ht, List.take_take]; congr 1; omega
    have e2 : cur.toList.drop (o + vs.length) = xs.drop (o + vs.length) ++ cur.toList.drop (n * s) := by
      rw [e, List.drop_append, show o + vs.length - xs.length = 0 by omega, List.drop_zero, ← e]
    rw [e1, e2, ← List.append_assoc, ← List.append_assoc]
    rw [List.take_append_of_le_length (by simp; omega), List.take_of_length_le (by simp; omega), List.append_assoc]
theorem new_zero (n : Nat) : bv (List.replicate (n * 64) 0) = keptCells (List.replicate n (List.replicate 64 0)) := by
  rw [kept_bv, List.flatten_replicate_replicate]
set_option maxRecDepth 100000
set_option maxHeartbeats 400000 in
theorem rnew_any (n : Nat) (hn : 1 ≤ n ∧ n ≤ 8192) (w : World) : Calls Try.prog 78 #[.int .i64 (n : Int)] w fun e w' => ∃ g F, e = .returned (.tuple #[.pointer (some ⟨g, 0, none⟩), .int .i64 0]) ∧ RefAt w' F g (Dv.new n) ∧ Below w.heap.size w w' ∧ ∀ k, F k → w.heap.size ≤ k := by
  obtain ⟨i, hi, hz0, hz1, hz2⟩ := info_parts info_1
  have h1 := hn.1
  have h2 := hn.2
  have hm : (n : Int) * 64 = ((n * 64 : Nat) : Int) := by omega
  have hlt64 : n * 64 ≤ 524288 := by omega
  have i1 : (1 : Int) ≤ (n : Int) := by omega
  have i2 : (n : Int) ≤ 8192 := by omega
  have HM := hide hm
  clear hn hm
  go_enter Try.func78, Try.ntmps78
  go_wp2_with (at_make; rw [HM.out]; refine wpList_make_full _ rfl _ _ 66 rfl w.heap.size 5 i (.int .u8 0) 1 Try.underlying66 hi hz0 hz1 _ _ _ _ (n * 64) rfl rfl ?e0 ?e1 ?e2 ?e3 ?e4 ?_)
  case e0 => rfl
  case e1 => rfl
  case e2 => rw [hz2]; omega
  case e3 => simp only [maxLen]; omega
  case e4 => exact Nat.le_refl _
  intro w1 own1 gr1
  have own1 : w1.ownsRow w.heap.size 5 1 (.slice (some ⟨w.heap.size, 0, none⟩) (n * 64) (n * 64)) (n * 64) (madeCells #[.int .u8 0] (n * 64)).toList := own1
  rw [made_bv] at own1
  have H1 := hide (And.intro own1 gr1)
  clear own1 gr1
  go_wp2_with fail
  go_ret2
  obtain ⟨own1, gr1⟩ := H1.out
  have hlt : w.heap.size < w1.heap.size := (own1.lt _ rfl).2
  have el : (Dv.new n).kept.length = n := by simp [Dv.new]
  have hb : Below w.heap.size w w1 := (Below.refl _ _).grown gr1 (Nat.le_refl _) (by intro k hk; cases hk)
  refine ⟨w1.heap.size, rfl, fun k => k = w.heap.size ∨ k = w1.heap.size, ⟨w.heap.size, n * 64, .slice none 0 0, [], ?_⟩, hb.alloc (by omega) _, fun k hk => by rcases hk with hk | hk <;> omega⟩
  refine ⟨.inr rfl, .inl rfl, fun k hk => (by cases hk), fun k hk => (by rw [size_alloc]; rcases hk with hk | hk <;> omega), by rw [el]; exact Blk.new _ _ _, ?_, ⟨rfl, .inl ⟨rfl, rfl⟩⟩, ⟨rfl, fun i p hp => by simp [Dv.new] at hp⟩, ?_⟩
  · rw [el]
    have h := own1.alloc (.cells (rdv (.slice (some ⟨w.heap.size, 0, none⟩) (n * 64) (n * 64)) (.slice none 0 0) 0 0 false) 179)
    have h := owned_baseN h (base' := 0) (fun _ _ => Nat.zero_le _)
    rw [show keptCells (Dv.new n).kept = bv (List.replicate (n * 64) 0) from (new_zero n).symm]
    exact h
  · refine ⟨by rw [el]; exact h1, by rw [el]; exact h2, fun b hb => ?_, by simp [Dv.new], by simp [Dv.new], by simp [Dv.new]⟩
    rw [List.eq_of_mem_replicate hb]
    simp
theorem rnew_bad (n : Int) (hn : n < 1 ∨ 8192 < n) (w : World) : Calls Try.prog 78 #[.int .i64 n] w fun e w' => e = .returned (.tuple #[.pointer none, .int .i64 2]) ∧ w' = w := by
  rcases Int.lt_or_le n 1 with h | h
  · go_enter Try.func78, Try.ntmps78
    go_wp2
    go_ret2
    exact ⟨rfl, rfl⟩
  · have h2 : 8192 < n := by omega
    clear hn
    go_enter Try.func78, Try.ntmps78
    go_wp2
    go_ret2
    exact ⟨rfl, rfl⟩
section
variable {D : Dv} {F : Nat → Prop} {g : Nat}
theorem rfuse_any (x : Int) (hx : x ≤ 9223372036854775807) (w : World) (h : RefAt w F g D) : Calls Try.prog 81 #[.pointer (some ⟨g, 0, none⟩), .int .i64 x] w fun e w' => e = .returned (.int .i64 (D.fuse x).1) ∧ RLeft w F g (D.fuse x).2 w' := by
  have h0 := h
  obtain ⟨ra, c, vw, us, hr⟩ := h
  have hb := hr.blk
  cases hdn : D.dn with
  | true =>
    rw [show D.fuse x = (10, D) by simp [Dv.fuse, hdn]]
    rw [hdn] at hb
    have c4 := (hb.cell 4).trans (rdv4 ..)
    have hlt := hb.lt
    have H := hide h0
    clear hb h0 hr
    go_enter Try.func81, Try.ntmps81
    go_wp2
    go_ret
    exact ⟨rfl, .same H.out⟩
  | false =>
    rw [show D.fuse x = (0, { D with fu := max x 0 }) by simp [Dv.fuse, hdn]]
    rw [hdn] at hb
    have c4 := (hb.cell 4).trans (rdv4 ..)
    have c3 := (hb.cell 3).trans (rdv3 ..)
    have f3 := hb.frozen 3
    have hlt := hb.lt
    have hfin : ∀ z : Int, z = max x 0 → RLeft w F g { D with fu := max x 0 } (w.setCell ⟨g, 3, none⟩ (.int .i64 z)) := fun z hz => by
      have hb2 := hb.set_ 3 (.int .i64 z)
      rw [rdv_set3, hz, ← hdn] at hb2
      rw [hz]
      have hok := hr.ok
      have h2 := rleft_own hr (D' := { D with fu := max x 0 }) hb2 (only_setCell (World.grownBy.refl _ _) (.inl rfl) _) rfl rfl ⟨hok.n1, hok.n2, hok.k64, hok.p64, hok.de, by show 0 ≤ max x 0 ∧ max x 0 ≤ _; omega⟩
      exact ⟨F, ⟨_, _, _, _, h2.1⟩, h2.2, fun _ h => .inl h⟩
    have HF := hide hfin
    clear hb h0 hr hfin
    rcases Int.lt_or_le x 0 with h | h
    · have h2 : x ≤ 0 := by omega
      go_enter Try.func81, Try.ntmps81
      go_wp2
      go_ret
      exact ⟨rfl, HF.out 0 (by omega)⟩
    · rcases Int.lt_or_le 0 x with h1 | h1
      · go_enter Try.func81, Try.ntmps81
        go_wp2
        go_ret
        exact ⟨rfl, HF.out x (by omega)⟩
      · obtain rfl : x = 0 := by omega
        go_enter Try.func81, Try.ntmps81
        go_wp2
        go_ret
        exact ⟨rfl, HF.out 0 (by omega)⟩
end
end Go.Proofs.Ytfppddnfdinipaa
end
section
namespace Go.Proofs.Ytfppddnfdinipaa
open Go
theorem and_pow_ne (Z m : Nat) : (Z &&& 2 ^ m ≠ 0) ↔ Z.testBit m = true := by
  constructor
  · intro h
    cases hb : Z.testBit m with
    | true => rfl
    | false =>
      exfalso
      apply h
      apply Nat.eq_of_testBit_eq
      intro i
      rw [Nat.testBit_and, Nat.testBit_two_pow, Nat.zero_testBit]
      by_cases e : m = i
      · subst e; rw [hb, Bool.false_and]
      · simp [e]
  · intro h e
    have : (Z &&& 2 ^ m).testBit m = true := by rw [Nat.testBit_and, h, Nat.testBit_two_pow_self]; rfl
    rw [e, Nat.zero_testBit] at this
    cases this
theorem int_bit (z : Int) (m : Nat) (hm : m < 62) : (((z % 18446744073709551616).toNat).testBit m = true) ↔ (z / 2 ^ m) % 2 = 1 := by
  rw [Nat.testBit_eq_decide_div_mod_eq, decide_eq_true_iff]
  have h0 : 0 ≤ z % 18446744073709551616 := Int.emod_nonneg _ (by omega)
  obtain ⟨Z, hZ⟩ : ∃ Z : Nat, z % 18446744073709551616 = (Z : Int) := ⟨(z % 18446744073709551616).toNat, by omega⟩
  rw [hZ, Int.toNat_natCast]
  have hp : (18446744073709551616 : Int) = 2 ^ m * (2 * 2 ^ (63 - m)) := by
    have : (18446744073709551616 : Int) = 2 ^ 64 := by decide
    rw [this, show (2 : Int) * 2 ^ (63 - m) = 2 ^ (63 - m + 1) by rw [Int.pow_succ]; omega, ← Int.pow_add]
    congr 1
    omega
  obtain ⟨q, hq⟩ : ∃ q, z = (Z : Int) + 18446744073709551616 * q := ⟨z / 18446744073709551616, by omega⟩
  have h2m : (0 : Int) < 2 ^ m := Int.pow_pos (by omega)
  have e : z / 2 ^ m = (Z : Int) / 2 ^ m + 2 * (2 ^ (63 - m) * q) := by
    rw [hq, hp, Int.mul_assoc, Int.add_mul_ediv_left _ _ (by omega), Int.mul_assoc]
  rw [e]
  have e2 : ((Z / 2 ^ m : Nat) : Int) = (Z : Int) / 2 ^ m := by
    rw [Int.natCast_ediv]
    simp
  rw [← e2]
  omega
theorem wake_bit (z : Int) (m : Nat) (hm : m < 62) : (bits .and .i64 (z / 2 ^ m) 1 == 1) = (bits .and .u64 (IntKind.u64.wrap z) (IntKind.u64.wrap (2 ^ m)) != 0) := by
  have h1 : bits .and .i64 (z / 2 ^ m) 1 = (z / 2 ^ m) % 2 := by
    have : (BitVec.ofInt 64 (z / 2 ^ m) &&& BitVec.ofInt 64 1).toNat = (((z / 2 ^ m) % 18446744073709551616).toNat) % 2 := by
      rw [BitVec.toNat_and, BitVec.toNat_ofInt, show (BitVec.ofInt 64 1).toNat = 1 by decide, Nat.and_one_is_mod, show ((2 ^ 64 : Nat) : Int) = 18446744073709551616 by decide]
    show IntKind.i64.wrap ((BitVec.ofInt 64 (z / 2 ^ m) &&& BitVec.ofInt 64 1).toNat : Int) = _
    rw [this]
    simp [IntKind.wrap, IntKind.signed, IntKind.bits]
    omega
  have h3 : (2 : Int) ^ m < 9223372036854775808 := by
    have : (2 : Int) ^ m ≤ 2 ^ 61 := by
      have := Nat.pow_le_pow_right (show 0 < 2 by omega) (show m ≤ 61 by omega)
      exact_mod_cast this
    have e : (2 : Int) ^ 61 = 2305843009213693952 := by decide
    omega
  have h4 : (0 : Int) < 2 ^ m := Int.pow_pos (by omega)
  have hw : IntKind.u64.wrap ((2 : Int) ^ m) = 2 ^ m := by
    simp [IntKind.wrap, IntKind.signed, IntKind.bits]
    omega
  have h2 : bits .and .u64 (IntKind.u64.wrap z) (IntKind.u64.wrap (2 ^ m)) = (((z % 18446744073709551616).toNat &&& 2 ^ m : Nat) : Int) := by
    have e1 : (BitVec.ofInt 64 (IntKind.u64.wrap z)).toNat = (z % 18446744073709551616).toNat := by
      rw [BitVec.toNat_ofInt]
      simp [IntKind.wrap, IntKind.signed, IntKind.bits]
    have e2 : (BitVec.ofInt 64 ((2 : Int) ^ m)).toNat = 2 ^ m := by
      rw [BitVec.toNat_ofInt]
      have : ((2 : Int) ^ m) % ((2 ^ 64 : Nat) : Int) = ((2 ^ m : Nat) : Int) := by
        rw [Int.emod_eq_of_lt (by omega) (by omega)]
        simp
      rw [this, Int.toNat_natCast]
    have hlt : (z % 18446744073709551616).toNat &&& 2 ^ m < 18446744073709551616 := Nat.lt_of_le_of_lt (Nat.and_le_left) (by omega)
    rw [hw]
    show IntKind.u64.wrap ((BitVec.ofInt 64 (IntKind.u64.wrap z) &&& BitVec.ofInt 64 ((2 : Int) ^ m)).toNat : Int) = _
    rw [BitVec.toNat_and, e1, e2]
    generalize (z % 18446744073709551616).toNat &&& 2 ^ m = t at hlt
    simp [IntKind.wrap, IntKind.signed, IntKind.bits]
    omega
  rw [h1, h2, Bool.eq_iff_iff]
  have h5 := int_bit z m hm
  have h6 := and_pow_ne (z % 18446744073709551616).toNat m
  rw [beq_iff_eq, ← h5, ← h6]
  simp only [bne_iff_ne, ne_eq]
  omega
end Go.Proofs.Ytfppddnfdinipaa
end
section
namespace Go.Proofs.Ytfppddnfdinipaa
open Go Go.RowKit
set_option maxRecDepth 100000
set_option maxHeartbeats 1000000 in
theorem rkeep_any {g ra c n q c2 : Nat} {vw : Value} {de fu : Int} {dn : Bool} (K : List (List UInt8)) (x : Nat) (b : List UInt8) (w : World) (hn : n ≤ 8192) (hKn : K.length = n) (hK : ∀ b ∈ K, b.length = 64) (hx : x < n) (hb64 : b.length = 64)
    (hb : Blk w g 179 (rdv (.slice (some ⟨ra, 0, none⟩) (n * 64) c) vw de fu dn)) (ha : w.ownsRow 0 5 1 (.slice (some ⟨ra, 0, none⟩) (n * 64) c) (n * 64) (keptCells K)) (hq : w.ownsRow 0 5 1 (.slice (some ⟨q, 0, none⟩) 64 c2) 64 (bv b)) :
    Calls Try.prog 136 #[.pointer (some ⟨g, 0, none⟩), .agg #[.int .i64 (x : Int), .slice (some ⟨q, 0, none⟩) 64 c2]] w fun e w' => e = .returned (.tuple #[]) ∧ w'.ownsRow 0 5 1 (.slice (some ⟨ra, 0, none⟩) (n * 64) c) (n * 64) (keptCells (K.set x b)) ∧ Turned (fun k => k = ra) w w' := by
  obtain ⟨cur, hcur, hcs, hnc, hup⟩ := own_upd ha
  rw [Nat.mul_one] at hcs hup
  have c0 := (hb.cell 0).trans (rdv0 ..)
  have hlt := hb.lt
  have hraw : ra < w.heap.size := (owned_ltN ha rfl).2
  have hqw : q < w.heap.size := (owned_ltN hq rfl).2
  have i0 : (0 : Int) ≤ (x : Int) := by omega
  have i1 : (x : Int) ≤ 8192 := by omega
  have HUP := hide (And.intro hup (And.intro hq hcur))
  have HKS := hide (kept_set K x b hK hb64 (by omega))
  clear hb ha hup hq hcur hK hKn
  have hbx0 := Blk.new w 228 #[.int .i64 (x : Int), .slice (some ⟨q, 0, none⟩) 64 c2]
  go_enter Try.func136, Try.ntmps136
  go_wp2_with fail
  obtain ⟨w1, hw1⟩ : ∃ w1, w1 = w.alloc (.cells #[.int .i64 (x : Int), .slice (some ⟨q, 0, none⟩) 64 c2] 228) := ⟨_, rfl⟩
  rw [← hw1] at hbx0 ⊢
  have hB1 : Below w.heap.size w w1 := by rw [hw1]; exact (Below.refl _ _).alloc (Nat.le_refl _) _
  have HBX := hide hbx0
  have hbx : w.heap.size < w1.heap.size := hbx0.lt
  have hg1 : g < w1.heap.size := by omega
  have c0 := (hB1.cell (p := ⟨g, 0, none⟩) hlt).trans c0
  clear hw1 hbx0
  refine wp_made 10 [] (by kernel_rfl) (by kernel_rfl) (by intro p hp; cases hp) List.nodup_nil (by intro t ht; cases ht) ?_
  simp only [List.take_succ_cons, List.take_zero, List.drop_succ_cons, List.drop_zero]
  refine made_val (.pointer (some ⟨g, 0, none⟩)) (by kernel_rfl) (by kernel_rfl) (by kernel_rfl) (fun _ _ => by kernel_rfl) ?_
  simp only [Act.put, List.setIfInBounds_toArray, List.set_cons_zero, List.set_cons_succ]
  refine made_val (.pointer (some ⟨g, 0, none⟩)) (by kernel_rfl) (by kernel_rfl) (by kernel_rfl) (fun _ _ => by kernel_rfl) ?_
  simp only [Act.put, List.setIfInBounds_toArray, List.set_cons_zero, List.set_cons_succ]
  refine made_val (.pointer (some ⟨g, 0, none⟩)) (by kernel_rfl) (by kernel_rfl) (by kernel_rfl) (fun _ _ => by kernel_rfl) ?_
  simp only [Act.put, List.setIfInBounds_toArray, List.set_cons_zero, List.set_cons_succ]
  refine made_val (.slice (some ⟨ra, 0, none⟩) (n * 64) c) (by kernel_rfl) (by kernel_rfl) (by kernel_rfl) (fun W hW => exec_load_slice (o := ⟨some 7, _, _, _, _, _⟩) 66 5 (.tmp 6) rfl ⟨g, 0, none⟩ rfl _ W Try.underlying66 ((hW.cell (p := ⟨g, 0, none⟩) hg1).trans c0)) ?_
  simp only [Act.put, List.setIfInBounds_toArray, List.set_cons_zero, List.set_cons_succ]
  refine made_val (.pointer (some ⟨w.heap.size, 0, none⟩)) (by kernel_rfl) (by kernel_rfl) (by kernel_rfl) (fun _ _ => by kernel_rfl) ?_
  simp only [Act.put, List.setIfInBounds_toArray, List.set_cons_zero, List.set_cons_succ]
  refine made_val (.int .i64 (x : Int)) (by kernel_rfl) (by kernel_rfl) (by kernel_rfl) (fun W hW => exec_load_cell (o := ⟨some 9, _, _, _, _, _⟩) 3 (.tmp 8) rfl ⟨w.heap.size, 0, none⟩ rfl _ _ W Try.underlying3 rfl ((hW.cell (p := ⟨w.heap.size, 0, none⟩) hbx).trans (HBX.out.cell 0))) ?_
  simp only [Act.put, List.setIfInBounds_toArray, List.set_cons_zero, List.set_cons_succ]
  refine made_val (.int .i64 ((x : Int) * 64)) (by kernel_rfl) (by kernel_rfl) (by kernel_rfl) (fun W hW => ?hmul) ?_
  case hmul =>
    go_simp
    first | done | exact IntWalk.wrap64_in _ (by omega) | (simp [IntKind.wrap, IntKind.signed, IntKind.bits]; omega)
  simp only [Act.put, List.setIfInBounds_toArray, List.set_cons_zero, List.set_cons_succ]
  rw [show (x : Int) * 64 = ((x * 64 : Nat) : Int) by omega]
  refine made_val (.slice (if c = x * 64 then some ⟨ra, 0, none⟩ else (some (⟨ra, 0, none⟩ : Addr)).map (·.add (x * 64))) (n * 64 - x * 64) (c - x * 64)) (by kernel_rfl) (by kernel_rfl) (by kernel_rfl) (fun W _ => exec_slice (o := ⟨some 11, _, _, _, _, _⟩) 66 (.tmp 7) (some (.tmp 10)) none none rfl _ (fun W => run_sliceAt_from 66 5 Try.underlying66 size5 (some ⟨ra, 0, none⟩) (n * 64) c (x * 64) (by omega) W) W) ?_
  simp only [Act.put, List.setIfInBounds_toArray, List.set_cons_zero, List.set_cons_succ]
  rw [if_neg (show ¬ c = x * 64 by omega), show (some (⟨ra, 0, none⟩ : Addr)).map (·.add (x * 64)) = some ⟨ra, x * 64, none⟩ by simp [Addr.add_mid]]
  refine made_val (.pointer (some ⟨w.heap.size, 1, none⟩)) (by kernel_rfl) (by kernel_rfl) (by kernel_rfl) (fun _ _ => by kernel_rfl) ?_
  simp only [Act.put, List.setIfInBounds_toArray, List.set_cons_zero, List.set_cons_succ]
  refine made_val (.slice (some ⟨q, 0, none⟩) 64 c2) (by kernel_rfl) (by kernel_rfl) (by kernel_rfl) (fun W hW => exec_load_slice (o := ⟨some 13, _, _, _, _, _⟩) 66 5 (.tmp 12) rfl ⟨w.heap.size, 1, none⟩ rfl _ W Try.underlying66 ((hW.cell (p := ⟨w.heap.size, 1, none⟩) hbx).trans (HBX.out.cell 1))) ?_
  simp only [Act.put, List.setIfInBounds_toArray, List.set_cons_zero, List.set_cons_succ]
  show ∀ w', _ → _
  intro w4 hb4
  simp only [ended]
  have hb4 : Below w1.heap.size w1 w4 := hb4
  have hB4 : Below w.heap.size w w4 := hB1.trans (Below.mono hb4 (by omega))
  have hcur4 := HUP.out.2.2.below hB4 hraw
  have hq4 : w4.ownsRow 0 5 1 (.slice (some ⟨q, 0, none⟩) 64 c2) 64 (bv b) := owned_keepN HUP.out.2.1 fun k _ hl => hB4.block k hl
  have hsrc : Src w4 (some ⟨q, 0, none⟩) 64 c2 (bv b) := by
    have h := hq4
    rw [show 64 = b.length from hb64.symm] at h ⊢
    exact owned_src0 h
  have hbl : (bv b).length = 64 := by rw [bvL, hb64]
  have hmin : (bv b).length = Nat.min 64 (n * 64 - x * 64) := by rw [hbl]; exact (Nat.min_eq_left (by omega)).symm
  refine wpList_copyS (o := ⟨some 14, _, _, _, _, _⟩) rfl (.tmp 11) (.tmp 13) 66 66 rfl 5 Try.underlying66 size5 ra (x * 64) (n * 64 - x * 64) (c - x * 64) (some ⟨q, 0, none⟩) 64 c2 cur 5 hcur4 (bv b) hmin hsrc (by rw [hbl]; omega) rfl rfl ?_
  intro w5 hb5 hg5
  have H5 := hide (And.intro hb5 (And.intro hg5 hB4))
  clear hb5 hg5 hcur4 hq4 hsrc hmin hB4 hb4
  simp only [Act.put, List.setIfInBounds_toArray, List.set_cons_zero, List.set_cons_succ]
  go_wp2_with fail
  go_end0
  refine ⟨rfl, ?_, (Turned.of_below H5.out.2.2 _).trans (Turned.of_grown H5.out.2.1 (fun k h _ => by injection h with h; exact h.symm))⟩
  rw [HKS.out]
  exact HUP.out.1 w5 (x * 64) (bv b) (by rw [hbl]; omega) H5.out.1
theorem wait_at (us : List (Int × Value)) (i : Nat) (u : Int × Value) (h : us[i]? = some u) : ((waitCells us).drop (i * 2)).take 2 = [.int .i64 u.1, u.2] := by
  unfold waitCells
  refine flat_at (s := 2) (us.map fun u => [.int .i64 u.1, u.2]) i [.int .i64 u.1, u.2] ?_ ?_
  · intro b hb
    obtain ⟨l, hl, rfl⟩ := List.mem_map.1 hb
    rfl
  · simp [h]
theorem sz_wait : (Try.prog.info? 228).map (·.size) = some 2 := by kernel_rfl
theorem RefBlk.slice {w : World} {F : Nat → Prop} {g ra c : Nat} {vw : Value} {us : List (Int × Value)} {D : Dv} (h : RefBlk w F g ra c vw us D) : ∃ A cp, vw = .slice A D.pend.length cp := by
  rcases owned_formN h.row with ⟨h, h0, _⟩ | ⟨r, cap, _, h, _⟩
  · exact ⟨none, 0, by rw [h, h0]⟩
  · exact ⟨_, cap, h⟩
/-- all that was pending has settled -/
theorem rleft_settled {w w' : World} {F : Nat → Prop} {g ra c : Nat} {vw : Value} {us : List (Int × Value)} {D : Dv} {K : List (List UInt8)} {de fu : Int} {dn : Bool} (h : RefBlk w F g ra c vw us D) (hl : K.length = D.kept.length) (hb : Blk w' g 179 (rdv (.slice (some ⟨ra, 0, none⟩) (D.kept.length * 64) c) (.slice none 0 0) de fu dn))
    (ha : w'.ownsRow 0 5 1 (.slice (some ⟨ra, 0, none⟩) (D.kept.length * 64) c) (D.kept.length * 64) (keptCells K)) (ht : Turned (fun k => k = g ∨ k = ra) w w') (hok : Dv.Ok { de := de, fu := fu, dn := dn, kept := K, pend := [] }) : RLeft w F g { de := de, fu := fu, dn := dn, kept := K, pend := [] } w' := by
  refine ⟨F, ⟨ra, c, .slice none 0 0, [], h.fg, h.fa, fun k hk => (by cases hk), fun k hf => Nat.lt_of_lt_of_le (h.flt k hf) ht.size, by rw [hl]; exact hb, by rw [hl]; exact ha, ⟨rfl, .inl ⟨rfl, rfl⟩⟩, ⟨rfl, fun i p hp => by simp at hp⟩, hok⟩, ht.mono fun k _ hk => ?_, fun _ h => .inl h⟩
  rcases hk with rfl | rfl
  · exact h.fg
  · exact h.fa
set_option maxHeartbeats 1000000 in
theorem rflush_any {D : Dv} {F : Nat → Prop} {g : Nat} (w : World) (h : RefAt w F g D) (hde : D.de ≤ 1000000000) (hm : D.pend.length ≤ 100000) :
    Calls Try.prog 134 #[.pointer (some ⟨g, 0, none⟩)] w fun e w' => e = .returned (.int .i64 D.flush.1) ∧ RLeft w F g D.flush.2 w' := by
  have h0 := h
  obtain ⟨ra, c, vw, us, hr⟩ := h
  obtain ⟨A, cp, rfl⟩ := hr.slice
  have hb := hr.blk
  have HR := hide (And.intro h0 hr)
  have hnk := hr.ok.n2
  clear h0
  cases hdn : D.dn with
  | true =>
    rw [show D.flush = (10, D) by simp [Dv.flush, hdn]]
    rw [hdn] at hb
    have c4 := (hb.cell 4).trans (rdv4 ..)
    have hlt := hb.lt
    clear hb hr
    go_enter Try.func134, Try.ntmps134
    go_wp2
    go_ret
    exact ⟨rfl, .same HR.out.1⟩
  | false =>
    rw [hdn] at hb
    have c4 := (hb.cell 4).trans (rdv4 ..)
    have hlt := hb.lt
    rcases tick_cases D.de D.fu with ⟨hf, ht⟩ | ⟨fu', ht, hf⟩
    · have ok' := hr.ok.ticked ht D.pend hr.ok.p64 true
      rw [show D.flush = (10, { D with de := D.de, fu := 0, dn := true }) by simp [Dv.flush, hdn, ht]]
      have HT := hide (And.intro ht (And.intro hr.ok.de hr.ok.fu))
      have HX := hide (And.intro ok' hb)
      clear ok' ht hb hr
      go_enter Try.func134, Try.ntmps134
      go_wp2_with fail
      refine (rdeed_any _ ⟨HT.out.2.1, hde⟩ HT.out.2.2 HX.out.2).mono ?_
      rintro e w1 ⟨rfl, hb1, hg1⟩
      rw [HT.out.1] at hb1 ⊢
      rw [show decide ((10 : Int) = 0) = false from rfl]
      dsimp only at hb1 ⊢
      have H1 := hide (And.intro hb1 hg1)
      clear hb1 hg1
      go_wp2_with fail
      go_ret
      have h2 := rleft_own HR.out.2 (D' := { D with de := D.de, fu := 0, dn := true }) H1.out.1 H1.out.2 rfl rfl HX.out.1
      exact ⟨rfl, F, ⟨_, _, _, _, h2.1⟩, h2.2, fun _ h => .inl h⟩
    · have ok' := hr.ok.settled (fun _ => true) false (show 0 ≤ D.de + 1 by have := hr.ok.de; omega) (show 0 ≤ fu' ∧ fu' ≤ 9223372036854775807 by have := hr.ok.fu; exact ⟨hf.1 this.1, by omega⟩)
      rw [show D.flush = (0, { de := D.de + 1, fu := fu', dn := false, kept := settleL (fun _ => true) 0 D.pend D.kept, pend := [] }) by simp [Dv.flush, hdn, ht]]
      have HT := hide (And.intro ht (And.intro hr.ok.de hr.ok.fu))
      have HX := hide (And.intro ok' hb)
      clear ok' ht hb hr
      go_enter Try.func134, Try.ntmps134
      go_wp2_with fail
      refine (rdeed_any _ ⟨HT.out.2.1, hde⟩ HT.out.2.2 HX.out.2).mono ?_
      rintro e w1 ⟨rfl, hb1, hg1⟩
      rw [HT.out.1] at hb1 ⊢
      rw [show decide ((0 : Int) = 0) = true from rfl]
      dsimp only at hb1 ⊢
      have hne1 : ∀ {n s : Nat} {e : TypeId} {v : Value} {xs : List Value}, w.ownsRow 0 e s v n xs → e ≠ 179 → w1.ownsRow 0 e s v n xs := fun h2 he => owned_keepN h2 fun k hv hl => hg1.block k hl (fun e' => owned_neN h2 HR.out.2.blk he (by rw [hv, e']))
      have ha1 := hne1 HR.out.2.all (by decide)
      have hw1 := hne1 HR.out.2.row (by decide)
      have hq1 : ∀ (i : Nat) (p : Int × List UInt8), D.pend[i]? = some p → ∃ q c, us[i]? = some (p.1, .slice (some ⟨q, 0, none⟩) 64 c) ∧ q ≠ ra ∧ w1.ownsRow 0 5 1 (.slice (some ⟨q, 0, none⟩) 64 c) 64 (bv p.2) := fun i p hp => by
        obtain ⟨q, c, h1, _, h3, h4⟩ := HR.out.2.wts.2 i p hp
        exact ⟨q, c, h1, h3, hne1 h4 (by decide)⟩
      have hgr : g ≠ ra := fun e => owned_neN HR.out.2.all HR.out.2.blk (by decide) (by rw [e]; rfl)
      have hlt1 := hb1.lt
      have H1 := hide (And.intro (And.intro hb1 hg1) (And.intro ha1 (And.intro hw1 (And.intro hq1 hgr))))
      clear hb1 hg1 hne1 ha1 hw1 hq1 hgr
      go_wp2_with fail
      go_loopw [3] (fun v wr => ∃ i : Nat, i ≤ D.pend.length ∧ v = .int .i64 (i : Int) ∧ wr.ownsRow 0 5 1 (.slice (some ⟨ra, 0, none⟩) (D.kept.length * 64) c) (D.kept.length * 64) (keptCells (settleL (fun _ => true) 0 (D.pend.take i) D.kept)) ∧ Turned (fun k => k = ra) w1 wr) (fun v _ => D.pend.length - (intOf v).toNat)
      case atStart => exact ⟨0, by omega, rfl, by simpa [settleL] using H1.out.2.1, Turned.refl _ _⟩
      case round =>
        obtain ⟨i, hi, rfl, ha, ht⟩ := hrel
        have hgb : Blk wr g 179 (rdv (.slice (some ⟨ra, 0, none⟩) (D.kept.length * 64) c) (.slice A D.pend.length cp) (D.de + 1) fu' false) := (ht.block g hlt1 H1.out.2.2.2.2).trans H1.out.1.1
        have c1 := (hgb.cell 1).trans (rdv1 ..)
        have f1 := hgb.frozen 1
        have hltr := hgb.lt
        have HW := hide (And.intro ha (And.intro ht hgb))
        clear ha ht hgb
        by_cases hil : i < D.pend.length
        · have i1 : (i : Int) < (D.pend.length : Int) := by omega
          have i0 : (0 : Int) ≤ (i : Int) := by omega
          obtain ⟨rw_, cap', hvp⟩ := owned_placeN H1.out.2.2.1 (by omega)
          injection hvp with e1 _ e2
          subst e1 e2
          obtain ⟨⟨x0, b⟩, hpj⟩ : ∃ p, D.pend[i]? = some p := ⟨D.pend[i]'hil, List.getElem?_eq_getElem _⟩
          have hpo := HR.out.2.ok.p64 _ (List.mem_of_getElem? hpj)
          obtain ⟨x, rfl⟩ : ∃ x : Nat, x0 = (x : Int) := ⟨x0.toNat, by have := hpo.2.1; dsimp only at this; omega⟩
          have hx : x < D.kept.length := by have := hpo.2.2; dsimp only at this; omega
          have hb64 : b.length = 64 := hpo.1
          obtain ⟨q, c2, hu, hqr, hqo⟩ := H1.out.2.2.2.1 i _ hpj
          have hwr : wr.ownsRow 0 228 2 (.slice (some ⟨rw_, 0, none⟩) D.pend.length cp) D.pend.length (waitCells us) := owned_keepN H1.out.2.2.1 fun k hv hl => HW.out.2.1.block k hl (fun e => by
            have hv : some rw_ = some k := hv
            injection hv with hv
            exact owned_ne2 H1.out.2.2.1 H1.out.2.1 (by decide) rfl rfl (by rw [hv, e]))
          have hrange : wr.rangeAt rw_ (i * 2) [.int .i64 (x : Int), .slice (some ⟨q, 0, none⟩) 64 c2] := own_range hwr (i * 2) 2 _ (wait_at us i _ hu)
          have hqw : wr.ownsRow 0 5 1 (.slice (some ⟨q, 0, none⟩) 64 c2) 64 (bv b) := owned_keepN hqo fun k hv hl => HW.out.2.1.block k hl (fun e => by
            have hv : some q = some k := hv
            injection hv with hv
            exact hqr (by rw [hv, e]))
          have cw0 : wr.cell? ⟨rw_, i * 2, none⟩ = some (.int .i64 (x : Int)) := hrange 0 _ rfl
          have cw1 : wr.cell? ⟨rw_, i * 2 + 1, none⟩ = some (.slice (some ⟨q, 0, none⟩) 64 c2) := hrange 1 _ rfl
          have HRA := hide hqw
          have HP := hide hpj
          clear hrange hqw hwr hqo hu hpj hpo
          go_wp2_with fail
          have hKl : (settleL (fun _ => true) 0 (D.pend.take i) D.kept).length = D.kept.length := settle_len ..
          have hKa : ∀ b ∈ settleL (fun _ => true) 0 (D.pend.take i) D.kept, b.length = 64 := settle_all _ _ _ _ (fun p hp => (HR.out.2.ok.p64 p (List.mem_of_mem_take hp)).1) HR.out.2.ok.k64
          refine (rkeep_any _ x b wr hnk hKl hKa hx hb64 HW.out.2.2 HW.out.1 HRA.out).mono ?_
          rintro e w2 ⟨rfl, ha2, ht2⟩
          have H2 := hide (And.intro ha2 (HW.out.2.1.trans ht2))
          clear ha2 ht2 hKl hKa
          dsimp only
          go_wp2_with fail
          go_roundw
          case rel =>
            refine ⟨i + 1, by omega, by go_num, ?_, H2.out.2⟩
            rw [settle_take _ _ _ i _ HP.out, if_pos rfl]
            exact H2.out.1
          case measure => simp [intOf]; omega
        · obtain rfl : i = D.pend.length := by omega
          go_wp2_with fail
          go_ret
          have hb5 := HW.out.2.2.set_ 1 (.slice none 0 0)
          rw [rdv_set1] at hb5
          have ha5 := HW.out.1
          rw [List.take_length] at ha5
          refine ⟨rfl, rleft_settled HR.out.2 (settle_len ..) hb5 (owned_keepN ha5 fun k hk _ => Below.heap_setCell wr ⟨g, 1, none⟩ _ k (fun e => ?_)) ?_ HX.out.1⟩
          · have hk : some ra = some k := hk
            injection hk with hk
            have e : k = g := e
            exact H1.out.2.2.2.2 (by rw [hk, e])
          · exact (((Turned.of_grown (S := fun k => k = g ∨ k = ra) H1.out.1.2 (fun k h _ => .inl (by injection h with h; exact h.symm))).trans (HW.out.2.1.mono fun _ _ h => .inr h))).setCell (fun _ => .inl rfl) _
set_option maxHeartbeats 1000000 in
theorem rwake_any {D : Dv} {F : Nat → Prop} {g : Nat} (z : Int) (hz : -9223372036854775808 ≤ z ∧ z ≤ 9223372036854775807) (w : World) (h : RefAt w F g D) (hm : D.pend.length ≤ 100000) :
    Calls Try.prog 88 #[.pointer (some ⟨g, 0, none⟩), .int .i64 z] w fun e w' => e = .returned (.int .i64 (D.wake z).1) ∧ RLeft w F g (D.wake z).2 w' := by
  have h0 := h
  obtain ⟨ra, c, vw, us, hr⟩ := h
  obtain ⟨A, cp, rfl⟩ := hr.slice
  have hb := hr.blk
  have HR := hide (And.intro h0 hr)
  have hnk := hr.ok.n2
  clear h0
  cases hdn : D.dn with
  | false =>
    rw [show D.wake z = (15, D) by simp [Dv.wake, hdn]]
    rw [hdn] at hb
    have c4 := (hb.cell 4).trans (rdv4 ..)
    have hlt := hb.lt
    clear hb hr
    go_enter Try.func88, Try.ntmps88
    go_wp2
    go_ret
    exact ⟨rfl, .same HR.out.1⟩
  | true =>
    rw [hdn] at hb
    have c4 := (hb.cell 4).trans (rdv4 ..)
    have hlt1 := hb.lt
    have ok' := hr.ok.settled (wakeB (IntKind.u64.wrap z)) false hr.ok.de (show 0 ≤ (0 : Int) ∧ (0 : Int) ≤ 9223372036854775807 by omega)
    rw [show D.wake z = (0, { de := D.de, fu := 0, dn := false, kept := settleL (wakeB (IntKind.u64.wrap z)) 0 D.pend D.kept, pend := [] }) by simp [Dv.wake, hdn]]
    have hgr : g ≠ ra := fun e => owned_neN hr.all hb (by decide) (by rw [e]; rfl)
    have HX := hide ok'
    have H1 := hide (And.intro hb hgr)
    have z1 := hz.1
    have z2 := hz.2
    clear ok' hb hr hgr hz
    go_enter Try.func88, Try.ntmps88
    go_wp2_with fail
    go_loopw [5] (fun v wr => ∃ i : Nat, i ≤ D.pend.length ∧ v = .int .i64 (i : Int) ∧ wr.ownsRow 0 5 1 (.slice (some ⟨ra, 0, none⟩) (D.kept.length * 64) c) (D.kept.length * 64) (keptCells (settleL (wakeB (IntKind.u64.wrap z)) 0 (D.pend.take i) D.kept)) ∧ Turned (fun k => k = ra) w wr) (fun v _ => D.pend.length - (intOf v).toNat)
    case atStart => exact ⟨0, by omega, rfl, by simpa [settleL] using HR.out.2.all, Turned.refl _ _⟩
    case round =>
      obtain ⟨i, hi, rfl, ha, ht⟩ := hrel
      have hgb : Blk wr g 179 (rdv (.slice (some ⟨ra, 0, none⟩) (D.kept.length * 64) c) (.slice A D.pend.length cp) D.de D.fu true) := (ht.block g hlt1 H1.out.2).trans H1.out.1
      have c1 := (hgb.cell 1).trans (rdv1 ..)
      have f1 := hgb.frozen 1
      have f3 := hgb.frozen 3
      have f4 := hgb.frozen 4
      have c3 := (hgb.cell 3).trans (rdv3 ..)
      have c4 := (hgb.cell 4).trans (rdv4 ..)
      have hltr := hgb.lt
      have HW := hide (And.intro ha (And.intro ht hgb))
      clear ha ht hgb
      by_cases hil : i < D.pend.length
      · have i1 : (i : Int) < (D.pend.length : Int) := by omega
        have i0 : (0 : Int) ≤ (i : Int) := by omega
        have hi9 : i ≤ 100000 := by omega
        have hbit := wake_bit z (i % 62) (Nat.mod_lt _ (by omega))
        cases hwk : wakeB (IntKind.u64.wrap z) i with
        | true =>
          have hbt : (bits .and .i64 (z / 2 ^ (i % 62)) 1 == 1) = true := hbit.trans hwk
          have HWK := hide hwk
          clear hbit hwk
          obtain ⟨rw_, cap', hvp⟩ := owned_placeN HR.out.2.row (by omega)
          injection hvp with e1 _ e2
          subst e1 e2
          obtain ⟨⟨x0, b⟩, hpj⟩ : ∃ p, D.pend[i]? = some p := ⟨D.pend[i]'hil, List.getElem?_eq_getElem _⟩
          have hpo := HR.out.2.ok.p64 _ (List.mem_of_getElem? hpj)
          obtain ⟨x, rfl⟩ : ∃ x : Nat, x0 = (x : Int) := ⟨x0.toNat, by have := hpo.2.1; dsimp only at this; omega⟩
          have hx : x < D.kept.length := by have := hpo.2.2; dsimp only at this; omega
          have hb64 : b.length = 64 := hpo.1
          obtain ⟨q, c2, hu, _, hqr, hqo⟩ := HR.out.2.wts.2 i _ hpj
          have hwr : wr.ownsRow 0 228 2 (.slice (some ⟨rw_, 0, none⟩) D.pend.length cp) D.pend.length (waitCells us) := owned_keepN HR.out.2.row fun k hv hl => HW.out.2.1.block k hl (fun e => by
            have hv : some rw_ = some k := hv
            injection hv with hv
            exact owned_ne2 HR.out.2.row HR.out.2.all (by decide) rfl rfl (by rw [hv, e]))
          have hrange : wr.rangeAt rw_ (i * 2) [.int .i64 (x : Int), .slice (some ⟨q, 0, none⟩) 64 c2] := own_range hwr (i * 2) 2 _ (wait_at us i _ hu)
          have hqw : wr.ownsRow 0 5 1 (.slice (some ⟨q, 0, none⟩) 64 c2) 64 (bv b) := owned_keepN hqo fun k hv hl => HW.out.2.1.block k hl (fun e => by
            have hv : some q = some k := hv
            injection hv with hv
            exact hqr (by rw [hv, e]))
          have cw0 : wr.cell? ⟨rw_, i * 2, none⟩ = some (.int .i64 (x : Int)) := hrange 0 _ rfl
          have cw1 : wr.cell? ⟨rw_, i * 2 + 1, none⟩ = some (.slice (some ⟨q, 0, none⟩) 64 c2) := hrange 1 _ rfl
          have HRA := hide hqw
          have HP := hide hpj
          clear hrange hqw hwr hqo hu hpj hpo
          go_wp2_with fail
          have hKl : (settleL (wakeB (IntKind.u64.wrap z)) 0 (D.pend.take i) D.kept).length = D.kept.length := settle_len ..
          have hKa : ∀ b ∈ settleL (wakeB (IntKind.u64.wrap z)) 0 (D.pend.take i) D.kept, b.length = 64 := settle_all _ _ _ _ (fun p hp => (HR.out.2.ok.p64 p (List.mem_of_mem_take hp)).1) HR.out.2.ok.k64
          refine (rkeep_any _ x b wr hnk hKl hKa hx hb64 HW.out.2.2 HW.out.1 HRA.out).mono ?_
          rintro e w2 ⟨rfl, ha2, ht2⟩
          have H2 := hide (And.intro ha2 (HW.out.2.1.trans ht2))
          clear ha2 ht2 hKl hKa
          dsimp only
          go_wp2_with fail
          go_roundw
          case rel =>
            refine ⟨i + 1, by omega, by go_num, ?_, H2.out.2⟩
            rw [settle_take _ _ _ i _ HP.out, if_pos HWK.out]
            exact H2.out.1
          case measure => simp [intOf]; omega
        | false =>
          have hbt : (bits .and .i64 (z / 2 ^ (i % 62)) 1 == 1) = false := hbit.trans hwk
          obtain ⟨p, hpj⟩ : ∃ p, D.pend[i]? = some p := ⟨D.pend[i]'hil, List.getElem?_eq_getElem _⟩
          have HP := hide hpj
          have HWK := hide hwk
          clear hbit hwk hpj
          go_wp2_with fail
          go_roundw
          case rel =>
            refine ⟨i + 1, by omega, by go_num, ?_, HW.out.2.1⟩
            rw [settle_take _ _ _ i _ HP.out, HWK.out, if_neg (by simp)]
            exact HW.out.1
          case measure => simp [intOf]; omega
      · obtain rfl : i = D.pend.length := by omega
        go_wp2_with fail
        go_ret
        have hb5 := ((HW.out.2.2.set_ 1 (.slice none 0 0)).set_ 3 (.int .i64 0)).set_ 4 (.bool false)
        rw [rdv_set1, rdv_set3, rdv_set4] at hb5
        have ha5 := HW.out.1
        rw [List.take_length] at ha5
        refine ⟨rfl, rleft_settled HR.out.2 (settle_len ..) hb5 (owned_keepN ha5 fun k hk _ => ?_) ?_ HX.out⟩
        · have hk : some ra = some k := hk
          injection hk with hk
          have hkg : k ≠ g := fun e => H1.out.2 (by rw [hk, e])
          rw [Below.heap_setCell _ ⟨g, 4, none⟩ _ k hkg, Below.heap_setCell _ ⟨g, 3, none⟩ _ k hkg, Below.heap_setCell _ ⟨g, 1, none⟩ _ k hkg]
        · exact (((HW.out.2.1.mono (T := fun k => k = g ∨ k = ra) fun _ _ h => .inr h).setCell (p := ⟨g, 1, none⟩) (fun _ => .inl rfl) _).setCell (p := ⟨g, 3, none⟩) (fun _ => .inl rfl) _).setCell (p := ⟨g, 4, none⟩) (fun _ => .inl rfl) _
end Go.Proofs.Ytfppddnfdinipaa
end
section
namespace Go.Proofs.Ytfppddnfdinipaa
open Go Go.RowKit
theorem info_wait : (Try.prog.info? 228).map (fun i => (i.zero, i.size, i.bytes)) = some (some (.agg #[.int .i64 0, .slice none 0 0]), 2, 32) := by kernel_rfl
theorem wait_snoc (us : List (Int × Value)) (x : Int) (v : Value) : waitCells (us ++ [(x, v)]) = waitCells us ++ [.int .i64 x, v] := by simp [waitCells]
set_option maxRecDepth 100000
set_option maxHeartbeats 1000000 in
theorem rwrite_ok {D : Dv} {F : Nat → Prop} {g ra c : Nat} {vw : Value} {us : List (Int × Value)} {fu' : Int} (x : Int) (l : List UInt8) (A : Option Addr) (cap : Nat) (w : World) (hr : RefBlk w F g ra c vw us D) (hdn : D.dn = false) (hde : D.de ≤ 1000000000) (hm : D.pend.length ≤ 100000)
    (ht : tick D.de D.fu false = (0, D.de + 1, fu', false)) (hf : 0 ≤ fu' ∧ fu' ≤ 9223372036854775807) (hx : 0 ≤ x ∧ x < (D.kept.length : Int)) (hl : l.length ≤ 64) (hs : Src w A l.length cap (bv l)) (hsb : ∀ ad, A = some ad → 0 < l.length → ¬ F ad.block) :
    Calls Try.prog 133 #[.pointer (some ⟨g, 0, none⟩), .int .i64 x, .slice A l.length cap] w fun e w' => e = .returned (.int .i64 0) ∧ RLeft w F g { D with de := D.de + 1, fu := fu', dn := false, pend := D.pend ++ [(x, pad l)] } w' := by
  obtain ⟨i8, hi8, hz80, hz81, hz82⟩ := info_parts info_1
  obtain ⟨iw, hiw, hzw0, hzw1, hzw2⟩ := info_parts info_wait
  have hb := hr.blk
  rw [hdn] at hb
  have c4 := (hb.cell 4).trans (rdv4 ..)
  have hlt := hb.lt
  have hnk := hr.ok.n2
  have hx1 := hx.1
  have hx2 := hx.2
  have hl64 : ¬ (64 : Int) < (l.length : Int) := by omega
  have HR := hide (And.intro hr (And.intro hb (And.intro hs hsb)))
  have HT := hide (And.intro ht (And.intro hr.ok.de hr.ok.fu))
  have HF := hide (And.intro hf hdn)
  clear hb hr hs hsb ht hf hdn
  go_enter Try.func133, Try.ntmps133
  go_wp2_with fail
  refine (rsectors_any _ hnk HR.out.2.1).mono ?_
  rintro e w' ⟨rfl, rfl⟩
  dsimp only
  go_wp2_with fail
  refine (rdeed_any _ ⟨HT.out.2.1, hde⟩ HT.out.2.2 HR.out.2.1).mono ?_
  rintro e w1 ⟨rfl, hb1, hg1⟩
  rw [HT.out.1] at hb1 ⊢
  rw [show decide ((0 : Int) = 0) = true from rfl]
  dsimp only at hb1 ⊢
  have hs1 : Src w1 A l.length cap (bv l) := HR.out.2.2.1.turned2 (Turned.of_grown (S := (· = g)) hg1 (fun k h _ => by injection h with h; exact h.symm)) (fun ad ha h0 e => HR.out.2.2.2 ad ha h0 (by rw [show ad.block = g from e]; exact HR.out.1.fg))
  have H1 := hide (And.intro hb1 (And.intro hg1 hs1))
  have hlt1 := hb1.lt
  clear hb1 hg1 hs1
  go_wp2_with (at_make; refine wpList_make_full _ rfl _ _ 66 rfl w1.heap.size 5 i8 (.int .u8 0) 1 Try.underlying66 hi8 hz80 hz81 _ _ _ _ 64 rfl rfl ?e0 ?e1 ?e2 ?e3 ?e4 ?_)
  case e0 => rfl
  case e1 => rfl
  case e2 => rw [hz82]; omega
  case e3 => simp only [maxLen]; omega
  case e4 => exact Nat.le_refl _
  intro w2 own2 gr2
  rw [made_bv] at own2
  have own2 : w2.ownsRow w1.heap.size 5 1 (.slice (some ⟨w1.heap.size, 0, none⟩) 64 64) 64 (bv (List.replicate 64 0)) := own2
  have hb2 := (own_blk own2).1
  have hB2 : Below w1.heap.size w1 w2 := (Below.refl _ _).grown gr2 (Nat.le_refl _) (by intro k hk; cases hk)
  have hs2 : Src w2 A l.length cap (bv l) := H1.out.2.2.turned2 (Turned.of_below hB2 (fun _ => False)) (fun _ _ _ h => h)
  have HL : Hid ((bv l).length = Nat.min l.length 64) := hide (by rw [bvL]; exact (Nat.min_eq_left hl).symm)
  have HFT : Hid (0 + (bv l).length ≤ (bv (List.replicate 64 0)).toArray.size) := hide (by rw [bvL]; simp [bv]; omega)
  have H2 := hide (And.intro hb2 (And.intro hB2 hs2))
  clear hb2 hB2 hs2 own2 gr2
  have hpre : ∀ w3 : World, w2.grownBy w3 (some w1.heap.size) → Blk w3 g 179 (rdv (.slice (some ⟨ra, 0, none⟩) (D.kept.length * 64) c) vw (D.de + 1) fu' false) ∧
      ∃ k5 cap5 w5, (Builtin.append_ #[177, 177] 177 #[vw, .slice (some ⟨w3.heap.size, 0, none⟩) 1 1]).run Try.prog (w3.alloc (.cells #[.int .i64 x, .slice (some ⟨w1.heap.size, 0, none⟩) 64 64] 228)) = .ok (.slice (some ⟨k5, 0, none⟩) (D.pend.length + 1) cap5) w5 ∧
        w5.ownsRow 0 228 2 (.slice (some ⟨k5, 0, none⟩) (D.pend.length + 1) cap5) (D.pend.length + 1) (waitCells us ++ [.int .i64 x, .slice (some ⟨w1.heap.size, 0, none⟩) 64 64]) ∧ (w3.alloc (.cells #[.int .i64 x, .slice (some ⟨w1.heap.size, 0, none⟩) 64 64] 228)).grownBy w5 vw.ownBlock ∧
        (vw.ownBlock = some k5 ∨ k5 = w3.heap.size + 1) ∧ Blk w5 g 179 (rdv (.slice (some ⟨ra, 0, none⟩) (D.kept.length * 64) c) vw (D.de + 1) fu' false) := by
    intro w3 hg3
    have hs12 : w1.heap.size ≤ w2.heap.size := H2.out.2.1.size
    have hs23 := hg3.size
    have hdv2 := H1.out.1.below H2.out.2.1 hlt1
    have hdv3 : Blk w3 g 179 (rdv (.slice (some ⟨ra, 0, none⟩) (D.kept.length * 64) c) vw (D.de + 1) fu' false) := hdv2.grown hg3 (fun e => by injection e with e; omega)
    have hvg : vw.ownBlock ≠ some g := owned_neN HR.out.1.row HR.out.2.1 (by decide)
    have ho3 : w3.ownsRow 0 228 2 vw D.pend.length (waitCells us) := owned_keepN HR.out.1.row fun k hk hl => by
      have h1 := H1.out.2.1.size
      exact ((hg3.block k (by omega) (fun e => by injection e with e; omega)).trans (H2.out.2.1.block k (by omega))).trans (H1.out.2.1.block k hl (fun e => hvg (by rw [hk, e])))
    have ho4 : (w3.alloc (.cells #[.int .i64 x, .slice (some ⟨w1.heap.size, 0, none⟩) 64 64] 228)).ownsRow 0 228 2 vw D.pend.length (waitCells us) := owned_keepN ho3 fun k _ hl => Below.heap_alloc _ _ k hl
    obtain ⟨v5, w5, h1, h2, h3, h4⟩ := run_appG (P := Try.prog) (w := w3.alloc (.cells #[.int .i64 x, .slice (some ⟨w1.heap.size, 0, none⟩) 64 64] 228)) 0 177 177 228 iw _ 2 32 Try.underlying177 hiw hzw0 hzw1 hzw2 rfl (by omega) vw D.pend.length (waitCells us) ho4 ⟨w3.heap.size, 0, none⟩ 1 1 [.int .i64 x, .slice (some ⟨w1.heap.size, 0, none⟩) 64 64] rfl (MadeRow.cells (l := [.int .i64 x, .slice (some ⟨w1.heap.size, 0, none⟩) 64 64]) (Blk.new w3 _ _)) (by simp [Value.oneCell']) (by omega) (by simp only [maxLen]; omega) (by omega) (Nat.zero_le _)
    obtain ⟨k5, cap5, hv5⟩ := owned_placeN h2 (by omega)
    subst hv5
    refine ⟨hdv3, k5, cap5, w5, h1, h2, h3, ?_, (hdv3.alloc _).grown h3 (fun e => hvg e.symm)⟩
    rcases h4 with ⟨g', cap', e1, e2⟩ | ⟨e1, _⟩
    · injection e2 with e2
      injection e2 with e2
      injection e2 with e2
      rw [e1, e2]
      exact .inl rfl
    · have e1 : some k5 = some _ := e1
      injection e1 with e1
      rw [size_alloc] at e1
      exact .inr e1
  have HPRE := hide hpre
  clear hpre
  go_wp2_with (first
    | ((with_reducible refine wpList_copyS (o := ⟨some 31, _, _, _, _, _⟩) rfl (.tmp 29) (.tmp 30) 66 66 rfl 5 Try.underlying66 size5 w1.heap.size 0 64 64 A l.length cap (bv (List.replicate 64 0)).toArray 5 H2.out.1 (bv l) HL.out H2.out.2.2 HFT.out ?_ ?_ ?_); rfl; rfl; intro w3 h3 hg3; obtain ⟨hdv3, k5, cap5, w5, h5, ho5, hg5, hx5, hdv5⟩ := HPRE.out w3 hg3; have H3 := hide (And.intro h3 hg3); have H5 := hide (And.intro ho5 (And.intro hg5 (And.intro hx5 hdv5))); have c1w := (hdv3.cell 1).trans (rdv1 _ _ _ _ _); have c1x := (hdv5.cell 1).trans (rdv1 _ _ _ _ _); have f1x := hdv5.frozen 1; have hltx := hdv5.lt; have hlt3 := hdv3.lt; clear h3 hg3 ho5 hg5 hx5 hdv5 hdv3; dsimp only [Act.put, List.setIfInBounds_toArray, List.set_cons_zero, List.set_cons_succ])
    | (at_builtin; (refine wpList_value (o := ⟨some 41, _, _, _, _, _⟩) rfl (.slice (some ⟨k5, 0, none⟩) (D.pend.length + 1) cap5) w5 (exec_append (o := ⟨some 41, _, _, _, _, _⟩) (.tmp 36) (.tmp 40) 177 rfl vw (.slice (some ⟨w3.heap.size, 0, none⟩) 1 1) _ _ _ rfl rfl h5) ?_); dsimp only [Act.put, List.setIfInBounds_toArray, List.set_cons_zero, List.set_cons_succ]))
  go_ret
  obtain ⟨h3, hg3⟩ := H3.out
  rw [pad_copy l] at h3
  obtain ⟨ho5, hg5, hx5, hdv5⟩ := H5.out
  have hr := HR.out.1
  have hs1 := H1.out.2.1.size
  have hs2 := H2.out.2.1.size
  have hs3 := hg3.size
  have hs5 := hg5.size
  rw [size_alloc] at hs5
  have hT5 : Turned (fun k => k = g ∨ vw.ownBlock = some k) w' w5 := ((((Turned.of_grown (S := fun k => k = g ∨ vw.ownBlock = some k) H1.out.2.1 (fun k h _ => .inl (by injection h with h; exact h.symm))).trans (Turned.of_below H2.out.2.1 _)).then_ (Turned.of_grown (S := (· = w1.heap.size)) hg3 (fun k h _ => by injection h with h; exact h.symm)) (fun k hk h => by
    have h : k = w1.heap.size := h
    omega)).alloc _).then_ (Turned.of_grown (S := fun k => vw.ownBlock = some k) hg5 (fun k h _ => h)) (fun k _ h => .inr h)
  have hT6 := hT5.setCell (p := ⟨g, 1, none⟩) (fun _ => .inl rfl) (.slice (some ⟨k5, 0, none⟩) (D.pend.length + 1) cap5)
  obtain ⟨w6, hw6⟩ : ∃ w6, w6 = w5.setCell ⟨g, 1, none⟩ (.slice (some ⟨k5, 0, none⟩) (D.pend.length + 1) cap5) := ⟨_, rfl⟩
  have hb6 := hdv5.set_ 1 (.slice (some ⟨k5, 0, none⟩) (D.pend.length + 1) cap5)
  rw [rdv_set1] at hb6
  have hset : ∀ k, k ≠ g → w6.heap[k]? = w5.heap[k]? := fun k hk => by rw [hw6]; exact Below.heap_setCell w5 ⟨g, 1, none⟩ _ k hk
  have hs6 : w6.heap.size = w5.heap.size := by rw [hw6]; simp [World.setCell]
  rw [← hw6] at hT6 hb6 ⊢
  have hp8 : ∀ {n s : Nat} {v : Value} {xs : List Value}, w'.ownsRow 0 5 s v n xs → w6.ownsRow 0 5 s v n xs := fun h2 => owned_keepN h2 fun k hv hl => hT6.block k hl (fun e => by
    rcases e with e | e
    · exact owned_neN h2 hr.blk (by decide) (by rw [hv, e])
    · exact owned_ne2 hr.row h2 (by decide) e hv rfl)
  have hkg : k5 ≠ g := fun e => owned_neN ho5 hdv5 (by decide) (by rw [← e]; rfl)
  have hrow : w6.ownsRow 0 228 2 (.slice (some ⟨k5, 0, none⟩) (D.pend.length + 1) cap5) (D.pend.length + 1) (waitCells us ++ [.int .i64 x, .slice (some ⟨w1.heap.size, 0, none⟩) 64 64]) := owned_keepN ho5 fun k hv _ => hset k (by
    have hv : some k5 = some k := hv
    injection hv with hv
    rw [← hv]
    exact hkg)
  have hvlt : ∀ k, vw.ownBlock = some k → k < w'.heap.size := fun k hk => (owned_ltN hr.row hk).2
  have hglt : g < w'.heap.size := hr.blk.lt
  have hq6 : Blk w6 w1.heap.size 5 (bv (pad l)).toArray := by
    refine (hset _ (by omega)).trans (((hg5.block w1.heap.size (by rw [size_alloc]; have := h3.lt; omega) (fun e => ?_)).trans (Below.heap_alloc _ _ _ h3.lt)).trans h3)
    have := hvlt _ e.symm
    omega
  have hpl : (bv (pad l)).length = 64 := by rw [bvL, pad_len l hl]
  refine ⟨rfl, fun k => F k ∨ (w'.heap.size ≤ k ∧ k < w6.heap.size), ⟨ra, c, .slice (some ⟨k5, 0, none⟩) (D.pend.length + 1) cap5, us ++ [(x, .slice (some ⟨w1.heap.size, 0, none⟩) 64 64)], .inl hr.fg, .inl hr.fa, fun k hk => ?_, fun k hk => ?_, hb6, hp8 hr.all, ?_, ?_, ?_⟩, hT6.mono fun k _ hk => ?_, fun k hk => ?_⟩
  · have hk : some k5 = some k := hk
    injection hk with hk
    subst hk
    rcases hx5 with h | h
    · exact .inl (hr.fw _ h)
    · refine .inr ⟨by omega, ?_⟩
      have := (owned_ltN hrow (g := k5) rfl).2
      exact this
  · rcases hk with hk | hk
    · have := hr.flt k hk
      omega
    · exact hk.2
  · show w6.ownsRow 0 228 2 _ (D.pend ++ [(x, pad l)]).length (waitCells (us ++ [(x, .slice (some ⟨w1.heap.size, 0, none⟩) 64 64)]))
    rw [wait_snoc, List.length_append]
    exact hrow
  · refine ⟨by simp [hr.wts.1], fun i p hp => ?_⟩
    rcases Nat.lt_or_ge i D.pend.length with hi | hi
    · have hp2 : D.pend[i]? = some p := by
        have hp : (D.pend ++ [(x, pad l)])[i]? = some p := hp
        rwa [List.getElem?_append_left hi] at hp
      obtain ⟨q, c2, e1, e2, e3, e4⟩ := hr.wts.2 i p hp2
      exact ⟨q, c2, by rw [List.getElem?_append_left (by rw [hr.wts.1]; exact hi)]; exact e1, .inl e2, e3, hp8 e4⟩
    · have hp : (D.pend ++ [(x, pad l)])[i]? = some p := hp
      rw [List.getElem?_append_right hi] at hp
      have hi0 : i - D.pend.length = 0 := by
        have := (List.getElem?_eq_some_iff.1 hp).1
        simp at this
        omega
      rw [hi0] at hp
      simp only [List.getElem?_cons_zero, Option.some.injEq] at hp
      subst hp
      refine ⟨w1.heap.size, 64, ?_, .inr ⟨by omega, by rw [hs6]; have := h3.lt; omega⟩, fun e => by have := (owned_ltN hr.all (g := ra) rfl).2; omega, blk_own hq6 (Nat.zero_le _) hpl (by simp only [maxLen]; omega)⟩
      rw [List.getElem?_append_right (by rw [hr.wts.1]; exact hi), hr.wts.1, hi0]
      rfl
  · have hok := hr.ok
    refine ⟨hok.n1, hok.n2, hok.k64, fun q hq => ?_, by show 0 ≤ D.de + 1; have := hok.de; omega, HF.out.1⟩
    rcases List.mem_append.1 hq with hq | hq
    · exact hok.p64 q hq
    · rw [List.mem_singleton.1 hq]
      exact ⟨pad_len l hl, hx1, hx2⟩
  · rcases hk with hk | hk
    · rw [hk]; exact hr.fg
    · exact hr.fw k hk
  · rcases hk with hk | hk
    · exact .inl hk
    · exact .inr hk.1
set_option maxHeartbeats 1000000 in
theorem rwrite_any {D : Dv} {F : Nat → Prop} {g : Nat} (x : Int) (l : List UInt8) (A : Option Addr) (cap : Nat) (w : World) (h : RefAt w F g D) (hde : D.de ≤ 1000000000) (hm : D.pend.length ≤ 100000) (hx : -9223372036854775808 ≤ x ∧ x ≤ 9223372036854775807) (hl : l.length ≤ 1000000000)
    (hs : Src w A l.length cap (bv l)) (hsb : ∀ ad, A = some ad → 0 < l.length → ¬ F ad.block) :
    Calls Try.prog 133 #[.pointer (some ⟨g, 0, none⟩), .int .i64 x, .slice A l.length cap] w fun e w' => e = .returned (.int .i64 (D.write x l).1) ∧ RLeft w F g (D.write x l).2 w' := by
  have h0 := h
  obtain ⟨ra, c, vw, us, hr⟩ := h
  have hb := hr.blk
  have hnk := hr.ok.n2
  have HR := hide (And.intro h0 (And.intro hr hb))
  clear h0
  have hx1 := hx.1
  have hx2 := hx.2
  cases hdn : D.dn with
  | true =>
    rw [show D.write x l = (10, D) by simp [Dv.write, hdn]]
    rw [hdn] at hb
    have c4 := (hb.cell 4).trans (rdv4 ..)
    have hlt := hb.lt
    clear hb hr hs hsb
    go_enter Try.func133, Try.ntmps133
    go_wp2
    go_ret
    exact ⟨rfl, .same HR.out.1⟩
  | false =>
    by_cases hin : 0 ≤ x ∧ x < (D.kept.length : Int)
    · by_cases h64 : l.length ≤ 64
      · rcases tick_cases D.de D.fu with ⟨hf, ht⟩ | ⟨fu', ht, hf⟩
        · have hwr : D.write x l = (10, { D with de := D.de, fu := 0, dn := true }) := by simp [Dv.write, hdn, hin, h64, ht]
          rw [hwr]
          rw [hdn] at hb
          have c4 := (hb.cell 4).trans (rdv4 ..)
          have hlt := hb.lt
          have ok' := hr.ok.ticked ht D.pend hr.ok.p64 true
          have HT := hide (And.intro ht (And.intro hr.ok.de hr.ok.fu))
          have HX := hide (And.intro ok' hb)
          have i1 := hin.1
          have i2 := hin.2
          have i3 : ¬ (64 : Int) < (l.length : Int) := by omega
          clear ok' ht hb hr hs hsb hwr hin
          go_enter Try.func133, Try.ntmps133
          go_wp2_with fail
          refine (rsectors_any _ hnk HX.out.2).mono ?_
          rintro e w' ⟨rfl, rfl⟩
          dsimp only
          go_wp2_with fail
          refine (rdeed_any _ ⟨HT.out.2.1, hde⟩ HT.out.2.2 HX.out.2).mono ?_
          rintro e w1 ⟨rfl, hb1, hg1⟩
          rw [HT.out.1] at hb1 ⊢
          rw [show decide ((10 : Int) = 0) = false from rfl]
          dsimp only at hb1 ⊢
          have H1 := hide (And.intro hb1 hg1)
          clear hb1 hg1
          go_wp2_with fail
          go_ret
          have h2 := rleft_own HR.out.2.1 (D' := { D with de := D.de, fu := 0, dn := true }) H1.out.1 H1.out.2 rfl rfl HX.out.1
          exact ⟨rfl, F, ⟨_, _, _, _, h2.1⟩, h2.2, fun _ h => .inl h⟩
        · have hwr : D.write x l = (0, { D with de := D.de + 1, fu := fu', dn := false, pend := D.pend ++ [(x, pad l)] }) := by simp [Dv.write, hdn, hin, h64, ht]
          rw [hwr]
          exact rwrite_ok x l A cap w hr hdn hde hm ht (by have := hr.ok.fu; exact ⟨hf.1 this.1, by omega⟩) hin h64 hs hsb
      · rw [show D.write x l = (2, D) by simp [Dv.write, hdn, h64]]
        rw [hdn] at hb
        have c4 := (hb.cell 4).trans (rdv4 ..)
        have hlt := hb.lt
        have i1 := hin.1
        have i2 := hin.2
        have i3 : (64 : Int) < (l.length : Int) := by omega
        have HX := hide hb
        clear hb hr hs hsb hin
        go_enter Try.func133, Try.ntmps133
        go_wp2_with fail
        refine (rsectors_any _ hnk HX.out).mono ?_
        rintro e w' ⟨rfl, rfl⟩
        dsimp only
        go_wp2_with fail
        go_ret
        exact ⟨rfl, .same HR.out.1⟩
    · rw [show D.write x l = (2, D) by simp [Dv.write, hdn, hin]]
      rw [hdn] at hb
      have c4 := (hb.cell 4).trans (rdv4 ..)
      have hlt := hb.lt
      have HX := hide hb
      by_cases hneg : x < 0
      · clear hb hr hs hsb hin
        go_enter Try.func133, Try.ntmps133
        go_wp2_with fail
        go_ret
        exact ⟨rfl, .same HR.out.1⟩
      · have i1 : 0 ≤ x := by omega
        have i2 : (D.kept.length : Int) ≤ x := by omega
        clear hb hr hs hsb hin
        go_enter Try.func133, Try.ntmps133
        go_wp2_with fail
        refine (rsectors_any _ hnk HX.out).mono ?_
        rintro e w' ⟨rfl, rfl⟩
        dsimp only
        go_wp2_with fail
        go_ret
        exact ⟨rfl, .same HR.out.1⟩
end Go.Proofs.Ytfppddnfdinipaa
end
section
namespace Go.Proofs.Ytfppddnfdinipaa
open Go Go.RowKit
theorem last_fold (x : Int) : ∀ (L : List (Int × List UInt8)) (a : List UInt8), L.foldl (fun a p => if p.1 == x then p.2 else a) a = (lastL L x).getD a
  | [], _ => rfl
  | p :: L, a => by
    rw [List.foldl_cons, last_fold x L]
    simp only [lastL, List.reverse_cons, List.find?_append]
    cases hf : L.reverse.find? fun p => p.1 == x with
    | some q => simp
    | none =>
      cases hp : p.1 == x with
      | true => simp [hp]
      | false => simp [hp]
def seenL (L : List (Int × List UInt8)) (x : Int) (a : List UInt8) : List UInt8 := L.foldl (fun a p => if p.1 == x then p.2 else a) a
theorem seen_take (L : List (Int × List UInt8)) (x : Int) (a : List UInt8) (i : Nat) (p : Int × List UInt8) (h : L[i]? = some p) : seenL (L.take (i + 1)) x a = if p.1 == x then p.2 else seenL (L.take i) x a := by
  rw [List.take_add_one, h]
  simp [seenL, List.foldl_append]
theorem seen_len (x : Int) : ∀ (L : List (Int × List UInt8)) (a : List UInt8), (∀ p ∈ L, p.2.length = 64) → a.length = 64 → (seenL L x a).length = 64
  | [], _, _, h => h
  | p :: L, a, hp, h => by
    rw [seenL, List.foldl_cons]
    refine seen_len x L _ (fun q hq => hp q (by simp [hq])) ?_
    split
    · exact hp p (by simp)
    · exact h
set_option maxRecDepth 100000
set_option maxHeartbeats 1000000 in
theorem rread_ok {D : Dv} {F : Nat → Prop} {g : Nat} (x : Nat) (hx : x < D.kept.length) (w : World) (h : RefAt w F g D) (hdn : D.dn = false) (hm : D.pend.length ≤ 100000) :
    Calls Try.prog 135 #[.pointer (some ⟨g, 0, none⟩), .int .i64 (x : Int)] w fun e w' => ∃ v, e = .returned (.tuple #[v, .int .i64 0]) ∧ w'.ownsRow w.heap.size 5 1 v 64 (bv (D.read x)) ∧ Below w.heap.size w w' := by
  obtain ⟨ra, c, vw, us, hr⟩ := h
  obtain ⟨A, cp, rfl⟩ := hr.slice
  obtain ⟨i8, hi8, hz80, hz81, hz82⟩ := info_parts info_1
  have hb := hr.blk
  rw [hdn] at hb
  have c4 := (hb.cell 4).trans (rdv4 ..)
  have c0 := (hb.cell 0).trans (rdv0 ..)
  have hlt := hb.lt
  have hnk := hr.ok.n2
  have i0 : (0 : Int) ≤ (x : Int) := by omega
  have i1 : (x : Int) < (D.kept.length : Int) := by omega
  have i2 : (x : Int) ≤ 8192 := by omega
  obtain ⟨_, _, _, hcc, _⟩ := own_upd hr.all
  have i3 : (x : Int) * 64 + 64 ≤ (c : Int) := by omega
  obtain ⟨b0, hkb⟩ : ∃ b, D.kept[x]? = some b := ⟨D.kept[x]'hx, List.getElem?_eq_getElem _⟩
  have hb064 : b0.length = 64 := hr.ok.k64 b0 (List.mem_of_getElem? hkb)
  have hread : D.read x = seenL D.pend (x : Int) b0 := by
    unfold Dv.read readL seenL
    rw [last_fold]
    simp [List.getD, hkb]
  have HR := hide (And.intro hr (And.intro hb (And.intro hread hkb)))
  clear hb hr hread hkb
  go_enter Try.func135, Try.ntmps135
  go_wp2_with fail
  refine (rsectors_any _ hnk HR.out.2.1).mono ?_
  rintro e w' ⟨rfl, rfl⟩
  have hown0 := owned_new w' 5
  have hB0 : Below w'.heap.size w' (w'.alloc (.cells #[] 5)) := (Below.refl _ _).alloc (Nat.le_refl _) _
  have hsrc0 : Src (w'.alloc (.cells #[] 5)) (some ⟨ra, x * 64, none⟩) 64 (c - x * 64) (bv b0) := ⟨by rw [bvL, hb064], (fun h => (by cases h)), bv1 b0, fun ad had j u hu => by
    injection had with had
    subst had
    rw [Addr.add_mid]
    refine own_range (owned_keepN HR.out.1.all fun k _ hl => hB0.block k hl) (x * 64) 64 (bv b0) ?_ j u hu
    have h := kept_at D.kept x b0 HR.out.1.ok.k64 HR.out.2.2.2
    exact h⟩
  have H0 := hide (And.intro hown0 (And.intro hB0 hsrc0))
  clear hown0 hB0 hsrc0
  dsimp only
  go_wp2_with (at_builtin; (refine wpList_app (o := ⟨some 31, _, _, _, _, _⟩) rfl _ _ 66 rfl w'.heap.size 5 i8 (.int .u8 0) 1 Try.underlying66 hi8 hz80 hz81 hz82 rfl _ 0 [] H0.out.1 (some ⟨ra, x * 64, none⟩) (x * 64 + 64 - x * 64) (c - x * 64) (bv b0) ?h0 ?h1 ?h2 ?h3 rfl rfl ?_))
  case h0 => rw [Nat.add_sub_cancel_left]; exact H0.out.2.2
  case h1 => simp only [maxLen]; omega
  case h2 => omega
  case h3 => rw [size_alloc]; omega
  intro v1 w1 own1 gr1 _ _
  have own1 : w1.ownsRow w'.heap.size 5 1 v1 64 (bv b0) := by simpa using own1
  have hb1 : Below w'.heap.size w' w1 := H0.out.2.1.grown gr1 (by rw [size_alloc]; omega) (fun k hk => by
    injection hk with hk
    change w'.heap.size = k at hk
    omega)
  have H1 := hide (And.intro own1 hb1)
  clear own1 hb1 gr1
  go_wp2_with fail
  go_loopw [6, 7] (fun v iv wr => ∃ i : Nat, i ≤ D.pend.length ∧ iv = .int .i64 (i : Int) ∧ wr.ownsRow w'.heap.size 5 1 v 64 (bv (seenL (D.pend.take i) (x : Int) b0)) ∧ Below w'.heap.size w' wr) (fun _ iv _ => D.pend.length - (intOf iv).toNat)
  case atStart => exact ⟨0, by omega, rfl, H1.out.1, H1.out.2⟩
  case round =>
    obtain ⟨i, hi, rfl, ho, hbel⟩ := hrel
    have hdv := HR.out.2.1.below hbel hlt
    have c1r := (hdv.cell 1).trans (rdv1 ..)
    have hltr := hdv.lt
    have HW := hide (And.intro ho (And.intro hbel hdv))
    clear ho hbel hdv
    by_cases hil : i < D.pend.length
    · have j1 : (i : Int) < (D.pend.length : Int) := by omega
      have j0 : (0 : Int) ≤ (i : Int) := by omega
      obtain ⟨rw_, cap', hvp⟩ := owned_placeN HR.out.1.row (by omega)
      injection hvp with e1 _ e2
      subst e1 e2
      obtain ⟨⟨x0, b⟩, hpj⟩ : ∃ p, D.pend[i]? = some p := ⟨D.pend[i]'hil, List.getElem?_eq_getElem _⟩
      have hb64 : b.length = 64 := (HR.out.1.ok.p64 _ (List.mem_of_getElem? hpj)).1
      obtain ⟨q, c2, hu, _, _, hqo⟩ := HR.out.1.wts.2 i _ hpj
      have hwr : wr.ownsRow 0 228 2 (.slice (some ⟨rw_, 0, none⟩) D.pend.length cp) D.pend.length (waitCells us) := owned_keepN HR.out.1.row fun k _ hl => HW.out.2.1.block k hl
      have hrange : wr.rangeAt rw_ (i * 2) [.int .i64 x0, .slice (some ⟨q, 0, none⟩) 64 c2] := own_range hwr (i * 2) 2 _ (wait_at us i _ hu)
      have cw0 : wr.cell? ⟨rw_, i * 2, none⟩ = some (.int .i64 x0) := hrange 0 _ rfl
      have cw1 : wr.cell? ⟨rw_, i * 2 + 1, none⟩ = some (.slice (some ⟨q, 0, none⟩) 64 c2) := hrange 1 _ rfl
      have hqw : wr.ownsRow 0 5 1 (.slice (some ⟨q, 0, none⟩) 64 c2) 64 (bv b) := owned_keepN hqo fun k _ hl => HW.out.2.1.block k hl
      have hst := seen_take D.pend (x : Int) b0 i _ hpj
      have hown0 : (wr.alloc (.cells #[] 5)).ownsRow w'.heap.size 5 1 (.slice (some ⟨wr.heap.size, 0, none⟩) 0 0) 0 [] := owned_baseN (owned_new wr 5) (fun k hk => by
        have hk : some wr.heap.size = some k := hk
        injection hk with hk
        have := HW.out.2.1.size
        omega)
      have hB0 : Below wr.heap.size wr (wr.alloc (.cells #[] 5)) := (Below.refl _ _).alloc (Nat.le_refl _) _
      have hsrc0 : Src (wr.alloc (.cells #[] 5)) (some ⟨q, 0, none⟩) 64 c2 (bv b) := by
        have h : (wr.alloc (.cells #[] 5)).ownsRow 0 5 1 (.slice (some ⟨q, 0, none⟩) 64 c2) 64 (bv b) := owned_keepN hqw fun k _ hl => hB0.block k hl
        rw [show 64 = b.length from hb64.symm] at h ⊢
        exact owned_src0 h
      have HQ := hide (And.intro hown0 (And.intro hB0 hsrc0))
      have HS := hide hst
      have hwsz := HW.out.2.1.size
      have hrwlt : rw_ < wr.heap.size := World.block_lt_of_cell? wr _ cw0
      clear hown0 hB0 hsrc0 hst hqw hrange hwr hqo hu hpj
      by_cases hxx : x0 = (x : Int)
      · subst hxx
        go_wp2_with (at_builtin; (refine wpList_app (o := ⟨some 60, _, _, _, _, _⟩) rfl _ _ 66 rfl w'.heap.size 5 i8 (.int .u8 0) 1 Try.underlying66 hi8 hz80 hz81 hz82 rfl _ 0 [] HQ.out.1 (some ⟨q, 0, none⟩) 64 c2 (bv b) ?g0 ?g1 ?g2 ?g3 rfl rfl ?_))
        case g0 => exact HQ.out.2.2
        case g1 => simp only [maxLen]; omega
        case g3 => omega
        intro v2 w2 own2 gr2 _ _
        have own2 : w2.ownsRow w'.heap.size 5 1 v2 64 (bv b) := by simpa using own2
        have hb2 : Below w'.heap.size w' w2 := (HW.out.2.1.trans (Below.mono HQ.out.2.1 hwsz)).grown gr2 (by rw [size_alloc]; omega) (fun k hk => by
          have hk : some wr.heap.size = some k := hk
          injection hk with hk
          omega)
        have H2 := hide (And.intro own2 hb2)
        clear own2 hb2 gr2
        go_wp2_with fail
        go_roundw
        case rel =>
          refine ⟨i + 1, by omega, by go_num, ?_, H2.out.2⟩
          rw [HS.out, if_pos (by simp)]
          exact H2.out.1
        case measure => simp [intOf]; omega
      · go_wp2_with fail
        go_roundw
        case rel =>
          refine ⟨i + 1, by omega, by go_num, ?_, HW.out.2.1⟩
          rw [HS.out, if_neg (by simpa using hxx)]
          exact HW.out.1
        case measure => simp [intOf]; omega
    · obtain rfl : i = D.pend.length := by omega
      go_wp2_with fail
      go_ret2
      have h := HW.out
      rw [List.take_length, ← HR.out.2.2.1] at h
      exact ⟨_, rfl, h.1, h.2.1⟩
theorem rread_down {D : Dv} {F : Nat → Prop} {g : Nat} (x : Int) (w : World) (h : RefAt w F g D) (hdn : D.dn = true) : Calls Try.prog 135 #[.pointer (some ⟨g, 0, none⟩), .int .i64 x] w fun e w' => e = .returned (.tuple #[.slice none 0 0, .int .i64 10]) ∧ w' = w := by
  obtain ⟨ra, c, vw, us, hr⟩ := h
  have hb := hr.blk
  rw [hdn] at hb
  have c4 := (hb.cell 4).trans (rdv4 ..)
  have hlt := hb.lt
  clear hb hr
  go_enter Try.func135, Try.ntmps135
  go_wp2
  go_ret2
  exact ⟨rfl, rfl⟩
theorem rread_out {D : Dv} {F : Nat → Prop} {g : Nat} (x : Int) (hx : x < 0 ∨ (D.kept.length : Int) ≤ x) (w : World) (h : RefAt w F g D) (hdn : D.dn = false) : Calls Try.prog 135 #[.pointer (some ⟨g, 0, none⟩), .int .i64 x] w fun e w' => e = .returned (.tuple #[.slice none 0 0, .int .i64 2]) ∧ w' = w := by
  obtain ⟨ra, c, vw, us, hr⟩ := h
  have hb := hr.blk
  have hnk := hr.ok.n2
  rw [hdn] at hb
  have c4 := (hb.cell 4).trans (rdv4 ..)
  have hlt := hb.lt
  have HB := hide hb
  clear hb hr
  by_cases hneg : x < 0
  · clear hx
    go_enter Try.func135, Try.ntmps135
    go_wp2
    go_ret2
    exact ⟨rfl, rfl⟩
  · have i1 : 0 ≤ x := by omega
    have i2 : (D.kept.length : Int) ≤ x := by omega
    clear hx
    go_enter Try.func135, Try.ntmps135
    go_wp2_with fail
    refine (rsectors_any _ hnk HB.out).mono ?_
    rintro e w' ⟨rfl, rfl⟩
    dsimp only
    go_wp2_with fail
    go_ret2
    exact ⟨rfl, rfl⟩
end Go.Proofs.Ytfppddnfdinipaa
end
section
namespace Go.Proofs.Ytfppddnfdinipaa
open Go Go.RowKit
theorem wrap8 (z : Int) : 0 ≤ IntKind.u8.wrap z ∧ IntKind.u8.wrap z < 256 := by
  simp [IntKind.wrap, IntKind.signed, IntKind.bits]
  omega
def flip (v : UInt8) (k : Nat) : UInt8 := UInt8.ofNat (bits .xor .u8 (v.toNat : Int) ((2 : Int) ^ k % 256)).toNat
theorem flip_int (v : UInt8) (k : Nat) : ((flip v k).toNat : Int) = bits .xor .u8 (v.toNat : Int) ((2 : Int) ^ k % 256) := by
  have h : 0 ≤ bits .xor .u8 (v.toNat : Int) ((2 : Int) ^ k % 256) ∧ bits .xor .u8 (v.toNat : Int) ((2 : Int) ^ k % 256) < 256 := wrap8 _
  unfold flip
  rw [UInt8.toNat_ofNat']
  omega
theorem bits_and7 (b : Nat) : bits .and .i64 (b : Int) 7 = ((b % 8 : Nat) : Int) := by
  have h1 : (BitVec.ofInt 64 (b : Int) &&& BitVec.ofInt 64 7).toNat = b % 8 := by
    rw [BitVec.toNat_and, BitVec.toNat_ofInt, show (BitVec.ofInt 64 7).toNat = 2 ^ 3 - 1 by decide, Nat.and_two_pow_sub_one_eq_mod, show ((2 ^ 64 : Nat) : Int) = 18446744073709551616 by decide]
    omega
  show IntKind.i64.wrap ((BitVec.ofInt 64 (b : Int) &&& BitVec.ofInt 64 7).toNat : Int) = _
  rw [h1]
  simp [IntKind.wrap, IntKind.signed, IntKind.bits]
  omega
def spoilB (b : List UInt8) (bit : Nat) : List UInt8 := b.set (bit / 8) (flip (b.getD (bit / 8) 0) (bit % 8))
def Dv.spoil (D : Dv) (x bit : Int) : Int × Dv := if (decide (0 ≤ x ∧ x < (D.kept.length : Int)) && decide (0 ≤ bit ∧ bit < 512)) = true then (0, { D with kept := D.kept.set x.toNat (spoilB (D.kept.getD x.toNat []) bit.toNat) }) else (2, D)
theorem flat_set1 {α : Type} {s : Nat} (v : α) : ∀ (l : List (List α)) (k j : Nat) (b : List α), (∀ b ∈ l, b.length = s) → l[k]? = some b → j < s → (l.set k (b.set j v)).flatten = l.flatten.set (k * s + j) v
  | [], _, _, _, _, h, _ => by simp at h
  | b :: l, 0, j, c, hs, h, hj => by
    have h1 := hs b (by simp)
    simp at h
    subst h
    simp only [List.set_cons_zero, List.flatten_cons, Nat.zero_mul, Nat.zero_add]
    rw [List.set_append_left _ _ (by omega)]
  | b :: l, k + 1, j, c, hs, h, hj => by
    have h1 := hs b (by simp)
    simp only [List.set_cons_succ, List.flatten_cons]
    rw [flat_set1 v l k j c (fun d hd => hs d (by simp [hd])) (by simpa using h) hj, List.set_append_right _ _ (by rw [Nat.add_mul]; omega)]
    congr 2
    rw [Nat.add_mul]
    omega
theorem kept_spoil (K : List (List UInt8)) (k bit : Nat) (b : List UInt8) (h : ∀ b ∈ K, b.length = 64) (hk : K[k]? = some b) (hb : bit < 512) : keptCells (K.set k (spoilB b bit)) = (keptCells K).set (k * 64 + bit / 8) (.int .u8 (bits .xor .u8 (((b.getD (bit / 8) 0).toNat : Nat) : Int) ((2 : Int) ^ (bit % 8) % 256))) := by
  rw [kept_bv, kept_bv, spoilB, flat_set1 (s := 64) _ K k (bit / 8) b h hk (by omega)]
  unfold bv
  rw [List.map_set]
  congr 2
  rw [flip_int]
theorem kept_cell (K : List (List UInt8)) (k bit : Nat) (b : List UInt8) (h : ∀ b ∈ K, b.length = 64) (hk : K[k]? = some b) (hb : bit < 512) : (keptCells K)[k * 64 + bit / 8]? = some (.int .u8 ((b.getD (bit / 8) 0).toNat : Int)) := by
  have h1 := kept_at K k b h hk
  have h2 : ((keptCells K).drop (k * 64))[bit / 8]? = (bv b)[bit / 8]? := by
    rw [← h1, List.getElem?_take_of_lt (by omega)]
  rw [List.getElem?_drop] at h2
  rw [h2]
  have hb64 := h b (List.mem_of_getElem? hk)
  simp [bv, List.getD, show bit / 8 < b.length by omega]
/-- one cell of a row of one's own is turned -/
theorem own_set1 {w : World} {base g n cap s : Nat} {e : TypeId} {xs : List Value} (h : w.ownsRow base e s (.slice (some ⟨g, 0, none⟩) n cap) n xs) (o : Nat) (v : Value) (ho : o < n * s) : (w.setCell ⟨g, o, none⟩ v).ownsRow base e s (.slice (some ⟨g, 0, none⟩) n cap) n (xs.set o v) := by
  have h2 := own_setCells h o [v] (by simp; omega)
  have e : xs.take o ++ ([v] ++ xs.drop (o + [v].length)) = xs.set o v := by
    rw [List.set_eq_take_append_cons_drop, if_pos (by have := h.1; omega)]
    simp
  rw [e] at h2
  exact h2
section
variable {D : Dv} {F : Nat → Prop} {g : Nat}
set_option maxRecDepth 100000
end
end Go.Proofs.Ytfppddnfdinipaa
end
section
namespace Go.Proofs.Ytfppddnfdinipaa
open Go Go.RowKit
section
variable {D : Dv} {F : Nat → Prop} {g : Nat}
set_option maxRecDepth 100000
end
/-- the device and the document's, both one's own, apart -/
structure Two (R : Nat) (w0 w : World) (Fd Fr : Nat → Prop) (g r : Nat) (D E : Dv) : Prop where
  mine : Mine R w0 w Fd g D
  ref : RefAt w Fr r E
  low : ∀ k, Fr k → R ≤ k
  apart : ∀ k, Fd k → ¬ Fr k
section
variable {R g r : Nat} {w0 w w' : World} {Fd Fr : Nat → Prop} {D E D' E' : Dv}
theorem Mine.deal2 (h : Mine R w0 w Fd g D) (hR : R ≤ w0.heap.size) (hl : Left w Fd g D' w') : ∃ F', Mine R w0 w' F' g D' ∧ Turned Fd w w' ∧ ∀ k, F' k → Fd k ∨ w.heap.size ≤ k := by
  obtain ⟨F', h1, h2, h3⟩ := hl
  have hs := h.bel.size
  refine ⟨F', ⟨h1, ⟨h2.os.trans h.bel.os, h2.tape.trans h.bel.tape, h2.output.trans h.bel.output, Nat.le_trans hs h2.size, fun k hk => (h2.block k (by omega) (fun hf => by have := h.low k hf; omega)).trans (h.bel.block k hk)⟩, fun k hk => ?_⟩, h2, h3⟩
  rcases h3 k hk with h3 | h3
  · exact h.low k h3
  · omega
theorem Two.dev (h : Two R w0 w Fd Fr g r D E) (hR : R ≤ w0.heap.size) (hl : Left w Fd g D' w') : ∃ F', Two R w0 w' F' Fr g r D' E := by
  obtain ⟨F', h1, h2, h3⟩ := h.mine.deal2 hR hl
  refine ⟨F', h1, h.ref.keep h2.size fun k hk hf => h2.block k hk fun hd => h.apart k hd hf, h.low, fun k hk hf => ?_⟩
  rcases h3 k hk with hd | hn
  · exact h.apart k hd hf
  · have := h.ref.lt k hf; omega
theorem Two.doc (h : Two R w0 w Fd Fr g r D E) (hR : R ≤ w0.heap.size) (hl : RLeft w Fr r E' w') : ∃ F', Two R w0 w' Fd F' g r D E' := by
  obtain ⟨F', h1, h2, h3⟩ := hl
  have hs := h.mine.bel.size
  refine ⟨F', ⟨h.mine.dev.keep fun k hk hf => h2.block k hk fun hr => h.apart k hf hr, ⟨h2.os.trans h.mine.bel.os, h2.tape.trans h.mine.bel.tape, h2.output.trans h.mine.bel.output, Nat.le_trans hs h2.size, fun k hk => (h2.block k (by omega) (fun hf => by have := h.low k hf; omega)).trans (h.mine.bel.block k hk)⟩, h.mine.low⟩, h1, fun k hk => ?_, fun k hk hf => ?_⟩
  · rcases h3 k hk with h3 | h3
    · exact h.low k h3
    · omega
  · rcases h3 k hf with hr | hn
    · exact h.apart k hk hr
    · have := h.mine.dev.lt k hk; omega
theorem Two.grow (h : Two R w0 w Fd Fr g r D E) (hR : R ≤ w0.heap.size) (hb : Below w.heap.size w w') : Two R w0 w' Fd Fr g r D E :=
  ⟨h.mine.grow hR hb, h.ref.keep hb.size fun k hk _ => hb.block k hk, h.low, h.apart⟩
end
end Go.Proofs.Ytfppddnfdinipaa
end
section
namespace Go.Proofs.Ytfppddnfdinipaa
open Go.RowKit
theorem keptL (l : List UInt8) (j : Nat) (h : j < l.length) : (bv (l ++ marks)).toArray[j]? = some (.int .u8 ((l.getD j 0).toNat : Int)) := by
  rw [bv_get _ _ (by rw [List.length_append]; omega)]
  rw [List.getD_eq_getElem?_getD, List.getD_eq_getElem?_getD, List.getElem?_append_left h]
theorem keptM (l : List UInt8) (j : Nat) (h : j < 12) : (bv (l ++ marks)).toArray[l.length + j]? = some (.int .u8 ((mk 1 j).toNat : Int)) := by
  rw [bv_get _ _ (by rw [List.length_append, marks, List.length_map, List.length_range]; omega)]
  simp [List.getD, marks, h]
set_option maxRecDepth 100000 in
set_option maxHeartbeats 1000000 in
theorem keptBytes_any (l : List UInt8) (hl : l.length ≤ 1000000) (A : Option Addr) (n cap g : Nat) (B : Nat) (w : World) (hv : BytesAt w B (.slice A n cap) l) (hg : Blk w g 5 (bv (l ++ marks)).toArray) :
    Calls Try.prog 83 #[.slice (some ⟨g, 0, none⟩) l.length (l.length + 12), .slice A n cap] w fun e w' => e = .returned (.bool true) ∧ ∃ k, w' = w.drewN k := by
  obtain ⟨rfl, hcap, _, hcells⟩ := hv.cells
  have HV := hide hv
  have HC := hide hcells
  have HG := hide hg
  clear hv hcells hg
  go_enter Try.func83, Try.ntmps83
  go_wp2_with fail
  go_loopw [6] (fun v wr => ∃ j : Nat, j ≤ l.length + 12 ∧ v = .int .i64 (j : Int) ∧ ∃ k, wr = w.drewN k) (fun v _ => (l.length + 12 - intOf v).toNat)
  case atStart => exact ⟨0, by omega, rfl, 0, rfl⟩
  case round =>
    obtain ⟨j, hj, rfl, hk⟩ := hrel
    have hcw : ∀ p, wr.cell? p = w.cell? p := by obtain ⟨k, rfl⟩ := hk; exact fun p => World.cell?_drewN w k p
    have HK := hide hk
    have HCW := hide hcw
    clear hk hcw
    by_cases hend : j < l.length + 12
    · by_cases hin : j < l.length
      · obtain ⟨A', cap', hv, hc', hA⟩ := HV.out
        injection hv with e1 e2 e3
        subst e1 e3
        obtain ⟨b, off, rfl, hbB, hcell⟩ := hA (by omega)
        obtain ⟨x, hx⟩ : ∃ x, x = l.getD j 0 := ⟨_, rfl⟩
        have cL : wr.cell? ⟨b, off + j, none⟩ = some (.int .u8 (x.toNat : Int)) := by rw [HCW.out, hx]; exact hcell j hin
        have cG : wr.cell? ⟨g, j, none⟩ = some (.int .u8 (x.toNat : Int)) := by rw [hx, HCW.out, HG.out.cell, keptL l j hin]
        have n0 : (0 : Int) ≤ (j : Int) := by omega
        have n1 : (j : Int) < (l.length : Int) := by omega
        have n2 : (j : Int) < (l.length : Int) + 12 := by omega
        have d1 : decide ((j : Int) < (l.length : Int)) = true := decide_eq_true n1
        have d2 : decide (l.length ≤ j) = false := decide_eq_false (by omega)
        have d3 : decide ((l.length : Int) ≤ (j : Int)) = false := decide_eq_false (by omega)
        have HX := hide hx
        clear hx hcell hA HV HC
        go_wp2_with fail
        go_quiet (fail)
        go_wp2_with fail
        go_roundw
        case rel => obtain ⟨k, hk⟩ := HK.out; exact ⟨j + 1, by omega, by go_num, _, by rw [hk, World.drewN_drewN]⟩
        case measure => simp [intOf]; omega
      · obtain ⟨q, rfl⟩ : ∃ q, j = l.length + q := ⟨j - l.length, by omega⟩
        have cG : wr.cell? ⟨g, l.length + q, none⟩ = some (.int .u8 ((mk 1 q).toNat : Int)) := by rw [HCW.out, HG.out.cell, keptM l q (by omega)]
        obtain ⟨j, hj2⟩ : ∃ j, j = l.length + q := ⟨_, rfl⟩
        rw [← hj2] at cG hend hj hin ⊢
        have n0 : (0 : Int) ≤ (j : Int) := by omega
        have n2 : (j : Int) < (l.length : Int) + 12 := by omega
        have n3 : (j : Int) - (l.length : Int) = (q : Int) := by omega
        have d1 : decide ((j : Int) < (l.length : Int)) = false := decide_eq_false (by omega)
        have d2 : decide (l.length ≤ j) = true := decide_eq_true (by omega)
        have d3 : decide ((l.length : Int) ≤ (j : Int)) = true := decide_eq_true (by omega)
        have d4 : decide (j < l.length) = false := decide_eq_false (by omega)
        have hq : q ≤ 1000000000 := by omega
        have HJ := hide hj2
        clear hj2 HV HC
        go_wp2_with fail
        go_quiet ((go_at_call 131; exact Calls.quiet_of_same (markByte_any 1 q (by omega) hq _)))
        go_wp2_with fail
        go_roundw
        case rel => obtain ⟨k, hk⟩ := HK.out; exact ⟨j + 1, by omega, by go_num, _, by rw [hk, World.drewN_drewN]⟩
        case measure => simp [intOf]; omega
    · obtain rfl : j = l.length + 12 := by omega
      go_wp2_with fail
      go_ret
      exact ⟨rfl, HK.out⟩
end Go.Proofs.Ytfppddnfdinipaa
end
section
namespace Go.Proofs.Ytfppddnfdinipaa
open Go.RowKit
theorem same_step (a b : List UInt8) (j : Nat) (h : a.take j = b.take j) (e : a.getD j 0 = b.getD j 0) (ha : j < a.length) (hb : j < b.length) : a.take (j + 1) = b.take (j + 1) := by
  rw [List.take_add_one, List.take_add_one, h]
  simp only [List.getD_eq_getElem?_getD, List.getElem?_eq_getElem ha, List.getElem?_eq_getElem hb, Option.getD_some] at e
  rw [List.getElem?_eq_getElem ha, List.getElem?_eq_getElem hb, e]
set_option maxRecDepth 100000 in
set_option maxHeartbeats 1000000 in
theorem sameBytes_any (a b : List UInt8) (ha : a.length ≤ 1099511627776) (hb : b.length ≤ 1099511627776) (u v : Value) (B : Nat) (w : World) (hu : BytesAt w B u a) (hv : BytesAt w B v b) :
    Calls Try.prog 40 #[u, v] w fun e w' => e = .returned (.bool (decide (a = b))) ∧ ∃ k, w' = w.drewN k := by
  obtain ⟨A, ca, rfl, hca, hA⟩ := hu
  obtain ⟨A', cb, rfl, hcb, hB⟩ := hv
  by_cases hlen : a.length = b.length
  · have HA := hide hA
    have HB := hide hB
    obtain ⟨n, hn⟩ : ∃ n, n = a.length := ⟨_, rfl⟩
    rw [← hlen, ← hn] at hcb
    rw [← hlen, ← hn]
    rw [← hn] at hca
    have hn' : n ≤ 1099511627776 := by omega
    have HN := hide (And.intro hn hlen)
    clear hA hB hlen hn ha hb
    go_enter Try.func40, Try.ntmps40
    go_wp2_with fail
    go_loopw [5] (fun t wr => ∃ j : Nat, j ≤ n ∧ t = .int .i64 (j : Int) ∧ a.take j = b.take j ∧ ∃ k, wr = w.drewN k) (fun t _ => (n - intOf t).toNat)
    case atStart => exact ⟨0, by omega, rfl, rfl, 0, rfl⟩
    case round =>
      obtain ⟨j, hj, rfl, htk, hk⟩ := hrel
      have hcw : ∀ p, wr.cell? p = w.cell? p := by obtain ⟨k, rfl⟩ := hk; exact fun p => World.cell?_drewN w k p
      have HK := hide hk
      have HCW := hide hcw
      have HT := hide htk
      clear hk hcw htk
      by_cases hend : j < n
      · obtain ⟨p, o, hpa, _, hpc⟩ := HA.out (by have := HN.out.1; omega)
        obtain ⟨q, o', hqa, _, hqc⟩ := HB.out (by have := HN.out; omega)
        subst hpa hqa
        obtain ⟨x, hx⟩ : ∃ x, x = a.getD j 0 := ⟨_, rfl⟩
        obtain ⟨y, hy⟩ : ∃ y, y = b.getD j 0 := ⟨_, rfl⟩
        have c1 : wr.cell? ⟨p, o + j, none⟩ = some (.int .u8 (x.toNat : Int)) := by rw [HCW.out, hx]; exact hpc j (by have := HN.out.1; omega)
        have c2 : wr.cell? ⟨q, o' + j, none⟩ = some (.int .u8 (y.toNat : Int)) := by rw [HCW.out, hy]; exact hqc j (by have := HN.out; omega)
        have HX := hide (And.intro hx hy)
        clear hx hy hpc hqc HA HB
        by_cases hxy : x = y
        · subst hxy
          go_wp2_with fail
          go_quiet (fail)
          go_wp2_with fail
          go_roundw
          case rel =>
            obtain ⟨k, hk⟩ := HK.out
            have h1 := HN.out
            exact ⟨j + 1, by omega, by go_num, same_step a b j HT.out (by rw [← HX.out.1, ← HX.out.2]) (by omega) (by omega), _, by rw [hk, World.drewN_drewN]⟩
          case measure => simp [intOf]; omega
        · have hne : ¬ (x.toNat : Int) = (y.toNat : Int) := by
            intro e
            exact hxy (UInt8.toNat_inj.1 (by omega))
          go_wp2_with fail
          go_quiet (fail)
          go_wp2_with fail
          go_ret
          obtain ⟨k, hk⟩ := HK.out
          refine ⟨?_, _, by rw [hk, World.drewN_drewN]⟩
          have : a ≠ b := by
            rintro rfl
            exact hxy (by rw [HX.out.1, HX.out.2])
          rw [decide_eq_false this]; rfl
      · obtain rfl : j = n := by omega
        go_wp2_with fail
        go_ret
        refine ⟨?_, HK.out⟩
        have h1 := HN.out
        have : a = b := by
          have h2 := HT.out
          rwa [List.take_of_length_le (by omega), List.take_of_length_le (by omega)] at h2
        rw [decide_eq_true this]; rfl
  · have hne : ¬ (a.length : Int) = (b.length : Int) := by omega
    have hd : decide (a = b) = false := decide_eq_false (by rintro rfl; exact hlen rfl)
    rw [hd]
    clear hA hB
    go_enter Try.func40, Try.ntmps40
    go_wp2_with fail
    go_ret
    exact ⟨rfl, 0, rfl⟩
end Go.Proofs.Ytfppddnfdinipaa
end
section
namespace Go.Proofs.Ytfppddnfdinipaa
open Go Go.RowKit
set_option maxRecDepth 100000 in
set_option maxHeartbeats 1000000 in
theorem overBytes_any (R n : Nat) (hn : n ≤ 1000000) (v : Value) (xs : List Value) (w : World) (hv : w.ownsRow R 5 1 v n xs) :
    Calls Try.prog 84 #[v] w fun e w' => e = .returned (.tuple #[]) ∧ Turned (fun k => v.ownBlock = some k) w w' := by
  rcases owned_form hv with ⟨rfl, _, _⟩ | ⟨g, cap, cur, rfl, _, hnc, hcm, hb, hcs, _, hlt⟩
  · have hk1 := run_slice_to (P := Try.prog) 66 5 Try.underlying66 size5 none 0 0 0 (by omega)
    clear hv
    go_enter Try.func84, Try.ntmps84
    go_wp2_with fail
    refine wp_loop_once ?_
    go_wp2_with fail
    go_end0
    exact ⟨rfl, Turned.refl _ _⟩
  · have hc63 : (cap : Int) ≤ 9223372036854775807 := by simp only [maxLen] at hcm; omega
    have H0 := hide (And.intro hb hcs)
    clear hv hb hcs
    by_cases hmin : (cap : Int) ≤ (n : Int) + 12
    · have hcb : cap ≤ 1000012 := by omega
      have hk1 := run_slice_to (P := Try.prog) 66 5 Try.underlying66 size5 (some ⟨g, 0, none⟩) n cap cap (by omega)
      go_enter Try.func84, Try.ntmps84
      go_wp2_with fail
      go_loopw [3] (fun v wr => ∃ (i : Nat) (cur' : Array Value), i ≤ cap ∧ v = .int .i64 (i : Int) ∧ Blk wr g 5 cur' ∧ cur'.size = cap ∧ Turned (fun k => k = g) w wr) (fun v _ => cap - (intOf v).toNat)
      case atStart => exact ⟨0, cur, by omega, rfl, H0.out.1, H0.out.2, Turned.refl _ _⟩
      case round =>
        obtain ⟨i, cur', hi, rfl, hb, hcs, ht⟩ := hrel
        by_cases hit : i < cap
        · have cg := hb.cell i
          obtain ⟨u0, hu0⟩ : ∃ u, cur'[i]? = some u := ⟨_, Array.getElem?_eq_getElem (by omega)⟩
          rw [hu0] at cg
          have fg := hb.frozen i
          have lg := hb.lt
          have i1 : (0 : Int) ≤ (i : Int) := by omega
          have i2 : (i : Int) < (cap : Int) := by omega
          have hib : i ≤ 1000000000 := by omega
          have H1 := hide (And.intro hb (And.intro hcs ht))
          clear hb hcs ht hu0
          go_wp2_with (go_at_call 131; refine (markByte_any 2 i (by omega) hib _).mono ?_; rintro e w' ⟨rfl, rfl⟩)
          go_roundw
          case rel => exact ⟨i + 1, _, by omega, by go_num, H1.out.1.set_ i _, by rw [Array.size_setIfInBounds]; exact H1.out.2.1, H1.out.2.2.setCell (fun _ => rfl) _⟩
          case measure => simp [intOf]; omega
        · obtain rfl : i = cap := by omega
          have H1 := hide ht
          clear ht hb
          go_wp2_with fail
          go_end0
          refine ⟨rfl, H1.out.mono fun k _ h => ?_⟩
          show some g = some k
          rw [h]
    · have hmin2 : (n : Int) + 12 < (cap : Int) := by omega
      have hk1 := run_slice_to (P := Try.prog) 66 5 Try.underlying66 size5 (some ⟨g, 0, none⟩) n cap (n + 12) (by omega)
      go_enter Try.func84, Try.ntmps84
      go_wp2_with fail
      go_loopw [3] (fun v wr => ∃ (i : Nat) (cur' : Array Value), i ≤ (n + 12) ∧ v = .int .i64 (i : Int) ∧ Blk wr g 5 cur' ∧ cur'.size = cap ∧ Turned (fun k => k = g) w wr) (fun v _ => (n + 12) - (intOf v).toNat)
      case atStart => exact ⟨0, cur, by omega, rfl, H0.out.1, H0.out.2, Turned.refl _ _⟩
      case round =>
        obtain ⟨i, cur', hi, rfl, hb, hcs, ht⟩ := hrel
        by_cases hit : i < (n + 12)
        · have cg := hb.cell i
          obtain ⟨u0, hu0⟩ : ∃ u, cur'[i]? = some u := ⟨_, Array.getElem?_eq_getElem (by omega)⟩
          rw [hu0] at cg
          have fg := hb.frozen i
          have lg := hb.lt
          have i1 : (0 : Int) ≤ (i : Int) := by omega
          have i2 : (i : Int) < (n : Int) + 12 := by omega
          have hib : i ≤ 1000000000 := by omega
          have H1 := hide (And.intro hb (And.intro hcs ht))
          clear hb hcs ht hu0
          go_wp2_with (go_at_call 131; refine (markByte_any 2 i (by omega) hib _).mono ?_; rintro e w' ⟨rfl, rfl⟩)
          go_roundw
          case rel => exact ⟨i + 1, _, by omega, by go_num, H1.out.1.set_ i _, by rw [Array.size_setIfInBounds]; exact H1.out.2.1, H1.out.2.2.setCell (fun _ => rfl) _⟩
          case measure => simp [intOf]; omega
        · obtain rfl : i = (n + 12) := by omega
          have H1 := hide ht
          clear ht hb
          go_wp2_with fail
          go_end0
          refine ⟨rfl, H1.out.mono fun k _ h => ?_⟩
          show some g = some k
          rw [h]
end Go.Proofs.Ytfppddnfdinipaa
end
