/- package dev: what is read of a sector. -/
import Derived.Test.YtajeohmmobgcjaaMDevJ
import Derived.RegionIn
import Derived.Shelf.RegionOpen
namespace Go.Proofs.Ytajeohmmobgcjaa
open Go Go.RowKit Go.Shelf
set_option maxRecDepth 100000 in
set_option maxHeartbeats 400000 in
theorem sclone_some (l : List UInt8) (hl : l.length ≤ 1099511627776) (ad : Addr) (cap : Nat) (w : World) (hs : Src w (some ad) l.length cap (bv l)) :
    Calls Try.prog 82 #[.slice (some ad) l.length cap] w fun e w' => ∃ v', e = .returned v' ∧ w'.ownsRow w.heap.size 5 1 v' l.length (bv l) ∧ Below w.heap.size w w' := by
  obtain ⟨i, hi, hz0, hz1, hz2⟩ := info_parts info_u8
  have HS := hide hs
  clear hs
  have hq := fun (w : World) (a : Option Addr) (n c : Nat) => Lib.run_eql_slice_nil (P := Try.prog) w 48 5 a n c 0 0 Try.underlying48
  go_enter Try.func82, Try.ntmps82
  have hown := owned_new w 5
  have HO := hide hown
  clear hown
  go_wp2_with (at_builtin; (refine wpList_app rfl _ _ 48 rfl w.heap.size 5 i (.int .u8 0) 1 Try.underlying48 hi hz0 hz1 hz2 rfl _ 0 [] HO.out (some ad) l.length cap (bv l) ?h0 ?h1 ?h2 ?h3 rfl rfl ?_))
  case h0 => exact HS.out.alloc _
  case h1 => simp only [maxLen]; omega
  case h2 => omega
  case h3 => rw [size_alloc]; omega
  intro v' w1 own1 gr1 _ _
  go_wp2_with fail
  go_ret
  refine ⟨v', rfl, by simpa using own1, ((Below.refl _ _).alloc (Nat.le_refl _) _).grown gr1 (by rw [size_alloc]; omega) ?_⟩
  intro k hk
  injection hk with hk
  change w.heap.size = k at hk
  omega
theorem sclone64 (l : List UInt8) (hl : l.length = 64) (ad : Addr) (w : World) (hs : Src w (some ad) 64 64 (bv l)) :
    Calls Try.prog 82 #[.slice (some ad) 64 64] w fun e w' => ∃ v', e = .returned v' ∧ w'.ownsRow w.heap.size 5 1 v' 64 (bv l) ∧ Below w.heap.size w w' := by
  have h := sclone_some l (by omega) ad 64 w (by rw [hl]; exact hs)
  rwa [hl] at h
/-- the last pending write of a sector -/
def lastL (L : List (Int × List UInt8)) (x : Int) : Option (List UInt8) := (L.reverse.find? fun p => p.1 == x).map (·.2)
def readL (K : List (List UInt8)) (L : List (Int × List UInt8)) (x : Nat) : List UInt8 := (lastL L (x : Int)).getD (K.getD x [])
/-- what has come of the pending writes, and is none of this sector's -/
def Seen (L : List (Int × List UInt8)) (x : Int) (k : Nat) : Prop := ∀ p, L[L.length - 1 - k]? = some p → p.1 ≠ x
theorem last_none {L : List (Int × List UInt8)} {x : Int} (h : ∀ k, k < L.length → Seen L x k) : lastL L x = none := by
  simp only [lastL, Option.map_eq_none_iff, List.find?_eq_none]
  intro p hp
  obtain ⟨k, hk, he⟩ := List.getElem_of_mem hp
  have hk2 : k < L.length := by simpa using hk
  have := h k hk2 p (by rw [← List.getElem?_reverse hk2, List.getElem?_eq_getElem hk, he])
  simpa using this
theorem last_some {L : List (Int × List UInt8)} {x : Int} {k : Nat} {p : Int × List UInt8} (hk : k < L.length) (h : ∀ j, j < k → Seen L x j) (hp : L[L.length - 1 - k]? = some p) (hx : p.1 = x) : lastL L x = some p.2 := by
  rw [← List.getElem?_reverse hk] at hp
  obtain ⟨hk', he⟩ := List.getElem?_eq_some_iff.1 hp
  have : L.reverse.find? (fun p => p.1 == x) = some p := by
    rw [List.find?_eq_some_iff_getElem]
    refine ⟨by simp [hx], k, hk', he, fun j hj => ?_⟩
    have hjl : j < L.length := by omega
    have := h j hj (L.reverse[j]'(by simp; omega)) (by rw [← List.getElem?_reverse hjl, List.getElem?_eq_getElem])
    simpa using this
  rw [lastL, this]
  rfl
theorem own_grown {w w' : World} {base n s : Nat} {e : TypeId} {v : Value} {xs : List Value} {row : Option Nat} (h : w.ownsRow base e s v n xs) (hg : w.grownBy w' row) (hr : ∀ r, row = some r → ∃ o : Obj, w.heap[r]? = some o ∧ o.isCells = false) : w'.ownsRow base e s v n xs := by
  refine owned_keepN h fun k hk hl => hg.block k hl fun e => ?_
  obtain ⟨o, ho, hc⟩ := hr k e.symm
  rcases owned_formN h with ⟨rfl, _⟩ | ⟨g, cap, cur, rfl, _, _, _, hb, _⟩
  · cases hk
  · have hk : some g = some k := hk
    injection hk with hk
    subst hk
    rw [show w.heap[g]? = _ from hb] at ho
    injection ho with ho
    subst ho
    cases hc
attribute [local go_sem] Oper.semAt_some
theorem keepsFrom_below {B : Nat} {W W' : World} (h : Below W.heap.size W W') : KeepsFrom B W W' := ⟨h.size, fun k _ _ hk _ => (h.block k (Array.getElem?_eq_some_iff.1 hk).1).trans hk⟩
set_option maxRecDepth 100000 in
set_option maxHeartbeats 2000000 in
theorem read_ok {g rk n c m : Nat} {vp : Value} {de fu : Int} (K : List (List UInt8)) (L : List (Int × List UInt8)) (x : Nat) (w : World) (hn : n ≤ 8192) (hm : m ≤ 1000000) (hx : x < n) (hKn : K.length = n) (hLm : L.length = m) (hK : ∀ b ∈ K, b.length = 64) (hL : ∀ p ∈ L, p.2.length = 64)
    (hb : Blk w g 107 (dv de fu false (.slice (some ⟨rk, 0, none⟩) n c) vp)) (hk : w.ownsRow 0 109 64 (.slice (some ⟨rk, 0, none⟩) n c) n (keptCells K)) (hp : w.ownsRow 0 111 65 vp m (pendCells L)) :
    Calls Try.prog 57 #[.pointer (some ⟨g, 0, none⟩), .int .i64 (x : Int)] w fun e w' => ∃ v, e = .returned (.tuple #[v, .int .i64 0]) ∧ w'.ownsRow w.heap.size 5 1 v 64 (bv (readL K L x)) ∧ Below w.heap.size w w' := by
  have hd : decide (0 ≤ (x : Int) ∧ (x : Int) < (n : Int)) = true := decide_eq_true (by omega)
  obtain ⟨A, cp, rfl⟩ : ∃ A cp, vp = .slice A m cp := by
    rcases owned_formN hp with ⟨h, h0, _⟩ | ⟨r, cap, _, h, _⟩
    · exact ⟨none, 0, by rw [h, h0]⟩
    · exact ⟨_, cap, h⟩
  obtain ⟨rp, hA⟩ : ∃ rp, 0 < m → A = some ⟨rp, 0, none⟩ := by
    rcases Nat.eq_zero_or_pos m with h | h
    · exact ⟨0, fun h2 => by omega⟩
    · obtain ⟨rp, cap', hvp⟩ := owned_placeN hp h
      injection hvp with e1 _ e2
      exact ⟨rp, fun _ => e1⟩
  have hlt := hb.lt
  have H := hide (And.intro hb (And.intro hk hp))
  have HN := hide (And.intro (And.intro hKn hLm) (And.intro hK hL))
  have HA := hide hA
  clear hb hk hp hKn hLm hK hL hA
  refine (callsIn_wide (n := 5)).1 ?_
  refine callsIn_of_wp_marks Try.func57 rfl trivial ?_ rfl
  simp only [Try.ntmps57, List.size_toArray, List.length_cons, List.length_nil, Nat.reduceAdd, Nat.reduceSub, Array.replicate_succ, Array.replicate_zero, List.push_toArray, List.append_toArray, List.nil_append, List.cons_append]
  refine wpIn_wide.2 ?_
  have b1 := ((Blk.new w 3 #[.int .i64 (x : Int)]).alloc (.cells #[.slice none 0 0] 48)).alloc (.cells #[.int .i64 0] 27)
  have b2 := (Blk.new (w.alloc (.cells #[.int .i64 (x : Int)] 3)) 48 #[.slice none 0 0]).alloc (.cells #[.int .i64 0] 27)
  have b3 := Blk.new ((w.alloc (.cells #[.int .i64 (x : Int)] 3)).alloc (.cells #[.slice none 0 0] 48)) 27 #[.int .i64 0]
  have hB0 : Below w.heap.size w (((w.alloc (.cells #[.int .i64 (x : Int)] 3)).alloc (.cells #[.slice none 0 0] 48)).alloc (.cells #[.int .i64 0] 27)) := (((Below.refl _ w).alloc (Nat.le_refl _) _).alloc (by simp) _).alloc (by simp; omega) _
  have hdv := H.out.1.below hB0 hlt
  simp only [size_alloc] at b2 b3
  have H1 := hide (And.intro hdv (And.intro hB0 (And.intro b1 (And.intro b2 b3))))
  have c1 := b1.cell 0
  clear b1 b2 b3 hdv hB0
  go_wp2_with fail
  refine (able_any _ H1.out.1).mono ?_
  rintro e w' ⟨rfl, hw'⟩
  rw [if_neg (by simp)]
  have H2 : Hid (Blk w' g 107 (dv de fu false (.slice (some ⟨rk, 0, none⟩) n c) (.slice A m cp)) ∧ Below w.heap.size w w' ∧ Blk w' w.heap.size 3 #[.int .i64 (x : Int)] ∧ Blk w' (w.heap.size + 1) 48 #[.slice none 0 0] ∧ Blk w' (w.heap.size + 1 + 1) 27 #[.int .i64 0] ∧ w'.heap.size = w.heap.size + 1 + 1 + 1) := hide (by
    rw [hw']
    have h := H1.out
    exact ⟨h.1, h.2.1, h.2.2.1, h.2.2.2.1, h.2.2.2.2, by simp⟩)
  have c1 := H2.out.2.2.1.cell 0
  clear hw' H1
  dsimp only
  go_wp2_with fail
  refine (has_any _ hn (x : Int) (by omega) H2.out.1).mono ?_
  rintro e w1 ⟨rfl, rfl⟩
  rw [hd]
  dsimp only
  go_wp2_with fail
  refine (latest_any _ g).mono ?_
  rintro e W0 ⟨rfl, hW0⟩
  dsimp only
  have hbB : Blk W0 w1.heap.size 43 #[.pointer (some ⟨g, 0, none⟩)] := by rw [hW0]; exact Blk.new _ _ _
  have hb10 : Below w1.heap.size w1 W0 := by rw [hW0]; exact (Below.refl _ _).alloc (Nat.le_refl _) _
  have hs0 : W0.heap.size = w.heap.size + 1 + 1 + 1 + 1 := by rw [hW0, size_alloc, H2.out.2.2.2.2.2]
  clear hW0
  have cg4 : W0.cell? ⟨g, 4, none⟩ = some (.slice A m cp) := ((H2.out.1.below hb10 H2.out.1.lt).cell 4).trans (dv4 ..)
  have hB1 : Below w.heap.size w W0 := H2.out.2.1.trans (Below.mono hb10 (by rw [H2.out.2.2.2.2.2]; omega))
  have hI0 : (∀ y ∈ ([] : List Nat), Seen L (x : Int) y) ∧ W0.cell? ⟨w.heap.size, 0, none⟩ = some (.int .i64 (x : Int)) ∧ (W0.cell? ⟨w.heap.size + 1, 0, none⟩ = some (.slice none 0 0) ∧ W0.frozen? ⟨w.heap.size + 1, 0, none⟩ = false) ∧ W0.cell? ⟨w.heap.size + 1 + 1, 0, none⟩ = some (.int .i64 0) ∧ W0.frozen? ⟨w.heap.size + 1 + 1, 0, none⟩ = false := by
    have h1 := H2.out.2.2.1.below hb10 H2.out.2.2.1.lt
    have h2 := H2.out.2.2.2.1.below hb10 H2.out.2.2.2.1.lt
    have h3 := H2.out.2.2.2.2.1.below hb10 H2.out.2.2.2.2.1.lt
    exact ⟨by simp, h1.cell 0, ⟨h2.cell 0, h2.frozen 0⟩, h3.cell 0, h3.frozen 0⟩
  have hlt1 : w1.heap.size < W0.heap.size := hbB.lt
  have hg0 : g < W0.heap.size := by have := hB1.size; omega
  have HI := hide (And.intro hI0 hB1)
  have HLN : L.length = m := HN.out.1.2
  have HS := hide hs0
  go_wp2_with fail
  refine (wpIn_wide (n := 5)).1 ?_
  refine wpIn_rangeFunc_ownG (F := Fence.wide) (n := 5) (α := Nat) rfl (by omega) (gf := 87) (lb := #[.pointer (some ⟨w1.heap.size, 0, none⟩)]) rfl trivial (enters_of Try.func87 (by kernel_rfl) rfl)
    (latest_stops Fence.wide 4 trivial rfl (by omega) w1.heap.size W0.heap.size g m cp A rp HA.out hm W0 (Nat.le_refl _) hg0 hlt1 (hbB.cell 0) cg4) belowK_t (belowK_b (Nat.le_refl _)) (Below.refl _ _) (fun _ => rfl)
    (fun pre W => ((∀ y ∈ pre, Seen L (x : Int) y) ∧ W.cell? ⟨w.heap.size, 0, none⟩ = some (.int .i64 (x : Int)) ∧ (W.cell? ⟨w.heap.size + 1, 0, none⟩ = some (.slice none 0 0) ∧ W.frozen? ⟨w.heap.size + 1, 0, none⟩ = false) ∧ W.cell? ⟨w.heap.size + 1 + 1, 0, none⟩ = some (.int .i64 0) ∧ W.frozen? ⟨w.heap.size + 1 + 1, 0, none⟩ = false) ∧ Below w.heap.size w W)
    (fun c pre W => (c = .ret ∧ ∃ ini last, pre = ini ++ [last] ∧ (∀ y ∈ ini, Seen L (x : Int) y) ∧ ∃ b, L[L.length - 1 - last]? = some ((x : Int), b) ∧ ∃ v, W.cell? ⟨w.heap.size + 1, 0, none⟩ = some v ∧ W.ownsRow w.heap.size 5 1 v 64 (bv b) ∧ W.cell? ⟨w.heap.size + 1 + 1, 0, none⟩ = some (.int .i64 0)) ∧ Below w.heap.size w W)
    (OwnFrom.and (Own.from (fun s A B row hs hg hr => ⟨hs.1, cell_kept hs.2.1 hg hr, ⟨cell_kept hs.2.2.1.1 hg hr, (frozen_kept hs.2.2.1.1 hg hr).trans hs.2.2.1.2⟩, cell_kept hs.2.2.2.1 hg hr, (frozen_kept hs.2.2.2.1 hg hr).trans hs.2.2.2.2⟩) _) (ownFrom_below (Nat.le_refl _) (by rw [HS.out]; omega)))
    (fun c => OwnFrom.and (Own.from (fun s A B row hs hg hr => by obtain ⟨hc, ini, last, e1, e2, p, e3, v, e5, e6, e7⟩ := hs; exact ⟨hc, ini, last, e1, e2, p, e3, v, cell_kept e5 hg hr, own_grown e6 hg hr, cell_kept e7 hg hr⟩) _) (ownFrom_below (Nat.le_refl _) (by rw [HS.out]; omega)))
    HI.out
    (fun y => { tmps := #[Value.pointer (some ⟨g, 0, none⟩), Value.int .i64 (x : Int), undef, Value.pointer (some ⟨w.heap.size, 0, none⟩), Value.pointer (some ⟨w.heap.size + 1, 0, none⟩), Value.pointer (some ⟨w.heap.size + 1 + 1, 0, none⟩), Value.int .i64 0, Value.pointer (some ⟨rp, (m - 1 - y) * 65, none⟩), Value.pointer (some ⟨g, 0, none⟩), Value.int .i64 0, Value.int .i64 0, Value.bool false, undef, Value.pointer (some ⟨g, 0, none⟩), Value.int .i64 (x : Int), Value.bool true, Value.bool false, Value.pointer (some ⟨g, 0, none⟩), Value.func (Fn.func 87) #[] #[.pointer (some ⟨w1.heap.size, 0, none⟩)], Value.pointer (some ⟨rp, (m - 1 - y) * 65, none⟩), undef, undef, undef, undef, undef, undef, undef, undef, undef, undef, undef, undef, undef, undef, undef, undef, undef, undef, undef], defers := [] }) ?assign ?body ?done ?stop
  case assign =>
    intro l y W K hK
    gi_wp2
    exact hK
  case body =>
    rintro l pre y W ⟨⟨hse, hcx, ⟨hc4, hf4⟩, hc5, hf5⟩, hB⟩ hlen
    have hm0 : 0 < m := by omega
    obtain rfl := HA.out hm0
    have hpr : W.ownsRow 0 111 65 (.slice (some ⟨rp, 0, none⟩) m cp) m (pendCells L) := owned_keepN H.out.2.2 fun k _ hl => hB.block k hl
    obtain ⟨p, hpj⟩ : ∃ p, L[m - 1 - y]? = some p := ⟨L[m - 1 - y]'(by omega), List.getElem?_eq_getElem _⟩
    have hp64 : p.2.length = 64 := HN.out.2.2 p (List.mem_of_getElem? hpj)
    obtain ⟨q, hq⟩ : ∃ q, q = (m - 1 - y) * 65 := ⟨_, rfl⟩
    have hrange : W.rangeAt rp q (sh p.1 p.2) := own_range hpr q 65 _ (by rw [hq]; exact pend_at L (m - 1 - y) p HN.out.2.2 hpj)
    have hcat : W.cell? ⟨rp, q, none⟩ = some (.int .i64 p.1) := hrange 0 _ rfl
    have hsrc : Src W (some ⟨rp, q + 1, none⟩) p.2.length 64 (bv p.2) := ⟨bvL _, (fun h => (by cases h)), bv1 _, fun ad had j u hu => by
      injection had with had
      subst had
      rw [Addr.add_mid, Nat.add_assoc]
      refine hrange (1 + j) u ?_
      rw [Nat.add_comm]
      simpa [sh, hp64] using hu⟩
    rw [hp64] at hsrc
    have HSR : Hid (Src W.drew (some ⟨rp, q + 1, none⟩) 64 64 (bv p.2)) := hide ⟨hsrc.len, hsrc.none_, hsrc.one, hsrc.cells⟩
    have HP := hide hpj
    have HSE := hide hse
    have HBB := hide hB
    have HQ := hide hq
    clear hsrc hrange hpj hpr hse hB hI0 hB1 HI hb10 hbB H2
    dsimp only
    rw [← hq]
    clear hq
    have hbW := HBB.out.size
    gi_wp2
    gi_region
    all_goals gi_wp2_with fail
    all_goals first
      | (refine ⟨trivial, (CallsIn.inRound l (callsIn_wide.2 (sclone64 p.2 hp64 ⟨rp, q + 1, none⟩ W.drew HSR.out))).mono ?_⟩
         rintro e w3 ⟨v, rfl, ho3, hb3⟩
         obtain ⟨k3, cap3, hv3⟩ := owned_placeN ho3 (by omega)
         subst hv3
         have hbW3 : Below W.heap.size W w3 := ⟨hb3.os, hb3.tape, hb3.output, hb3.size, hb3.block⟩
         have c4' := (hb3.cell (p := ⟨w.heap.size + 1, 0, none⟩) (World.block_lt_of_cell? W _ hc4)).trans hc4
         have f4' := (hb3.frozen (p := ⟨w.heap.size + 1, 0, none⟩) (World.block_lt_of_cell? W _ hc4)).trans hf4
         have c5' := (hb3.cell (p := ⟨w.heap.size + 1 + 1, 0, none⟩) (World.block_lt_of_cell? W _ hc5)).trans hc5
         have f5' := (hb3.frozen (p := ⟨w.heap.size + 1 + 1, 0, none⟩) (World.block_lt_of_cell? W _ hc5)).trans hf5
         have h4 := World.block_lt_of_cell? W _ hc4
         have h5 := World.block_lt_of_cell? W _ hc5
         have hk3 : W.heap.size ≤ k3 := (owned_ltN ho3 rfl).1
         have H3 := hide (And.intro ho3 (And.intro hbW3 (And.intro h4 h5)))
         clear ho3 hb3 hbW3 h4 h5
         have hpx : (p.1 == (x : Int)) = true := by assumption
         dsimp only
         gi_wp2
         obtain ⟨ho3, hbW3, h4, h5⟩ := H3.out
         refine ⟨((keepsFrom_below hbW3).trans ((KeepsOthers.setCell _ _ _).from _)).trans ((KeepsOthers.setCell _ _ _).from _), ⟨rfl, pre, y, rfl, HSE.out, p.2, by rw [HP.out, ← eq_of_beq hpx], .slice (some ⟨k3, 0, none⟩) 64 cap3, ?_, ?_, ?_⟩, ?_⟩
         · rw [World.cell?_setCell_other _ _ _ _ (fun e => by simp at e)]
           exact World.cell?_setCell_same' _ _ _ (by rw [c4']; rfl)
         · refine owned_baseN (owned_keepN ho3 fun k hk _ => ?_) (fun k hk => ?_)
           · have hk : some k3 = some k := hk
             injection hk with hk
             rw [Below.heap_setCell _ ⟨w.heap.size + 1 + 1, 0, none⟩ _ k (fun e => by have e : k = w.heap.size + 1 + 1 := e; have h5 : w.heap.size + 1 + 1 < W.heap.size := h5; omega), Below.heap_setCell _ ⟨w.heap.size + 1, 0, none⟩ _ k (fun e => by have e : k = w.heap.size + 1 := e; have h4 : w.heap.size + 1 < W.heap.size := h4; omega)]
           · have hk : some k3 = some k := hk
             injection hk with hk
             omega
         · exact World.cell?_setCell_same' _ _ _ (by rw [World.cell?_setCell_other _ _ _ _ (fun e => by simp at e), c5']; rfl)
         · exact ((HBB.out.trans (Below.mono hbW3 hbW)).setCell (by show w.heap.size ≤ w.heap.size + 1; omega) _).setCell (by show w.heap.size ≤ w.heap.size + 1 + 1; omega) _)
      | (have hpx : (p.1 == (x : Int)) = false := by assumption
         refine ⟨(KeepsOthers.drew W).from _, (Below.refl _ W).drew, ⟨fun z hz => ?_, hcx, ⟨hc4, hf4⟩, hc5, hf5⟩, HBB.out.drew⟩
         rcases List.mem_append.1 hz with hz | hz
         · exact HSE.out z hz
         · obtain rfl := List.mem_singleton.1 hz
           intro p' hp' e
           rw [HLN, HP.out] at hp'
           injection hp' with hp'
           subst hp'
           rw [e] at hpx
           simp at hpx)
  case done =>
    rintro D ys W hD rfl ⟨⟨hse, hcx, ⟨hc4, hf4⟩, hc5, hf5⟩, hB⟩ hK
    have HSE := hide hse
    have HBB := hide hB
    clear hse hB hI0 hB1 HI hb10 hbB
    obtain ⟨b0, hkb⟩ : ∃ b, K[x]? = some b := ⟨K[x]'(by have := HN.out.1.1; omega), List.getElem?_eq_getElem _⟩
    have hb64 : b0.length = 64 := HN.out.2.1 b0 (List.mem_of_getElem? hkb)
    have hdv : Blk W g 107 (dv de fu false (.slice (some ⟨rk, 0, none⟩) n c) (.slice A m cp)) := H.out.1.below HBB.out hlt
    have hkr : W.ownsRow 0 109 64 (.slice (some ⟨rk, 0, none⟩) n c) n (keptCells K) := owned_keepN H.out.2.1 fun j _ hl => HBB.out.block j hl
    have hr : readL K L x = b0 := by
      unfold readL
      rw [last_none (fun k hk => HSE.out k (List.mem_range.2 (by omega)))]
      simp [List.getD, hkb]
    have HR := hide (And.intro hdv (And.intro hkr (And.intro hr hkb)))
    clear hdv hkr hr hkb
    go_wp2_with fail
    let V38 : Value → World → Prop := fun u W' => ∃ k cap, u = .slice (some ⟨k, 0, none⟩) 64 cap ∧ W.heap.size ≤ k ∧ W'.ownsRow W.heap.size 5 1 u 64 (bv b0)
    have hL : ∀ p ∈ ([(38, V38)] : MadeL), MadeOk p.2 := by
      intro p hp
      obtain rfl := List.mem_singleton.1 hp
      refine ⟨?_, ?_⟩
      · rintro u W1 W2 ⟨k, cap, rfl, h1, h2⟩ hx2
        exact ⟨k, cap, rfl, h1, owned_keepN h2 fun j _ hl => hx2.block j hl⟩
      · rintro u W1 ⟨k, cap, rfl, h1, h2⟩
        exact ⟨k, rfl, (owned_ltN h2 rfl).2⟩
    refine wp_made 8 [(38, V38)] (by kernel_rfl) (by kernel_rfl) hL (by simp) (by simp) ?_
    simp only [List.take_succ_cons, List.take_zero, List.drop_succ_cons, List.drop_zero]
    refine made_val (.pointer (some ⟨g, 0, none⟩)) (by kernel_rfl) (by kernel_rfl) (by kernel_rfl) (fun _ _ => by kernel_rfl) ?_
    simp only [Act.put, List.setIfInBounds_toArray, List.set_cons_zero, List.set_cons_succ]
    refine made_val (.pointer (some ⟨g, 0, none⟩)) (by kernel_rfl) (by kernel_rfl) (by kernel_rfl) (fun _ _ => by kernel_rfl) ?_
    simp only [Act.put, List.setIfInBounds_toArray, List.set_cons_zero, List.set_cons_succ]
    refine made_val (.pointer (some ⟨g, 3, none⟩)) (by kernel_rfl) (by kernel_rfl) (by kernel_rfl) (fun _ _ => by kernel_rfl) ?_
    simp only [Act.put, List.setIfInBounds_toArray, List.set_cons_zero, List.set_cons_succ]
    refine made_val (.slice (some ⟨rk, 0, none⟩) n c) (by kernel_rfl) (by kernel_rfl) (by kernel_rfl) (fun W2 hW => exec_load_slice (o := ⟨some 34, _, _, _, _, _⟩) 102 109 (.tmp 33) rfl ⟨g, 3, none⟩ rfl _ W2 Try.underlying102 (((HR.out.1.below hW HR.out.1.lt).cell 3).trans (dv3 ..))) ?_
    simp only [Act.put, List.setIfInBounds_toArray, List.set_cons_zero, List.set_cons_succ]
    refine made_val (.int .i64 (x : Int)) (by kernel_rfl) (by kernel_rfl) (by kernel_rfl) (fun W2 hW => exec_load_cell (o := ⟨some 35, _, _, _, _, _⟩) 3 (.tmp 3) rfl ⟨w.heap.size, 0, none⟩ rfl _ _ W2 Try.underlying3 rfl ((hW.cell (p := ⟨w.heap.size, 0, none⟩) (World.block_lt_of_cell? W _ hcx)).trans hcx)) ?_
    simp only [Act.put, List.setIfInBounds_toArray, List.set_cons_zero, List.set_cons_succ]
    refine made_val (.pointer (some ⟨rk, (x : Int).toNat * 64, none⟩)) (by kernel_rfl) (by kernel_rfl) (by kernel_rfl) (fun W2 _ => exec_index (o := ⟨some 36, _, _, _, _, _⟩) 102 109 (.tmp 34) (.tmp 35) rfl rk n c (x : Int) .i64 rfl rfl ⟨by omega, by omega⟩ 64 Try.underlying102 sz_sect W2) ?_
    simp only [Act.put, List.setIfInBounds_toArray, List.set_cons_zero, List.set_cons_succ]
    rw [show (x : Int).toNat = x from Int.toNat_natCast x]
    refine made_val (.slice (some ⟨rk, x * 64, none⟩) 64 64) (by kernel_rfl) (by kernel_rfl) (by kernel_rfl) (fun _ _ => by kernel_rfl) ?_
    simp only [Act.put, List.setIfInBounds_toArray, List.set_cons_zero, List.set_cons_succ]
    refine made_newcall 38 V38 82 #[.slice (some ⟨rk, x * 64, none⟩) 64 64] hL (by kernel_rfl) (by kernel_rfl) rfl rfl (fun _ => by kernel_rfl) (fun W2 hW => ?hcl) ?_
    case hcl =>
      have hs2 : Src W2 (some ⟨rk, x * 64, none⟩) 64 64 (bv b0) := ⟨by rw [bvL, hb64], (fun h => (by cases h)), bv1 b0, fun ad had j u hu => by
        injection had with had
        subst had
        rw [Addr.add_mid]
        exact own_range (owned_keepN HR.out.2.1 fun j _ hl => hW.block j hl) (x * 64) 64 _ (kept_at K x b0 HN.out.2.1 HR.out.2.2.2) j u hu⟩
      refine (sclone64 b0 hb64 _ W2 hs2).mono ?_
      rintro e W3 ⟨v, rfl, ho, hb3⟩
      obtain ⟨k, cap, hv⟩ := owned_placeN ho (by omega)
      have hk := (owned_ltN ho (g := k) (by rw [hv]; rfl)).1
      have hsz : W.heap.size ≤ W2.heap.size := hW.size
      exact ⟨v, k, rfl, hb3, ⟨k, cap, hv, by omega, owned_baseN ho fun j hj => by have := (owned_ltN ho hj).1; omega⟩, by rw [hv]; rfl, hk⟩
    simp only [Act.put, List.setIfInBounds_toArray, List.set_cons_zero, List.set_cons_succ]
    show ∀ w', _ → _
    intro W4 hb4
    simp only [ended]
    rintro u ⟨k, cap, rfl, hk, ho⟩ _
    simp only [Act.put, List.setIfInBounds_toArray, List.set_cons_zero, List.set_cons_succ]
    have hb4 : Below W.heap.size W W4 := hb4
    have c4' := (hb4.cell (p := ⟨w.heap.size + 1, 0, none⟩) (World.block_lt_of_cell? W _ hc4)).trans hc4
    have f4' := (hb4.frozen (p := ⟨w.heap.size + 1, 0, none⟩) (World.block_lt_of_cell? W _ hc4)).trans hf4
    have c5' := (hb4.cell (p := ⟨w.heap.size + 1 + 1, 0, none⟩) (World.block_lt_of_cell? W _ hc5)).trans hc5
    have f5' := (hb4.frozen (p := ⟨w.heap.size + 1 + 1, 0, none⟩) (World.block_lt_of_cell? W _ hc5)).trans hf5
    have h4 : w.heap.size + 1 < W.heap.size := World.block_lt_of_cell? W _ hc4
    have h5 : w.heap.size + 1 + 1 < W.heap.size := World.block_lt_of_cell? W _ hc5
    have HO := hide ho
    have HB4 := hide hb4
    clear ho hb4
    go_wp2_with fail
    have hDW : D < W.heap.size := (Array.getElem?_eq_some_iff.1 hK).1
    have hK4 : W4.heap[D]? = some (.deferred (some [])) := (HB4.out.block D hDW).trans hK
    obtain ⟨w5, hw5⟩ : ∃ w5, w5 = (W4.setCell ⟨w.heap.size + 1, 0, none⟩ (.slice (some ⟨k, 0, none⟩) 64 cap)).setCell ⟨w.heap.size + 1 + 1, 0, none⟩ (.int .i64 0) := ⟨_, rfl⟩
    have hK5 : w5.heap[D]? = some (.deferred (some [])) := by rw [hw5]; exact (KeepsOthers.setCell _ _ _).same D _ ((KeepsOthers.setCell _ _ _).same D _ hK4 rfl) rfl
    have hc4' : w5.cell? ⟨w.heap.size + 1, 0, none⟩ = some (.slice (some ⟨k, 0, none⟩) 64 cap) := by
      rw [hw5, World.cell?_setCell_other _ _ _ _ (fun e => by simp at e)]
      exact World.cell?_setCell_same' _ _ _ (by rw [c4']; rfl)
    have hc5' : w5.cell? ⟨w.heap.size + 1 + 1, 0, none⟩ = some (.int .i64 0) := by
      rw [hw5]
      exact World.cell?_setCell_same' _ _ _ (by rw [World.cell?_setCell_other _ _ _ _ (fun e => by simp at e), c5']; rfl)
    have ho5 : w5.ownsRow w.heap.size 5 1 (.slice (some ⟨k, 0, none⟩) 64 cap) 64 (bv b0) := by
      rw [hw5]
      refine owned_baseN (owned_keepN HO.out fun j hj _ => ?_) (fun j hj => ?_)
      · have hj : some k = some j := hj
        injection hj with hj
        rw [Below.heap_setCell _ ⟨w.heap.size + 1 + 1, 0, none⟩ _ j (fun e => by have e : j = w.heap.size + 1 + 1 := e; omega), Below.heap_setCell _ ⟨w.heap.size + 1, 0, none⟩ _ j (fun e => by have e : j = w.heap.size + 1 := e; omega)]
      · have hj : some k = some j := hj
        injection hj with hj
        omega
    have hB5 : Below w.heap.size w w5 := by
      rw [hw5]
      exact ((HBB.out.trans (Below.mono HB4.out HBB.out.size)).setCell (by show w.heap.size ≤ w.heap.size + 1; omega) _).setCell (by show w.heap.size ≤ w.heap.size + 1 + 1; omega) _
    rw [← hw5]
    clear hw5
    refine ⟨by simp, .inl ⟨_, _, rfl, run_takeDeferred hK5, ?_⟩⟩
    have hc6 := cell_kept hc4' (grownBy_putObj' _ D (.deferred none)) (fun r e => by cases e; exact ⟨_, hK5, rfl⟩)
    have hc7 := cell_kept hc5' (grownBy_putObj' _ D (.deferred none)) (fun r e => by cases e; exact ⟨_, hK5, rfl⟩)
    refine ⟨.tuple #[.slice (some ⟨k, 0, none⟩) 64 cap, .int .i64 0], ?_, _, rfl, ?_, ?_⟩
    · simp [results, Try.f57, go_sem, hc6, hc7]
    · rw [HR.out.2.2.1]
      exact own_grown ho5 (grownBy_putObj' _ D (.deferred none)) (fun r e => by cases e; exact ⟨_, hK5, rfl⟩)
    · exact hB5.trans (belowK_b (w := w) (Nat.le_refl _) w5 D _ _ (by omega) hK5 rfl rfl)
  case stop =>
    rintro D c' pre W hD ⟨k, hk, rfl⟩ ⟨⟨rfl, ini, last, e1, e2, b, e3, v, hc4, ho, hc5⟩, hB⟩ hK
    refine wpIn_wide.2 ?_
    have HO := hide ho
    have HBB := hide hB
    have HE := hide (And.intro e1 (And.intro e2 e3))
    clear ho hB e1 e2 e3 hI0 hB1 HI hb10 hbB
    go_wp2_with fail
    refine ⟨by simp, .inl ⟨_, _, rfl, run_takeDeferred hK, ?_⟩⟩
    have hc4' := cell_kept hc4 (grownBy_putObj' _ D (.deferred none)) (fun r e => by cases e; exact ⟨_, hK, rfl⟩)
    have hc5' := cell_kept hc5 (grownBy_putObj' _ D (.deferred none)) (fun r e => by cases e; exact ⟨_, hK, rfl⟩)
    obtain ⟨e1, e2, e3⟩ := HE.out
    obtain ⟨k', rfl⟩ : ∃ k', k = k' + 1 := by
      cases k with
      | zero => simp at e1
      | succ k' => exact ⟨k', rfl⟩
    rw [List.range_succ] at e1
    obtain ⟨rfl, e5⟩ := List.append_inj' e1 rfl
    obtain rfl : k' = last := by simpa using e5
    have hr : readL K L x = b := by
      unfold readL
      rw [last_some (by omega) (fun j hj => e2 j (List.mem_range.2 hj)) e3 rfl]
      rfl
    refine ⟨.tuple #[v, .int .i64 0], ?_, v, rfl, ?_, ?_⟩
    · simp [results, Try.f57, go_sem, hc4', hc5']
    · rw [hr]
      exact own_grown HO.out (grownBy_putObj' _ D (.deferred none)) (fun r e => by cases e; exact ⟨_, hK, rfl⟩)
    · exact HBB.out.trans (belowK_b (w := w) (Nat.le_refl _) W D _ _ (by omega) hK rfl rfl)
/-- a sector as it is seen -/
def Dv.read (D : Dv) (x : Nat) : List UInt8 := readL D.kept D.pend x
theorem readDev_any {D : Dv} {F : Nat → Prop} {g : Nat} (x : Nat) (hx : x < D.kept.length) (w : World) (h : DevAt w F g D) (hdn : D.dn = false) (hm : D.pend.length ≤ 1000000) : Calls Try.prog 57 #[.pointer (some ⟨g, 0, none⟩), .int .i64 (x : Int)] w fun e w' => ∃ v, e = .returned (.tuple #[v, .int .i64 0]) ∧ w'.ownsRow w.heap.size 5 1 v 64 (bv (D.read x)) ∧ Below w.heap.size w w' := by
  obtain ⟨rk, c, vp, rfl, hb, hk, hp, hok⟩ := h
  rw [hdn] at hb
  exact read_ok D.kept D.pend x w hok.n2 hm hx rfl rfl hok.k64 (fun p hp => (hok.p64 p hp).1) hb hk hp
end Go.Proofs.Ytajeohmmobgcjaa
