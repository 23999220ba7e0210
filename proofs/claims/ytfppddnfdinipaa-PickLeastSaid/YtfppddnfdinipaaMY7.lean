/- spencelaw24: choices. spencelaw24: PickBest's and PickFuel's plain laws. spenceref24: Free. spencelaw24: option. A slice built of two parts of many cells; a slice that is read out of a block. spencelaw24: awake. spencelaw24: PickFree: the walk. how long a least choice's row is. -/
import Derived.Test.YtfppddnfdinipaaMY3
import Derived.Test.YtfppddnfdinipaaMY4
import Derived.Test.YtfppddnfdinipaaBuild
import Derived.Test.YtfppddnfdinipaaMY1
import Derived.Test.YtfppddnfdinipaaMY6
section
namespace Go.Proofs.Ytfppddnfdinipaa
open Go Go.RowKit Go.Maps
set_option maxRecDepth 100000
def stepC (out : List (List Nat)) (n : Nat) : List (List Nat) := out.flatMap fun l => (List.range n).map fun k => l ++ [k]
def choicesP : List (List Opt) → List (List Nat) → Option (List (List Nat))
  | [], out => some out
  | os :: r, out => if 300 < (stepC out os.length).length then none else choicesP r (stepC out os.length)
theorem stepC_len (out : List (List Nat)) (n : Nat) : (stepC out n).length = out.length * n := by
  unfold stepC
  induction out with
  | nil => simp
  | cons l out ih => rw [List.flatMap_cons, List.length_append, ih, List.length_map, List.length_range, List.length_cons, Nat.add_mul]; omega
theorem stepC_next {out : List (List Nat)} {k : Nat} {l : List Nat} (h : out[k]? = some l) (n : Nat) : stepC (out.take (k + 1)) n = stepC (out.take k) n ++ (List.range n).map fun j => l ++ [j] := by
  unfold stepC
  rw [List.take_add_one, h, List.flatMap_append]
  simp
theorem info_rowI : (Try.prog.info? 33).map (fun i => (i.zero, i.size, i.bytes)) = some (some (.slice none 0 0), 1, 24) := by kernel_rfl
/-- a row of rows of numbers -/
def RowsI (R : Nat) (w : World) (v : Value) (ls : List (List Nat)) : Prop := ∃ us : List Value, us.length = ls.length ∧ w.ownsRow R 33 1 v ls.length us ∧ ∀ (j : Nat) u l, us[j]? = some u → ls[j]? = some l → OwnI 0 w u l
theorem RowsI.nil (R : Nat) (w : World) : RowsI R w (.slice none 0 0) [] := ⟨[], rfl, World.ownsRow_nil _ _ _ _, fun j u l h => by simp at h⟩
theorem RowsI.base {R R' : Nat} {w : World} {v : Value} {ls : List (List Nat)} (h : RowsI R w v ls) (hb : ∀ g, v.ownBlock = some g → R' ≤ g) : RowsI R' w v ls := by
  obtain ⟨us, h1, h2, h3⟩ := h
  exact ⟨us, h1, owned_baseN h2 hb, h3⟩
theorem RowsI.below {R : Nat} {w w' : World} {v : Value} {ls : List (List Nat)} (h : RowsI R w v ls) (hb : Below w.heap.size w w') : RowsI R w' v ls := by
  obtain ⟨us, h1, h2, h3⟩ := h
  exact ⟨us, h1, owned_keepN h2 fun g _ hl => hb.block g hl, fun j u l hu hl => owned_keepN (h3 j u l hu hl) fun g _ hl => hb.block g hl⟩
theorem RowsI.blk {R : Nat} {w : World} {v : Value} {ls : List (List Nat)} (h : RowsI R w v ls) {k : Nat} (hk : v.ownBlock = some k) : R ≤ k ∧ k < w.heap.size := by
  obtain ⟨us, h1, h2, h3⟩ := h
  exact owned_ltN h2 hk
/-- one row of it -/
theorem RowsI.get {R : Nat} {w : World} {v : Value} {ls : List (List Nat)} (h : RowsI R w v ls) {k : Nat} {l : List Nat} (hk : ls[k]? = some l) : ∃ g cap A c, v = .slice (some ⟨g, 0, none⟩) ls.length cap ∧ g < w.heap.size ∧ R ≤ g ∧ w.cell? ⟨g, k, none⟩ = some (.slice A l.length c) ∧ OwnI 0 w (.slice A l.length c) l := by
  obtain ⟨us, h1, h2, h3⟩ := h
  have hkl := (List.getElem?_eq_some_iff.1 hk).1
  obtain ⟨u, hu⟩ : ∃ u, us[k]? = some u := ⟨_, List.getElem?_eq_getElem (by omega)⟩
  have ho := h3 k u l hu hk
  have hul : ∃ A c, u = .slice A l.length c := by
    rcases owned_formN ho with ⟨e, h0, _⟩ | ⟨g, cap, cur, e, _⟩
    · exact ⟨none, 0, by rw [e, h0]⟩
    · exact ⟨_, _, e⟩
  obtain ⟨A, c, rfl⟩ := hul
  rcases owned_formN h2 with ⟨_, h0, _⟩ | ⟨g, cap, cur, e, hR, _, _, hb, hs, ht, hlt⟩
  · omega
  · refine ⟨g, cap, A, c, e, hlt, hR, ?_, ho⟩
    rw [hb.cell, ← Array.getElem?_toList]
    rw [← ht, List.getElem?_take_of_lt (by omega)] at hu
    exact hu
/-- a row is put behind -/
theorem rowsI_put {R : Nat} {w w' : World} {v v' u : Value} {ls : List (List Nat)} {l : List Nat} {us : List Value} (h1 : us.length = ls.length) (h2 : w.ownsRow R 33 1 v ls.length us) (h3 : ∀ (j : Nat) u l, us[j]? = some u → ls[j]? = some l → OwnI 0 w u l) (hu : OwnI 0 w u l) (hg : w.grownBy w' v.ownBlock) (ho : w'.ownsRow R 33 1 v' (ls.length + 1) (us ++ [u])) : RowsI R w' v' (ls ++ [l]) := by
  have hkeep : ∀ {u : Value} {l : List Nat}, OwnI 0 w u l → OwnI 0 w' u l := fun {u l} hq => owned_keepN hq fun g hg2 hl => hg.block g hl fun e => by
    obtain ⟨g', cap, cur, e1, _, _, _, hb, _⟩ := (owned_formN hq).resolve_left (fun h => by rw [h.1] at hg2; cases hg2)
    rw [e1] at hg2
    injection hg2 with hg2
    change g' = g at hg2
    subst hg2
    exact owned_neN h2 hb (by decide) e.symm
  refine ⟨us ++ [u], by simp [h1], by rw [List.length_append]; exact ho, fun j x y hx hy => ?_⟩
  by_cases hj : j < ls.length
  · rw [List.getElem?_append_left (by omega)] at hx
    rw [List.getElem?_append_left hj] at hy
    exact hkeep (h3 j x y hx hy)
  · have hjl := (List.getElem?_eq_some_iff.1 hy).1
    simp at hjl
    obtain rfl : j = ls.length := by omega
    rw [List.getElem?_append_right (by omega), h1] at hx
    rw [List.getElem?_append_right (by omega)] at hy
    simp at hx hy
    subst hx hy
    exact hkeep hu
set_option maxHeartbeats 8000000 in
theorem choices_any (w : World) (v : Cvs) (c : CaseP) (hc : c.size ≤ 120) (hC : CaseAt w.heap.size w v c) :
    Calls Try.prog 26 #[.agg (caseC v).toArray] w fun e w' => (∃ u b, e = .returned (.tuple #[u, .bool b]) ∧ (choicesP c.opts [[]] = none → b = false) ∧ ∀ all, choicesP c.opts [[]] = some all → b = true ∧ RowsI w.heap.size w' u all) ∧ Below w.heap.size w w' := by
  obtain ⟨b1, b2, b3, b4, b5, b6, b7⟩ := CaseP.bounds hc
  obtain ⟨w1, hw1⟩ : ∃ w1, w1 = w.alloc (.cells (caseC v).toArray 29) := ⟨_, rfl⟩
  have hb1 : Below w.heap.size w w1 := by rw [hw1]; exact (Below.refl _ w).alloc (Nat.le_refl _) _
  have hk1 : Blk w1 w.heap.size 29 (caseC v).toArray := by rw [hw1]; exact Blk.new _ _ _
  have hz1 : w1.heap.size = w.heap.size + 1 := by rw [hw1, size_alloc]
  have hC1 : CaseAt w.heap.size w1 v c := hC.alike fun k hk => hb1.block k hk
  have ho : okH v.own := by rw [hC.own]; exact hC.okO
  obtain ⟨Ao, capo, hvo, _, _, _, hAo⟩ := slice_open hC1.atO
  have hcells := case_cells ho hk1
  rw [hvo] at hcells
  obtain ⟨w2, hw2⟩ : ∃ w2, w2 = (w.alloc (.cells (caseC v).toArray 29)).alloc (.cells #[.slice none 0 0] 33) := ⟨_, rfl⟩
  have hw2' : w2 = w1.alloc (.cells #[.slice none 0 0] 33) := by rw [hw2, hw1]
  have hb2 : Below (w.heap.size + 1) w1 w2 := by rw [hw2', ← hz1]; exact (Below.refl _ w1).alloc (Nat.le_refl _) _
  have hz2 : w2.heap.size = w.heap.size + 2 := by rw [hw2', size_alloc, hz1]
  have hr2 : RowsI (w.heap.size + 1) w2 (.slice (some ⟨w.heap.size + 1, 0, none⟩) 1 1) [[]] := by
    refine ⟨[.slice none 0 0], rfl, ?_, fun j u l hu hl => ?_⟩
    · refine ⟨rfl, .inr ⟨w.heap.size + 1, 1, #[.slice none 0 0], rfl, Nat.le_refl _, ?_, Nat.le_refl _, by simp only [maxLen]; omega, rfl, rfl⟩⟩
      rw [hw2', ← hz1]
      exact heap_alloc_new w1 _
    · match j, hu, hl with
      | 0, hu, hl =>
        injection hu with hu
        injection hl with hl
        subst hu hl
        exact OwnI.nil _ _
  have H1 := hide (And.intro hb1 (And.intro hb2 (And.intro hcells.2.2.1 (And.intro hAo hz2))))
  have H2 := hide hr2
  have HW := hide hw2
  clear hb1 hk1 hC1 hC hvo hAo hcells hw1 hw2 hw2' hb2 hr2 hz2
  have o9 : (c.opts.length : Int) ≤ 120 := by omega
  go_enter Try.func26, Try.ntmps26
  go_wp2_with fail
  rw [← HW.out]
  go_loopw [4, 5] (fun vo x wr => ∃ i out, i ≤ c.opts.length ∧ x = .int .i64 ((i : Nat) : Int) ∧ RowsI (w.heap.size + 1) wr vo out ∧ out.length ≤ 300 ∧ Below (w.heap.size + 1) w1 wr ∧ choicesP c.opts [[]] = choicesP (c.opts.drop i) out ∧ (∀ l ∈ out, l.length ≤ i)) (fun _ x _ => c.opts.length - (intOf x).toNat)
  case atStart => exact ⟨0, [[]], by omega, rfl, H2.out, by simp, H1.out.2.1, rfl, by simp⟩
  case round =>
    obtain ⟨wo, rfl⟩ : ∃ wo, wo = wr := ⟨_, rfl⟩
    obtain ⟨i, out, hi, rfl, hro, hol, hbw, hch, hll⟩ := hrel
    have H3 := hide (And.intro hro (And.intro hbw (And.intro hch hll)))
    clear hro hbw hch hll
    have c22 : wo.cell? ⟨w.heap.size, 22, none⟩ = some (.slice Ao c.opts.length capo) := (World.cell?_of_block (H3.out.2.1.block w.heap.size (by omega))).trans H1.out.2.2.1
    have i0 : (0 : Int) ≤ (i : Int) := by omega
    have out9 : (out.length : Int) ≤ 300 := by omega
    have hlen := (show ∃ A cap, u4 = .slice A out.length cap from by
      obtain ⟨us, _, h2, _⟩ := H3.out.1
      rcases owned_formN h2 with ⟨e, h0, _⟩ | ⟨g, cap, cur, e, _⟩
      · exact ⟨none, 0, by rw [e, h0]⟩
      · exact ⟨_, _, e⟩)
    obtain ⟨Au, capu, rfl⟩ := hlen
    by_cases hi2 : i < c.opts.length
    · have i1 : (i : Int) < (c.opts.length : Int) := by omega
      obtain ⟨os, hos⟩ : ∃ os, c.opts[i]? = some os := ⟨_, List.getElem?_eq_getElem hi2⟩
      obtain ⟨bo, offo, rfl, hlo, hEo⟩ := H1.out.2.2.2.1 (by omega)
      obtain ⟨cs1, hr1, hat1⟩ := hEo i os hos
      obtain ⟨vr, rfl, hat1⟩ := rowLay_at hat1
      obtain ⟨Ar, capr, rfl, _, _, _, hAr⟩ := slice_open hat1
      have hrow : ∀ W, Below (w.heap.size + 1) w1 W → W.cell? ⟨w.heap.size, 22, none⟩ = some (.slice (some ⟨bo, offo, none⟩) c.opts.length capo) ∧ W.cell? ⟨bo, offo + i, none⟩ = some (.slice Ar os.length capr) := fun W hW => by
        have h9 : w1.cell? ⟨bo, offo + i * 1 + 0, none⟩ = some (.slice Ar os.length capr) := hr1 0 _ rfl
        rw [Nat.mul_one, Nat.add_zero] at h9
        exact ⟨(World.cell?_of_block (hW.block w.heap.size (by omega))).trans H1.out.2.2.1, (World.cell?_of_block (hW.block bo (by omega))).trans h9⟩
      have os9 : (os.length : Int) ≤ 120 := by have := (b7 os (List.mem_of_getElem? hos)).1; omega
      have HR := hide hrow
      have HOS := hide hos
      clear hrow hEo hr1 hat1 hAr hos
      go_wp2_with fail
      go_loopw [6, 7] (fun vn x w3 => ∃ k, k ≤ out.length ∧ x = .int .i64 ((k : Nat) : Int) ∧ RowsI wo.heap.size w3 vn (stepC (out.take k) os.length) ∧ RowsI (w.heap.size + 1) w3 (.slice Au out.length capu) out ∧ Below (w.heap.size + 1) w1 w3 ∧ wo.heap.size ≤ w3.heap.size) (fun _ x _ => out.length - (intOf x).toNat)
      case atStart => exact ⟨0, by omega, rfl, RowsI.nil _ _, H3.out.1, H3.out.2.1, Nat.le_refl _⟩
      case round =>
        obtain ⟨wk, rfl⟩ : ∃ wk, wk = wr := ⟨_, rfl⟩
        obtain ⟨k, hk, rfl, hvn, hro, hbw, hsz⟩ := hrel
        have H4 := hide (And.intro hvn (And.intro hro (And.intro hbw hsz)))
        clear hvn hro hbw hsz
        have k0 : (0 : Int) ≤ (k : Int) := by omega
        by_cases hk2 : k < out.length
        · have k1 : (k : Int) < (out.length : Int) := by omega
          obtain ⟨l, hl⟩ : ∃ l, out[k]? = some l := ⟨_, List.getElem?_eq_getElem hk2⟩
          have hl9 : l.length ≤ 120 := by have := H3.out.2.2.2 l (List.mem_of_getElem? hl); omega
          obtain ⟨g, cap', A, cl, e, hgl, hgR, hgc, hgo⟩ := H4.out.2.1.get hl
          injection e with e1 _ e2
          subst e1 e2
          have HL := hide (And.intro hl (And.intro hgl (And.intro hgR (And.intro hgc hgo))))
          clear hl hgl hgR hgc hgo
          have hnx9 : (stepC (out.take k) os.length).length ≤ 300 * 120 := by
            rw [stepC_len, List.length_take]
            exact Nat.mul_le_mul (by omega) (by omega)
          go_wp2_with fail
          go_loopw [6, 8] (fun vn x w4 => ∃ n, n ≤ os.length ∧ x = .int .i64 ((n : Nat) : Int) ∧ RowsI wo.heap.size w4 vn (stepC (out.take k) os.length ++ (List.range n).map fun j => l ++ [j]) ∧ RowsI (w.heap.size + 1) w4 (.slice (some ⟨g, 0, none⟩) out.length capu) out ∧ Below (w.heap.size + 1) w1 w4 ∧ wo.heap.size ≤ w4.heap.size ∧ w4.cell? ⟨g, k, none⟩ = some (.slice A l.length cl) ∧ OwnI 0 w4 (.slice A l.length cl) l ∧ g < wo.heap.size) (fun _ x _ => os.length - (intOf x).toNat)
          case atStart => exact ⟨0, by omega, rfl, by simpa using H4.out.1, H4.out.2.1, H4.out.2.2.1, H4.out.2.2.2, HL.out.2.2.2.1, HL.out.2.2.2.2, (H3.out.1.blk rfl).2⟩
          case round =>
            obtain ⟨wn, rfl⟩ : ∃ wn, wn = wr := ⟨_, rfl⟩
            obtain ⟨n, hn, rfl, hvn, hro, hbw, hsz, hgc, hgo, hgl⟩ := hrel
            have H5 := hide (And.intro hvn (And.intro hro (And.intro hbw (And.intro hsz (And.intro hgc (And.intro hgo hgl))))))
            have c22n := (HR.out wn hbw).1
            have crn := (HR.out wn hbw).2
            clear hvn hro hbw hsz hgc hgo hgl
            have n0 : (0 : Int) ≤ (n : Int) := by omega
            by_cases hn2 : n < os.length
            · have n1 : (n : Int) < (os.length : Int) := by omega
              obtain ⟨w5, hw5⟩ : ∃ w5, w5 = wn.alloc (.cells #[] 3) := ⟨_, rfl⟩
              have hb5 : Below wn.heap.size wn w5 := by rw [hw5]; exact (Below.refl _ wn).alloc (Nat.le_refl _) _
              have hown5 : w5.ownsRow wn.heap.size 3 1 (.slice (some ⟨wn.heap.size, 0, none⟩) 0 0) 0 [] := by rw [hw5]; exact owned_new wn _
              have hc5 : w5.cell? ⟨g, k, none⟩ = some (.slice A l.length cl) := (World.cell?_of_block (hb5.block g (World.block_lt_of_cell? wn _ H5.out.2.2.2.2.1))).trans H5.out.2.2.2.2.1
              have hs5 : Src w5 A l.length cl (iv l) := OwnI.src (owned_keepN H5.out.2.2.2.2.2.1 fun g _ hl => hb5.block g hl)
              obtain ⟨ii, hi, hz0, hz1, hz2⟩ := info_parts info_intI
              have H6 := hide (And.intro hb5 (And.intro hown5 (And.intro hc5 hs5)))
              have HI := hide (And.intro hi (And.intro hz0 (And.intro hz1 hz2)))
              have HW5 := hide hw5
              clear hb5 hown5 hc5 hs5 hw5 hi hz0 hz1 hz2
              go_wp2_with (first | (refine wpList_value (o := ⟨some 37, _, _, _, _, _⟩) rfl (.pointer (some ⟨g, 0 + (k : Int).toNat * 1, none⟩)) w5 (by rw [← HW5.out]; exact exec_index_off (o := ⟨some 37, _, _, _, _, _⟩) 44 33 (.tmp 35) (.tmp 36) rfl g 0 out.length capu (k : Int) .i64 rfl rfl ⟨k0, k1⟩ 1 Try.underlying44 (by kernel_rfl) w5) ?_; rw [show 0 + (k : Int).toNat * 1 = k by omega]) | (refine wpList_value (o := ⟨some 38, _, _, _, _, _⟩) rfl (.slice A l.length cl) w5 (exec_load_cell (o := ⟨some 38, _, _, _, _, _⟩) 33 (.tmp 37) rfl ⟨g, k, none⟩ rfl _ _ w5 Try.underlying33 rfl H6.out.2.2.1) ?_) | (at_builtin; (refine wpList_app (o := ⟨some 39, _, _, _, _, _⟩) rfl _ _ 33 rfl wn.heap.size 3 ii (.int .i64 0) 8 Try.underlying33 HI.out.1 HI.out.2.1 HI.out.2.2.1 HI.out.2.2.2 rfl _ 0 [] H6.out.2.1 A l.length cl (iv l) H6.out.2.2.2 ?h1 ?h2 ?h3 rfl rfl ?_)))
              case h1 => simp only [maxLen]; omega
              case h2 => omega
              case h3 => exact H6.out.1.size
              intro v6 w6 own6 gr6 _ _
              have hb6 : Below wn.heap.size wn w6 := Below.grownOwn H6.out.1 H6.out.2.1 (Nat.le_refl _) gr6
              obtain ⟨w7, hw7⟩ : ∃ w7, w7 = w6.alloc (.cells #[.int .i64 (n : Int)] 3) := ⟨_, rfl⟩
              have hb7 : Below w6.heap.size w6 w7 := by rw [hw7]; exact (Below.refl _ w6).alloc (Nat.le_refl _) _
              have hs7 : Src w7 (some ⟨w6.heap.size, 0, none⟩) 1 1 [.int .i64 (n : Int)] := by rw [hw7]; exact src_one w6 _ _ rfl
              have own7 : w7.ownsRow wn.heap.size 3 1 v6 l.length (iv l) := owned_keepN own6 fun g _ hl => hb7.block g hl
              have H7 := hide (And.intro (hb6.trans (Below.mono hb7 hb6.size)) (And.intro hs7 own7))
              have HW7 := hide hw7
              clear hb6 hb7 hs7 own7 own6 gr6 hw7
              go_wp2_with (at_builtin; (refine wpList_app (o := ⟨some 42, _, _, _, _, _⟩) rfl _ _ 33 rfl wn.heap.size 3 ii (.int .i64 0) 8 Try.underlying33 HI.out.1 HI.out.2.1 HI.out.2.2.1 HI.out.2.2.2 rfl v6 l.length (iv l) ?g0 (some ⟨w6.heap.size, 0, none⟩) 1 1 [.int .i64 (n : Int)] ?g4 ?g1 ?g2 ?g3 rfl rfl ?_))
              case g0 => rw [← HW7.out]; exact H7.out.2.2
              case g4 => rw [← HW7.out]; exact H7.out.2.1
              case g1 => simp only [maxLen]; omega
              case g2 => omega
              case g3 => rw [← HW7.out]; exact H7.out.1.size
              rw [← HW7.out]
              intro v8 w8 own8 gr8 _ _
              have hb8 : Below wn.heap.size wn w8 := Below.grownOwn H7.out.1 H7.out.2.2 (Nat.le_refl _) gr8
              have hv8 : ∃ A c, v8 = .slice A (l.length + 1) c := by
                rcases owned_formN own8 with ⟨_, h0, _⟩ | ⟨g, cap, cur, e, _⟩
                · omega
                · exact ⟨_, _, e⟩
              obtain ⟨A8, c8, rfl⟩ := hv8
              obtain ⟨w9, hw9⟩ : ∃ w9, w9 = w8.alloc (.cells #[.slice A8 (l.length + 1) c8] 33) := ⟨_, rfl⟩
              have hb9 : Below w8.heap.size w8 w9 := by rw [hw9]; exact (Below.refl _ w8).alloc (Nat.le_refl _) _
              have hb19 : Below wn.heap.size wn w9 := hb8.trans (Below.mono hb9 hb8.size)
              have hs9 : Src w9 (some ⟨w8.heap.size, 0, none⟩) 1 1 [.slice A8 (l.length + 1) c8] := by rw [hw9]; exact src_one w8 _ _ rfl
              have hu9 : OwnI 0 w9 (.slice A8 (l.length + 1) c8) (l ++ [n]) := by
                unfold OwnI
                rw [List.length_append, iv_app]
                exact owned_baseN (owned_keepN own8 fun g _ hl => hb9.block g hl) fun _ _ => Nat.zero_le _
              obtain ⟨us, hus, huo, hue⟩ := H5.out.1.below hb19
              obtain ⟨ir, hi, hz0, hz1, hz2⟩ := info_parts info_rowI
              have H9 := hide (And.intro hb19 (And.intro hs9 (And.intro hu9 (And.intro hus (And.intro huo hue)))))
              have HJ := hide (And.intro hi (And.intro hz0 (And.intro hz1 hz2)))
              have HW9 := hide hw9
              clear hb8 hb9 hb19 hs9 hu9 hus huo hue hi hz0 hz1 hz2 hw9 own8 gr8
              have hnl : (stepC (out.take k) os.length ++ (List.range n).map fun j => l ++ [j]).length ≤ 40000 := by
                rw [List.length_append, List.length_map, List.length_range]
                omega
              obtain ⟨NX, hNX⟩ : ∃ NX, NX = stepC (out.take k) os.length ++ (List.range n).map fun j => l ++ [j] := ⟨_, rfl⟩
              rw [← hNX] at hnl
              have HNX := hide hNX
              have huo := H9.out.2.2.2.2.1
              rw [← hNX] at huo
              clear hNX
              have HUO := hide huo
              clear huo
              go_wp2_with (at_builtin; (refine wpList_app (o := ⟨some 44, _, _, _, _, _⟩) rfl _ _ 44 rfl wo.heap.size 33 ir (.slice none 0 0) 24 Try.underlying44 HJ.out.1 HJ.out.2.1 HJ.out.2.2.1 HJ.out.2.2.2 rfl u6 NX.length us ?f0 (some ⟨w8.heap.size, 0, none⟩) 1 1 [.slice A8 (l.length + 1) c8] ?f4 ?f1 ?f2 ?f3 rfl rfl ?_))
              case f0 => rw [← HW9.out]; exact HUO.out
              case f4 => rw [← HW9.out]; exact H9.out.2.1
              case f1 => simp only [maxLen]; omega
              case f2 => omega
              case f3 => rw [← HW9.out]; have := H9.out.1.size; have := H5.out.2.2.2.1; omega
              rw [← HW9.out]
              intro v10 w10 own10 gr10 _ _
              have hrows : RowsI wo.heap.size w10 v10 (stepC (out.take k) os.length ++ (List.range (n + 1)).map fun j => l ++ [j]) := by
                have h := rowsI_put (l := l ++ [n]) (by rw [HNX.out]; exact H9.out.2.2.2.1) HUO.out (by rw [HNX.out]; exact H9.out.2.2.2.2.2) H9.out.2.2.1 gr10 own10
                rw [HNX.out] at h
                rw [List.range_succ, List.map_append, ← List.append_assoc]
                exact h
              have hown : ∀ {u : Value} {x : List Nat}, OwnI 0 w9 u x → OwnI 0 w10 u x := fun {u x} hq => owned_keepN hq fun g hg2 hl => gr10.block g hl fun e => by
                obtain ⟨g', cap, cur, e1, _, _, _, hb, _⟩ := (owned_formN hq).resolve_left (fun h => by rw [h.1] at hg2; cases hg2)
                rw [e1] at hg2
                injection hg2 with hg2
                change g' = g at hg2
                subst hg2
                exact owned_neN HUO.out hb (by decide) e.symm
              have hkeep : ∀ b, b < wo.heap.size → w10.heap[b]? = w9.heap[b]? := fun b hb => gr10.block b (by have := H9.out.1.size; have := H5.out.2.2.2.1; omega) fun e => by have := (owned_ltN HUO.out e.symm).1; omega
              have hro10 : RowsI (w.heap.size + 1) w10 (.slice (some ⟨g, 0, none⟩) out.length capu) out := by
                obtain ⟨us', q1, q2, q3⟩ := H5.out.2.1.below H9.out.1
                refine ⟨us', q1, owned_keepN q2 fun b hb _ => hkeep b ?_, fun j u x h1 h2 => hown (q3 j u x h1 h2)⟩
                injection hb with hb
                change g = b at hb
                rw [← hb]
                exact H5.out.2.2.2.2.2.2
              have hbw10 : Below (w.heap.size + 1) w1 w10 := (H5.out.2.2.1.trans (Below.mono H9.out.1 (by have := H5.out.2.2.1.size; have := H1.out.2.1.size; have := H1.out.2.2.2.2; have := H3.out.2.1.size; have := (H3.out.1.blk rfl); have := H5.out.2.2.2.1; omega))).trans ⟨gr10.os, gr10.tape, gr10.output, gr10.size, fun b hb => hkeep b (by have := (H3.out.1.blk rfl); omega)⟩
              have H10 := hide (And.intro hrows (And.intro hro10 (And.intro hbw10 (And.intro (show wo.heap.size ≤ w10.heap.size by have := gr10.size; have := H9.out.1.size; have := H5.out.2.2.2.1; omega) (And.intro (show w10.cell? ⟨g, k, none⟩ = some (.slice A l.length cl) from (World.cell?_of_block (hkeep g H5.out.2.2.2.2.2.2)).trans ((World.cell?_of_block (H9.out.1.block g (World.block_lt_of_cell? wn _ H5.out.2.2.2.2.1))).trans H5.out.2.2.2.2.1)) (hown (owned_keepN H5.out.2.2.2.2.2.1 fun g _ hl => H9.out.1.block g hl)))))))
              clear hrows hown hkeep hro10 hbw10 own10 gr10
              go_wp2_with fail
              go_roundw
              case rel => exact ⟨n + 1, by omega, by go_num, H10.out.1, H10.out.2.1, H10.out.2.2.1, H10.out.2.2.2.1, H10.out.2.2.2.2.1, H10.out.2.2.2.2.2, H5.out.2.2.2.2.2.2⟩
              case measure => simp [intOf]; omega
            · obtain rfl : n = os.length := by omega
              have hnx := H5.out.1
              rw [← stepC_next HL.out.1] at hnx
              have HX := hide hnx
              clear hnx
              go_wp2_with fail
              go_roundw
              case rel => exact ⟨k + 1, by omega, by go_num, HX.out, H5.out.2.1, H5.out.2.2.1, H5.out.2.2.2.1⟩
              case measure => simp [intOf]; omega
        · obtain rfl : k = out.length := by omega
          have hnx := H4.out.1
          rw [List.take_length] at hnx
          have hlen := (show ∃ A cap, u6 = .slice A (stepC out os.length).length cap from by
            obtain ⟨us, _, h2, _⟩ := hnx
            rcases owned_formN h2 with ⟨e, h0, _⟩ | ⟨g, cap, cur, e, _⟩
            · exact ⟨none, 0, by rw [e, h0]⟩
            · exact ⟨_, _, e⟩)
          obtain ⟨An, capn, rfl⟩ := hlen
          have hdrop : choicesP (c.opts.drop i) out = if 300 < (stepC out os.length).length then none else choicesP (c.opts.drop (i + 1)) (stepC out os.length) := by
            have hd : c.opts.drop i = os :: c.opts.drop (i + 1) := by
              obtain ⟨h1, h2⟩ := List.getElem?_eq_some_iff.1 HOS.out
              rw [List.drop_eq_getElem_cons h1, h2]
            rw [hd]
            rfl
          have H5 := hide (And.intro hnx hdrop)
          clear hnx hdrop
          have sl9 : (stepC out os.length).length ≤ 300 * 120 := by
            rw [stepC_len]
            exact Nat.mul_le_mul (by omega) (by omega)
          obtain ⟨L, hL⟩ : ∃ L, L = (stepC out os.length).length := ⟨_, rfl⟩
          rw [← hL] at sl9 ⊢
          have HLL := hide hL
          clear hL
          by_cases hgt : 300 < L
          · have hgi : (300 : Int) < (L : Int) := by omega
            go_wp2_with fail
            go_ret2
            have e : choicesP c.opts [[]] = none := by rw [H3.out.2.2.1, H5.out.2, if_pos (by rw [← HLL.out]; exact hgt)]
            exact ⟨⟨_, _, rfl, fun _ => rfl, fun all h => by rw [e] at h; cases h⟩, H1.out.1.trans (Below.mono H4.out.2.2.1 (by omega))⟩
          · have hgi : ¬ (300 : Int) < (L : Int) := by omega
            go_wp2_with fail
            go_roundw
            case rel =>
              refine ⟨i + 1, stepC out os.length, by omega, by go_num, ?_, by rw [← HLL.out]; omega, H4.out.2.2.1, ?_, fun l hl => ?_⟩
              · have h := H5.out.1.base (R' := w.heap.size + 1) fun g hg => by have := (H5.out.1.blk hg).1; have := H3.out.2.1.size; have := H1.out.2.1.size; have := H1.out.2.2.2.2; omega
                rw [HLL.out]
                exact h
              · rw [H3.out.2.2.1, H5.out.2, if_neg (by rw [← HLL.out]; exact hgt)]
              · unfold stepC at hl
                obtain ⟨l0, h1, h2⟩ := List.mem_flatMap.1 hl
                obtain ⟨j, _, rfl⟩ := List.mem_map.1 h2
                have := H3.out.2.2.2 l0 h1
                simp
                omega
            case measure => simp [intOf]; omega
    · obtain rfl : i = c.opts.length := by omega
      have hch := H3.out.2.2.1
      rw [List.drop_length] at hch
      have HCH := hide hch
      clear hch
      go_wp2_with fail
      go_ret2
      refine ⟨⟨_, _, rfl, fun h => ?_, fun all h => ?_⟩, H1.out.1.trans (Below.mono H3.out.2.1 (by omega))⟩
      · rw [HCH.out] at h
        cases h
      · rw [HCH.out] at h
        injection h with h
        subst h
        exact ⟨rfl, H3.out.1.base fun g hg => by have := (H3.out.1.blk hg).1; omega⟩
end Go.Proofs.Ytfppddnfdinipaa
end
section
namespace Go.Proofs.Ytfppddnfdinipaa
open Go Go.RowKit Go.Maps
theorem rowC_eq (rest : List (List Nat)) : ∀ (os : List Opt) (k : Nat), rowC rest k os = (List.range os.length).flatMap fun j => rest.map ((k + j) :: ·)
  | [], _ => rfl
  | x :: os, k => by
    unfold rowC
    rw [rowC_eq rest os (k + 1), List.length_cons, List.range_succ_eq_map, List.flatMap_cons, List.flatMap_map]
    simp only [Nat.add_zero]
    congr 1
    congr 1
    funext j
    rw [show k + 1 + j = k + (j + 1) by omega]
theorem choices_all : ∀ (opts : List (List Opt)) (out all : List (List Nat)), choicesP opts out = some all → all = out.flatMap fun l => (allC opts).map (l ++ ·)
  | [], out, all, h => by
    injection h with h
    subst h
    unfold allC
    simp
  | os :: r, out, all, h => by
    unfold choicesP at h
    split at h
    · cases h
    · have ih := choices_all r _ all h
      rw [ih]
      unfold stepC
      rw [List.flatMap_assoc]
      congr 1
      funext l
      rw [List.flatMap_map]
      show _ = (rowC (allC r) 0 os).map _
      rw [rowC_eq, List.map_flatMap]
      congr 1
      funext j
      rw [List.map_map]
      congr 1
      funext m
      simp
theorem choices_nodes : ∀ (opts : List (List Opt)) (out all : List (List Nat)), choicesP opts out = some all → nodes opts * out.length ≤ 300 * opts.length
  | [], out, all, _ => by unfold nodes; simp
  | os :: r, out, all, h => by
    unfold choicesP at h
    split at h
    · cases h
    · rename_i hle
      have ih := choices_nodes r _ all h
      rw [stepC_len] at ih hle
      unfold nodes
      rw [List.length_cons]
      have e : os.length * (1 + nodes r) * out.length = out.length * os.length + nodes r * (out.length * os.length) := by
        rw [Nat.mul_add, Nat.mul_one, Nat.add_mul, Nat.mul_comm os.length out.length]
        congr 1
        rw [Nat.mul_comm os.length (nodes r), Nat.mul_assoc, Nat.mul_comm os.length out.length]
      rw [e]
      omega
theorem allC_in : ∀ (opts : List (List Opt)) (l : List Nat), l ∈ allC opts → l.length = opts.length ∧ ∀ (i : Nat) os k, opts[i]? = some os → l[i]? = some k → k < os.length
  | [], l, h => by
    unfold allC at h
    rw [List.mem_singleton] at h
    subst h
    exact ⟨rfl, fun i os k h1 _ => by simp at h1⟩
  | os :: r, l, h => by
    unfold allC at h
    rw [rowC_eq] at h
    obtain ⟨j, hj, h2⟩ := List.mem_flatMap.1 h
    obtain ⟨m, hm, rfl⟩ := List.mem_map.1 h2
    obtain ⟨h3, h4⟩ := allC_in r m hm
    refine ⟨by rw [List.length_cons, List.length_cons, h3], fun i os' k h5 h6 => ?_⟩
    cases i with
    | zero =>
      simp only [List.getElem?_cons_zero, Option.some.injEq] at h5 h6
      subst h5 h6
      have := List.mem_range.1 hj
      omega
    | succ i => exact h4 i os' k (by simpa using h5) (by simpa using h6)
theorem allC_ne : ∀ (opts : List (List Opt)), opts.any (·.isEmpty) = false → allC opts ≠ []
  | [], _ => by unfold allC; simp
  | os :: r, h => by
    rw [List.any_cons, Bool.or_eq_false_iff] at h
    have ih := allC_ne r h.2
    unfold allC
    cases os with
    | nil => exact absurd h.1 (by decide)
    | cons x xs =>
      unfold rowC
      intro e
      have := List.append_eq_nil_iff.1 e
      exact ih (List.map_eq_nil_iff.1 this.1)
theorem allC_empty : ∀ (opts : List (List Opt)), opts.any (·.isEmpty) = true → allC opts = []
  | [], h => by cases h
  | os :: r, h => by
    rw [List.any_cons, Bool.or_eq_true] at h
    unfold allC
    rcases h with h | h
    · cases os with
      | nil => rfl
      | cons x xs => cases h
    · rw [rowC_eq, allC_empty r h]
      simp
theorem allC_choices {opts : List (List Opt)} {all : List (List Nat)} (h : choicesP opts [[]] = some all) : all = allC opts ∧ nodes opts ≤ 300 * opts.length := by
  have h1 := choices_all opts _ all h
  have h2 := choices_nodes opts _ all h
  refine ⟨?_, by simpa using h2⟩
  rw [h1]
  simp
section
variable {c : CaseP}
theorem zip_snd (hl : c.opts.length = c.cls.length) : (c.cls.zip c.opts).map (·.2) = c.opts := List.map_snd_zip (by omega)
/-- what a search tells with much fuel -/
theorem much {all : List (List Nat)} (hc : c.size ≤ 120) (hl : c.opts.length = c.cls.length) (h : choicesP c.opts [[]] = some all) (hcl : cleanB c.own c.fixed c.of = true) :
    Best c.own 1048576 (clean1 c.own (c.cls.zip c.opts) c.fixed c.of) all (nodes c.opts) 0 (fromB c.own 1048576 (c.cls.zip c.opts) c.fixed c.of 0) ∧ (fromB c.own 1048576 (c.cls.zip c.opts) c.fixed c.of 0).1 ≠ .fuel ∧ nodes c.opts ≤ 36000 := by
  obtain ⟨h1, h2⟩ := allC_choices h
  have hb := best_from (own := c.own) (fuel := 1048576) (c.cls.zip c.opts) c.fixed c.of 0 hcl
  rw [zip_snd hl, ← h1] at hb
  have ho := (CaseP.bounds hc).2.2.2.2.2.1
  have hn : nodes c.opts ≤ 36000 := by omega
  refine ⟨hb, fun hf => ?_, hn⟩
  have h3 := hb.fuel_ hf
  have h4 := hb.ge
  omega
theorem code_ne {r : Res} (h : r ≠ .fuel) : r.code ≠ 11 := by
  cases r with
  | ok l => exact fun h => by cases h
  | fuel => exact absurd rfl h
  | conflict => exact fun h => by cases h
theorem fuel_law {all : List (List Nat)} (hc : c.size ≤ 120) (h : choicesP c.opts [[]] = some all) :
    (leastB c 1048576).2.2 ≠ 11 ∧ (0 ≤ (leastB c 1048576).2.1 ∧ (leastB c 1048576).2.1 ≤ 36000) ∧ (∀ g, (leastB c 1048576).2.1 ≤ max g 0 → leastB c g = leastB c 1048576) ∧ ∀ g, max g 0 < (leastB c 1048576).2.1 → leastB c g = ([], max g 0, 11) := by
  by_cases h1 : c.opts.length ≠ c.cls.length
  · have e : ∀ g, leastB c g = ([], 0, 2) := fun g => by unfold leastB; rw [if_pos h1]
    simp only [e]
    exact ⟨by decide, ⟨by decide, by decide⟩, fun _ _ => trivial, fun g hg => absurd hg (by show ¬ max g 0 < 0; omega)⟩
  · by_cases h2 : c.opts.any (·.isEmpty) = true
    · have e : ∀ g, leastB c g = ([], 0, 5) := fun g => by unfold leastB; rw [if_neg h1, if_pos h2]
      simp only [e]
      exact ⟨by decide, ⟨by decide, by decide⟩, fun _ _ => trivial, fun g hg => absurd hg (by show ¬ max g 0 < 0; omega)⟩
    · by_cases h3 : cleanB c.own c.fixed c.of = true
      · have e : ∀ g, leastB c g = ((fromB c.own (max g 0) (c.cls.zip c.opts) c.fixed c.of 0).1.row, (fromB c.own (max g 0) (c.cls.zip c.opts) c.fixed c.of 0).2, (fromB c.own (max g 0) (c.cls.zip c.opts) c.fixed c.of 0).1.code) := fun g => by unfold leastB; rw [if_neg h1, if_neg h2, if_pos h3]
        obtain ⟨hb, hne, hn⟩ := much hc (by omega) h h3
        have hF := fuels_from (own := c.own) (F := 1048576) (c.cls.zip c.opts) c.fixed c.of 0 hne
        have e0 := e 1048576
        rw [show max (1048576 : Int) 0 = 1048576 by omega] at e0
        rw [e0]
        dsimp only
        have h4 := hb.le
        have h5 := hb.ge
        refine ⟨code_ne hne, ⟨h4, by omega⟩, fun g hg => ?_, fun g hg => ?_⟩
        · rw [e g, hF.more (max g 0) hg]
        · rw [e g, hF.less (max g 0) (by omega) hg]
          rfl
      · have e : ∀ g, leastB c g = ([], 0, 13) := fun g => by unfold leastB; rw [if_neg h1, if_neg h2, if_neg h3]
        simp only [e]
        exact ⟨by decide, ⟨by decide, by decide⟩, fun _ _ => trivial, fun g hg => absurd hg (by show ¬ max g 0 < 0; omega)⟩
theorem best_law {all : List (List Nat)} (hc : c.size ≤ 120) (hl : c.opts.length = c.cls.length) (h : choicesP c.opts [[]] = some all) :
    (all = [] → leastB c 1048576 = ([], 0, 5)) ∧ (all ≠ [] → (∀ l, all.find? (clean1 c.own (c.cls.zip c.opts) c.fixed c.of) = some l → (leastB c 1048576).1 = l ∧ (leastB c 1048576).2.2 = 0) ∧ (all.find? (clean1 c.own (c.cls.zip c.opts) c.fixed c.of) = none → (leastB c 1048576).1 = [] ∧ (leastB c 1048576).2.2 = 13)) := by
  obtain ⟨h1, _⟩ := allC_choices h
  have hl' : ¬ c.opts.length ≠ c.cls.length := fun h => h hl
  constructor
  · intro h0
    have he : c.opts.any (·.isEmpty) = true := by
      cases e : c.opts.any (·.isEmpty) with
      | true => rfl
      | false => exact absurd (h1.symm.trans h0) (allC_ne _ e)
    unfold leastB
    rw [if_neg hl', if_pos he]
  · intro h0
    have he : ¬ c.opts.any (·.isEmpty) = true := fun e => h0 (h1.trans (allC_empty _ e))
    by_cases h3 : cleanB c.own c.fixed c.of = true
    · have e : leastB c 1048576 = ((fromB c.own 1048576 (c.cls.zip c.opts) c.fixed c.of 0).1.row, (fromB c.own 1048576 (c.cls.zip c.opts) c.fixed c.of 0).2, (fromB c.own 1048576 (c.cls.zip c.opts) c.fixed c.of 0).1.code) := by
        unfold leastB
        rw [if_neg hl', if_neg he, if_pos h3, show max (1048576 : Int) 0 = 1048576 by omega]
      obtain ⟨hb, hne, _⟩ := much hc hl h h3
      rw [e]
      dsimp only
      cases hr : (fromB c.own 1048576 (c.cls.zip c.opts) c.fixed c.of 0).1 with
      | ok l =>
        have := hb.ok l hr
        rw [this]
        exact ⟨fun l' h => (by injection h with h; subst h; exact ⟨rfl, rfl⟩), fun h => (by cases h)⟩
      | fuel => exact absurd hr hne
      | conflict =>
        have := hb.no hr
        rw [this]
        exact ⟨fun l' h => (by cases h), fun _ => ⟨rfl, rfl⟩⟩
    · have e : leastB c 1048576 = ([], 0, 13) := by
        unfold leastB
        rw [if_neg hl', if_neg he, if_neg h3]
      rw [e]
      have hf : all.find? (clean1 c.own (c.cls.zip c.opts) c.fixed c.of) = none := find_none fun l _ => clean1_not (by simpa using h3) l
      rw [hf]
      exact ⟨fun l' h => (by cases h), fun _ => ⟨rfl, rfl⟩⟩
theorem free_clean {l : List Nat} (hl : c.opts.length = c.cls.length) (hn : l.length = c.opts.length) (hin : ∀ (i : Nat) os k, c.opts[i]? = some os → l[i]? = some k → k < os.length) : freeB c (l.map fun k => ((k : Nat) : Int)) = clean1 c.own (c.cls.zip c.opts) c.fixed c.of l := by
  have hr : inRange c.opts (l.map fun k => ((k : Nat) : Int)) = true := inRange_iff.2 fun i os k h1 h2 => by
    rw [List.getElem?_map] at h2
    cases e : l[i]? with
    | none => rw [e] at h2; cases h2
    | some j =>
      rw [e] at h2
      injection h2 with h2
      subst h2
      have := hin i os j h1 e
      show (0 : Int) ≤ ((j : Nat) : Int) ∧ ((j : Nat) : Int) < (os.length : Int)
      omega
  have e : (l.map fun k => ((k : Nat) : Int)).map Int.toNat = l := by
    rw [List.map_map]
    conv => rhs; rw [← List.map_id l]
    congr 1
  unfold freeB clean1
  rw [hr, e, decide_eq_true hl, List.length_map, decide_eq_true hn]
  rfl
end
end Go.Proofs.Ytfppddnfdinipaa
end
section
namespace Go.Proofs.Ytfppddnfdinipaa
open Go Go.RowKit Go.Maps
set_option maxRecDepth 100000
set_option maxHeartbeats 4000000 in
theorem rfree_any (w : World) (v : Cvs) (c : CaseP) (hc : c.size ≤ 120) (hC : CaseAt w.heap.size w v c) (ks : List Int) (hkl : ks.length ≤ 1000000) (vk : Value) (hK : IntsAt w w.heap.size vk ks) :
    Calls Try.prog 21 #[.agg (caseC v).toArray, vk] w fun e w' => e = .returned (.bool (freeB c ks)) ∧ Below w.heap.size w w' := by
  obtain ⟨b1, b2, b3, b4, b5, b6, b7⟩ := CaseP.bounds hc
  obtain ⟨w1, hw1⟩ : ∃ w1, w1 = w.alloc (.cells (caseC v).toArray 40) := ⟨_, rfl⟩
  have hb1 : Below w.heap.size w w1 := by rw [hw1]; exact (Below.refl _ w).alloc (Nat.le_refl _) _
  have hk1 : Blk w1 w.heap.size 40 (caseC v).toArray := by rw [hw1]; exact Blk.new _ _ _
  have hz1 : w1.heap.size = w.heap.size + 1 := by rw [hw1, size_alloc]
  have hC1 : CaseAt w.heap.size w1 v c := hC.alike fun k hk => hb1.block k hk
  have hK1 : IntsAt w1 w.heap.size vk ks := hK.alike fun k hk => hb1.block k hk
  have ho : okH v.own := by rw [hC.own]; exact hC.okO
  have hsz0 := cszR ho
  obtain ⟨Ao, capo, hvo, _, _, _, hAo⟩ := slice_open hC1.atO
  obtain ⟨Ac, capc, hvc, _, _, _, _⟩ := slice_open hC1.atC
  have HKK := hide hK1
  obtain ⟨Ak, capk, rfl, hKs⟩ := hK1
  have hcells := case_cellsT ho hk1
  rw [hvo, hvc] at hcells
  have H1 := hide (And.intro hb1 (And.intro hk1 (And.intro hC1 (And.intro hcells (And.intro hKs hAo)))))
  have HW := hide hw1
  clear hb1 hk1 hC1 hC hvo hvc hcells hw1 hK hKs hAo
  have o9 : (c.opts.length : Int) ≤ 120 := by omega
  have c9 : (c.cls.length : Int) ≤ 120 := by omega
  have k9 : (ks.length : Int) ≤ 1000000 := by omega
  have c22 : w1.cell? ⟨w.heap.size, 22, none⟩ = some (.slice Ao c.opts.length capo) := H1.out.2.2.2.1.2.2.1
  by_cases hne : c.opts.length = c.cls.length
  · have c21 : w1.cell? ⟨w.heap.size, 21, none⟩ = some (.slice Ac c.opts.length capc) := by rw [hne]; exact H1.out.2.2.2.1.2.1
    have HNE := hide hne
    clear hne
    by_cases hkn : ks.length = c.opts.length
    · have HKS : Hid (IntsAt w1 w.heap.size (.slice Ak c.opts.length capk) ks) := by have h := HKK.out; rw [hkn] at h; exact hide h
      rw [hkn]
      have HKN := hide hkn
      clear hkn
      go_enter Try.func21, Try.ntmps21
      go_wp2_with (first | (refine wpList_value (o := ⟨some 7, _, _, _, _, _⟩) rfl (.slice Ao c.opts.length capo) w1 (by rw [← HW.out]; exact exec_load_cell (o := ⟨some 7, _, _, _, _, _⟩) 38 (.tmp 6) rfl ⟨w.heap.size, 22, none⟩ rfl _ _ w1 Try.underlying38 rfl H1.out.2.2.2.1.2.2.1) ?_))
      go_loopw [5] (fun x wr => ∃ k : Nat, k ≤ c.opts.length ∧ x = .int .i64 ((k : Nat) : Int) ∧ Below w1.heap.size w1 wr ∧ InR c.opts ks k) (fun x _ => c.opts.length - (intOf x).toNat)
      case atStart => exact ⟨0, by omega, rfl, Below.refl _ _, fun i _ _ hi => absurd hi (by omega)⟩
      case round =>
        obtain ⟨wo, rfl⟩ : ∃ wo, wo = wr := ⟨_, rfl⟩
        obtain ⟨k, hk, rfl, hbw, hin⟩ := hrel
        have HBO := hide hbw
        have HIN := hide hin
        clear hbw hin c21 c22
        have k0 : (0 : Int) ≤ (k : Int) := by omega
        by_cases hk2 : k < c.opts.length
        · have k1 : (k : Int) < (c.opts.length : Int) := by omega
          obtain ⟨z, hz⟩ : ∃ z, ks[k]? = some z := ⟨_, List.getElem?_eq_getElem (by have := HKN.out; omega)⟩
          obtain ⟨os, hos⟩ : ∃ os, c.opts[k]? = some os := ⟨_, List.getElem?_eq_getElem hk2⟩
          obtain ⟨bk, offk, rfl, hbk, hzc⟩ := H1.out.2.2.2.2.1 k z hz
          obtain ⟨bo, offo, rfl, hlo, hEo⟩ := H1.out.2.2.2.2.2 (by omega)
          obtain ⟨cs1, hr1, hat1⟩ := hEo k os hos
          obtain ⟨vr, rfl, hat1⟩ := rowLay_at hat1
          obtain ⟨Ar, capr, rfl, _, _, _, hAr⟩ := slice_open hat1
          have hsame : ∀ b, b < w.heap.size + 1 → wo.heap[b]? = w1.heap[b]? := fun b hb9 => HBO.out.block b (by omega)
          have e1 : wo.cell? ⟨bk, offk + k, none⟩ = some (.int .i64 z) := (World.cell?_of_block (hsame bk (by omega))).trans hzc
          have e2 : wo.cell? ⟨w.heap.size, 22, none⟩ = some (.slice (some ⟨bo, offo, none⟩) c.opts.length capo) := (World.cell?_of_block (hsame w.heap.size (by omega))).trans H1.out.2.2.2.1.2.2.1
          have e3 : wo.cell? ⟨bo, offo + k, none⟩ = some (.slice Ar os.length capr) := by
            have h9 : w1.cell? ⟨bo, offo + k * 1 + 0, none⟩ = some (.slice Ar os.length capr) := hr1 0 _ rfl
            rw [Nat.mul_one, Nat.add_zero] at h9
            exact (World.cell?_of_block (hsame bo (by omega))).trans h9
          have HJ := hide (And.intro e1 (And.intro e2 e3))
          have os9 : (os.length : Int) ≤ 120 := by have := (b7 os (List.mem_of_getElem? hos)).1; omega
          have H5 := hide (And.intro hz hos)
          clear hz hos hsame hzc hEo hr1 hat1 hAr e1 e2 e3
          by_cases hz0 : z < 0
          · have hzn : z < 0 := hz0
            go_wp2_with fail
            refine Fre.wp_made (X := Blw) 17 [] (by kernel_rfl) (by kernel_rfl) (by simp) (by simp) (by simp) ?_
            simp only [List.take_succ_cons, List.take_zero, List.drop_succ_cons, List.drop_zero]
            refine Fre.made_val (.slice (some ⟨bk, offk, none⟩) c.opts.length capk) (by kernel_rfl) (by kernel_rfl) (by kernel_rfl) (fun _ _ => by kernel_rfl) ?_
            simp only [Act.put, List.setIfInBounds_toArray, List.set_cons_zero, List.set_cons_succ]
            refine Fre.made_val (.int .i64 (k : Int)) (by kernel_rfl) (by kernel_rfl) (by kernel_rfl) (fun _ _ => by kernel_rfl) ?_
            simp only [Act.put, List.setIfInBounds_toArray, List.set_cons_zero, List.set_cons_succ]
            refine Fre.made_val (.pointer (some ⟨bk, offk + (k : Int).toNat * 1, none⟩)) (by kernel_rfl) (by kernel_rfl) (by kernel_rfl) (fun W9 _ => exec_index_off (o := ⟨some 29, _, _, _, _, _⟩) 33 3 (.tmp 27) (.tmp 28) rfl bk offk c.opts.length capk (k : Int) .i64 rfl rfl ⟨k0, k1⟩ 1 Try.underlying33 (by kernel_rfl) W9) ?_
            simp only [Act.put, List.setIfInBounds_toArray, List.set_cons_zero, List.set_cons_succ]
            rw [show offk + (k : Int).toNat * 1 = offk + k by omega]
            refine Fre.made_val (.int .i64 z) (by kernel_rfl) (by kernel_rfl) (by kernel_rfl) (fun W9 hW9 => exec_load_cell (o := ⟨some 30, _, _, _, _, _⟩) 3 (.tmp 29) rfl ⟨bk, offk + k, none⟩ rfl _ _ W9 Try.underlying3 rfl (by rw [World.cell?_of_block ((blw hW9).block bk (World.block_lt_of_cell? wo _ HJ.out.1))]; exact HJ.out.1)) ?_
            simp only [Act.put, List.setIfInBounds_toArray, List.set_cons_zero, List.set_cons_succ]
            refine Fre.made_val (.bool true) (by kernel_rfl) (by kernel_rfl) (by kernel_rfl) (fun W9 hW9 => ?hz31) ?_
            case hz31 =>
              go_simp
            simp only [Act.put, List.setIfInBounds_toArray, List.set_cons_zero, List.set_cons_succ]
            refine Fre.made_val (.bool true) (by kernel_rfl) (by kernel_rfl) (by kernel_rfl) (fun _ _ => by kernel_rfl) ?_
            simp only [Act.put, List.setIfInBounds_toArray, List.set_cons_zero, List.set_cons_succ]
            refine Fre.made_skip (by kernel_rfl) (by kernel_rfl) (by kernel_rfl) ?_
            refine Fre.made_skip (by kernel_rfl) (by kernel_rfl) (by kernel_rfl) ?_
            refine Fre.made_skip (by kernel_rfl) (by kernel_rfl) (by kernel_rfl) ?_
            refine Fre.made_skip (by kernel_rfl) (by kernel_rfl) (by kernel_rfl) ?_
            refine Fre.made_skip (by kernel_rfl) (by kernel_rfl) (by kernel_rfl) ?_
            refine Fre.made_skip (by kernel_rfl) (by kernel_rfl) (by kernel_rfl) ?_
            refine Fre.made_skip (by kernel_rfl) (by kernel_rfl) (by kernel_rfl) ?_
            refine Fre.made_skip (by kernel_rfl) (by kernel_rfl) (by kernel_rfl) ?_
            refine Fre.made_skip (by kernel_rfl) (by kernel_rfl) (by kernel_rfl) ?_
            refine Fre.made_skip (by kernel_rfl) (by kernel_rfl) (by kernel_rfl) ?_
            refine Fre.made_skip (by kernel_rfl) (by kernel_rfl) (by kernel_rfl) ?_
            show ∀ w', _ → _
            intro w4 hb
            simp only [Fre.ended]
            have H6 := hide (HBO.out.trans (Below.mono (show Below wo.heap.size wo w4 from hb) HBO.out.size))
            clear hb
            go_wp2_with fail
            go_ret
            have e : freeB c ks = false := by
              have hir : inRange c.opts ks = false := by
                cases h9 : inRange c.opts ks with
                | false => rfl
                | true =>
                  have := inRange_iff.1 h9 k os z H5.out.2 H5.out.1
                  omega
              unfold freeB
              rw [hir]
              simp
            rw [e]
            exact ⟨rfl, H1.out.1.trans (Below.mono H6.out (by omega))⟩
          · have hz1' : 0 ≤ z := by omega
            by_cases hzl : z < (os.length : Int)
            · go_wp2_with fail
              refine Fre.wp_made (X := Blw) 17 [] (by kernel_rfl) (by kernel_rfl) (by simp) (by simp) (by simp) ?_
              simp only [List.take_succ_cons, List.take_zero, List.drop_succ_cons, List.drop_zero]
              refine Fre.made_val (.slice (some ⟨bk, offk, none⟩) c.opts.length capk) (by kernel_rfl) (by kernel_rfl) (by kernel_rfl) (fun _ _ => by kernel_rfl) ?_
              simp only [Act.put, List.setIfInBounds_toArray, List.set_cons_zero, List.set_cons_succ]
              refine Fre.made_val (.int .i64 (k : Int)) (by kernel_rfl) (by kernel_rfl) (by kernel_rfl) (fun _ _ => by kernel_rfl) ?_
              simp only [Act.put, List.setIfInBounds_toArray, List.set_cons_zero, List.set_cons_succ]
              refine Fre.made_val (.pointer (some ⟨bk, offk + (k : Int).toNat * 1, none⟩)) (by kernel_rfl) (by kernel_rfl) (by kernel_rfl) (fun W9 _ => exec_index_off (o := ⟨some 29, _, _, _, _, _⟩) 33 3 (.tmp 27) (.tmp 28) rfl bk offk c.opts.length capk (k : Int) .i64 rfl rfl ⟨k0, k1⟩ 1 Try.underlying33 (by kernel_rfl) W9) ?_
              simp only [Act.put, List.setIfInBounds_toArray, List.set_cons_zero, List.set_cons_succ]
              rw [show offk + (k : Int).toNat * 1 = offk + k by omega]
              refine Fre.made_val (.int .i64 z) (by kernel_rfl) (by kernel_rfl) (by kernel_rfl) (fun W9 hW9 => exec_load_cell (o := ⟨some 30, _, _, _, _, _⟩) 3 (.tmp 29) rfl ⟨bk, offk + k, none⟩ rfl _ _ W9 Try.underlying3 rfl (by rw [World.cell?_of_block ((blw hW9).block bk (World.block_lt_of_cell? wo _ HJ.out.1))]; exact HJ.out.1)) ?_
              simp only [Act.put, List.setIfInBounds_toArray, List.set_cons_zero, List.set_cons_succ]
              refine Fre.made_val (.bool false) (by kernel_rfl) (by kernel_rfl) (by kernel_rfl) (fun W9 hW9 => ?hz31) ?_
              case hz31 =>
                go_simp
              simp only [Act.put, List.setIfInBounds_toArray, List.set_cons_zero, List.set_cons_succ]
              refine Fre.made_val (.bool false) (by kernel_rfl) (by kernel_rfl) (by kernel_rfl) (fun _ _ => by kernel_rfl) ?_
              simp only [Act.put, List.setIfInBounds_toArray, List.set_cons_zero, List.set_cons_succ]
              refine Fre.made_val (.slice (some ⟨bk, offk, none⟩) c.opts.length capk) (by kernel_rfl) (by kernel_rfl) (by kernel_rfl) (fun _ _ => by kernel_rfl) ?_
              simp only [Act.put, List.setIfInBounds_toArray, List.set_cons_zero, List.set_cons_succ]
              refine Fre.made_val (.int .i64 (k : Int)) (by kernel_rfl) (by kernel_rfl) (by kernel_rfl) (fun _ _ => by kernel_rfl) ?_
              simp only [Act.put, List.setIfInBounds_toArray, List.set_cons_zero, List.set_cons_succ]
              refine Fre.made_val (.pointer (some ⟨bk, offk + (k : Int).toNat * 1, none⟩)) (by kernel_rfl) (by kernel_rfl) (by kernel_rfl) (fun W9 _ => exec_index_off (o := ⟨some 35, _, _, _, _, _⟩) 33 3 (.tmp 33) (.tmp 34) rfl bk offk c.opts.length capk (k : Int) .i64 rfl rfl ⟨k0, k1⟩ 1 Try.underlying33 (by kernel_rfl) W9) ?_
              simp only [Act.put, List.setIfInBounds_toArray, List.set_cons_zero, List.set_cons_succ]
              rw [show offk + (k : Int).toNat * 1 = offk + k by omega]
              refine Fre.made_val (.int .i64 z) (by kernel_rfl) (by kernel_rfl) (by kernel_rfl) (fun W9 hW9 => exec_load_cell (o := ⟨some 36, _, _, _, _, _⟩) 3 (.tmp 35) rfl ⟨bk, offk + k, none⟩ rfl _ _ W9 Try.underlying3 rfl (by rw [World.cell?_of_block ((blw hW9).block bk (World.block_lt_of_cell? wo _ HJ.out.1))]; exact HJ.out.1)) ?_
              simp only [Act.put, List.setIfInBounds_toArray, List.set_cons_zero, List.set_cons_succ]
              refine Fre.made_val (.pointer (some ⟨w.heap.size, 22, none⟩)) (by kernel_rfl) (by kernel_rfl) (by kernel_rfl) (fun _ _ => by kernel_rfl) ?_
              simp only [Act.put, List.setIfInBounds_toArray, List.set_cons_zero, List.set_cons_succ]
              refine Fre.made_val (.slice (some ⟨bo, offo, none⟩) c.opts.length capo) (by kernel_rfl) (by kernel_rfl) (by kernel_rfl) (fun W9 hW9 => exec_load_cell (o := ⟨some 38, _, _, _, _, _⟩) 38 (.tmp 37) rfl ⟨w.heap.size, 22, none⟩ rfl _ _ W9 Try.underlying38 rfl (by rw [World.cell?_of_block ((blw hW9).block w.heap.size (World.block_lt_of_cell? wo _ HJ.out.2.1))]; exact HJ.out.2.1)) ?_
              simp only [Act.put, List.setIfInBounds_toArray, List.set_cons_zero, List.set_cons_succ]
              refine Fre.made_val (.int .i64 (k : Int)) (by kernel_rfl) (by kernel_rfl) (by kernel_rfl) (fun _ _ => by kernel_rfl) ?_
              simp only [Act.put, List.setIfInBounds_toArray, List.set_cons_zero, List.set_cons_succ]
              refine Fre.made_val (.pointer (some ⟨bo, offo + (k : Int).toNat * 1, none⟩)) (by kernel_rfl) (by kernel_rfl) (by kernel_rfl) (fun W9 _ => exec_index_off (o := ⟨some 40, _, _, _, _, _⟩) 38 107 (.tmp 38) (.tmp 39) rfl bo offo c.opts.length capo (k : Int) .i64 rfl rfl ⟨k0, k1⟩ 1 Try.underlying38 sz_rowR W9) ?_
              simp only [Act.put, List.setIfInBounds_toArray, List.set_cons_zero, List.set_cons_succ]
              rw [show offo + (k : Int).toNat * 1 = offo + k by omega]
              refine Fre.made_val (.slice Ar os.length capr) (by kernel_rfl) (by kernel_rfl) (by kernel_rfl) (fun W9 hW9 => exec_load_cell (o := ⟨some 41, _, _, _, _, _⟩) 107 (.tmp 40) rfl ⟨bo, offo + k, none⟩ rfl _ _ W9 Try.underlying107 rfl (by rw [World.cell?_of_block ((blw hW9).block bo (World.block_lt_of_cell? wo _ HJ.out.2.2))]; exact HJ.out.2.2)) ?_
              simp only [Act.put, List.setIfInBounds_toArray, List.set_cons_zero, List.set_cons_succ]
              refine Fre.made_val (.int .i64 (os.length : Int)) (by kernel_rfl) (by kernel_rfl) (by kernel_rfl) (fun W9 hW9 => ?hs1) ?_
              case hs1 =>
                go_simp
              simp only [Act.put, List.setIfInBounds_toArray, List.set_cons_zero, List.set_cons_succ]
              refine Fre.made_val (.bool false) (by kernel_rfl) (by kernel_rfl) (by kernel_rfl) (fun W9 hW9 => ?hz43) ?_
              case hz43 =>
                go_simp
              simp only [Act.put, List.setIfInBounds_toArray, List.set_cons_zero, List.set_cons_succ]
              show ∀ w', _ → _
              intro w4 hb
              simp only [Fre.ended]
              have H6 := hide (HBO.out.trans (Below.mono (show Below wo.heap.size wo w4 from hb) HBO.out.size))
              clear hb
              go_wp2_with fail
              go_roundw
              case rel =>
                refine ⟨k + 1, by omega, by go_num, H6.out, fun i os' z' hi h1 h2 => ?_⟩
                by_cases hik : i < k
                · exact HIN.out i os' z' hik h1 h2
                · obtain rfl : i = k := by omega
                  rw [H5.out.2] at h1
                  rw [H5.out.1] at h2
                  injection h1 with h1
                  injection h2 with h2
                  subst h1 h2
                  exact ⟨by omega, by omega⟩
              case measure => simp [intOf]; omega
            · go_wp2_with fail
              refine Fre.wp_made (X := Blw) 17 [] (by kernel_rfl) (by kernel_rfl) (by simp) (by simp) (by simp) ?_
              simp only [List.take_succ_cons, List.take_zero, List.drop_succ_cons, List.drop_zero]
              refine Fre.made_val (.slice (some ⟨bk, offk, none⟩) c.opts.length capk) (by kernel_rfl) (by kernel_rfl) (by kernel_rfl) (fun _ _ => by kernel_rfl) ?_
              simp only [Act.put, List.setIfInBounds_toArray, List.set_cons_zero, List.set_cons_succ]
              refine Fre.made_val (.int .i64 (k : Int)) (by kernel_rfl) (by kernel_rfl) (by kernel_rfl) (fun _ _ => by kernel_rfl) ?_
              simp only [Act.put, List.setIfInBounds_toArray, List.set_cons_zero, List.set_cons_succ]
              refine Fre.made_val (.pointer (some ⟨bk, offk + (k : Int).toNat * 1, none⟩)) (by kernel_rfl) (by kernel_rfl) (by kernel_rfl) (fun W9 _ => exec_index_off (o := ⟨some 29, _, _, _, _, _⟩) 33 3 (.tmp 27) (.tmp 28) rfl bk offk c.opts.length capk (k : Int) .i64 rfl rfl ⟨k0, k1⟩ 1 Try.underlying33 (by kernel_rfl) W9) ?_
              simp only [Act.put, List.setIfInBounds_toArray, List.set_cons_zero, List.set_cons_succ]
              rw [show offk + (k : Int).toNat * 1 = offk + k by omega]
              refine Fre.made_val (.int .i64 z) (by kernel_rfl) (by kernel_rfl) (by kernel_rfl) (fun W9 hW9 => exec_load_cell (o := ⟨some 30, _, _, _, _, _⟩) 3 (.tmp 29) rfl ⟨bk, offk + k, none⟩ rfl _ _ W9 Try.underlying3 rfl (by rw [World.cell?_of_block ((blw hW9).block bk (World.block_lt_of_cell? wo _ HJ.out.1))]; exact HJ.out.1)) ?_
              simp only [Act.put, List.setIfInBounds_toArray, List.set_cons_zero, List.set_cons_succ]
              refine Fre.made_val (.bool false) (by kernel_rfl) (by kernel_rfl) (by kernel_rfl) (fun W9 hW9 => ?hz31) ?_
              case hz31 =>
                go_simp
              simp only [Act.put, List.setIfInBounds_toArray, List.set_cons_zero, List.set_cons_succ]
              refine Fre.made_val (.bool false) (by kernel_rfl) (by kernel_rfl) (by kernel_rfl) (fun _ _ => by kernel_rfl) ?_
              simp only [Act.put, List.setIfInBounds_toArray, List.set_cons_zero, List.set_cons_succ]
              refine Fre.made_val (.slice (some ⟨bk, offk, none⟩) c.opts.length capk) (by kernel_rfl) (by kernel_rfl) (by kernel_rfl) (fun _ _ => by kernel_rfl) ?_
              simp only [Act.put, List.setIfInBounds_toArray, List.set_cons_zero, List.set_cons_succ]
              refine Fre.made_val (.int .i64 (k : Int)) (by kernel_rfl) (by kernel_rfl) (by kernel_rfl) (fun _ _ => by kernel_rfl) ?_
              simp only [Act.put, List.setIfInBounds_toArray, List.set_cons_zero, List.set_cons_succ]
              refine Fre.made_val (.pointer (some ⟨bk, offk + (k : Int).toNat * 1, none⟩)) (by kernel_rfl) (by kernel_rfl) (by kernel_rfl) (fun W9 _ => exec_index_off (o := ⟨some 35, _, _, _, _, _⟩) 33 3 (.tmp 33) (.tmp 34) rfl bk offk c.opts.length capk (k : Int) .i64 rfl rfl ⟨k0, k1⟩ 1 Try.underlying33 (by kernel_rfl) W9) ?_
              simp only [Act.put, List.setIfInBounds_toArray, List.set_cons_zero, List.set_cons_succ]
              rw [show offk + (k : Int).toNat * 1 = offk + k by omega]
              refine Fre.made_val (.int .i64 z) (by kernel_rfl) (by kernel_rfl) (by kernel_rfl) (fun W9 hW9 => exec_load_cell (o := ⟨some 36, _, _, _, _, _⟩) 3 (.tmp 35) rfl ⟨bk, offk + k, none⟩ rfl _ _ W9 Try.underlying3 rfl (by rw [World.cell?_of_block ((blw hW9).block bk (World.block_lt_of_cell? wo _ HJ.out.1))]; exact HJ.out.1)) ?_
              simp only [Act.put, List.setIfInBounds_toArray, List.set_cons_zero, List.set_cons_succ]
              refine Fre.made_val (.pointer (some ⟨w.heap.size, 22, none⟩)) (by kernel_rfl) (by kernel_rfl) (by kernel_rfl) (fun _ _ => by kernel_rfl) ?_
              simp only [Act.put, List.setIfInBounds_toArray, List.set_cons_zero, List.set_cons_succ]
              refine Fre.made_val (.slice (some ⟨bo, offo, none⟩) c.opts.length capo) (by kernel_rfl) (by kernel_rfl) (by kernel_rfl) (fun W9 hW9 => exec_load_cell (o := ⟨some 38, _, _, _, _, _⟩) 38 (.tmp 37) rfl ⟨w.heap.size, 22, none⟩ rfl _ _ W9 Try.underlying38 rfl (by rw [World.cell?_of_block ((blw hW9).block w.heap.size (World.block_lt_of_cell? wo _ HJ.out.2.1))]; exact HJ.out.2.1)) ?_
              simp only [Act.put, List.setIfInBounds_toArray, List.set_cons_zero, List.set_cons_succ]
              refine Fre.made_val (.int .i64 (k : Int)) (by kernel_rfl) (by kernel_rfl) (by kernel_rfl) (fun _ _ => by kernel_rfl) ?_
              simp only [Act.put, List.setIfInBounds_toArray, List.set_cons_zero, List.set_cons_succ]
              refine Fre.made_val (.pointer (some ⟨bo, offo + (k : Int).toNat * 1, none⟩)) (by kernel_rfl) (by kernel_rfl) (by kernel_rfl) (fun W9 _ => exec_index_off (o := ⟨some 40, _, _, _, _, _⟩) 38 107 (.tmp 38) (.tmp 39) rfl bo offo c.opts.length capo (k : Int) .i64 rfl rfl ⟨k0, k1⟩ 1 Try.underlying38 sz_rowR W9) ?_
              simp only [Act.put, List.setIfInBounds_toArray, List.set_cons_zero, List.set_cons_succ]
              rw [show offo + (k : Int).toNat * 1 = offo + k by omega]
              refine Fre.made_val (.slice Ar os.length capr) (by kernel_rfl) (by kernel_rfl) (by kernel_rfl) (fun W9 hW9 => exec_load_cell (o := ⟨some 41, _, _, _, _, _⟩) 107 (.tmp 40) rfl ⟨bo, offo + k, none⟩ rfl _ _ W9 Try.underlying107 rfl (by rw [World.cell?_of_block ((blw hW9).block bo (World.block_lt_of_cell? wo _ HJ.out.2.2))]; exact HJ.out.2.2)) ?_
              simp only [Act.put, List.setIfInBounds_toArray, List.set_cons_zero, List.set_cons_succ]
              refine Fre.made_val (.int .i64 (os.length : Int)) (by kernel_rfl) (by kernel_rfl) (by kernel_rfl) (fun W9 hW9 => ?hs2) ?_
              case hs2 =>
                go_simp
              simp only [Act.put, List.setIfInBounds_toArray, List.set_cons_zero, List.set_cons_succ]
              refine Fre.made_val (.bool true) (by kernel_rfl) (by kernel_rfl) (by kernel_rfl) (fun W9 hW9 => ?hz43) ?_
              case hz43 =>
                go_simp
              simp only [Act.put, List.setIfInBounds_toArray, List.set_cons_zero, List.set_cons_succ]
              show ∀ w', _ → _
              intro w4 hb
              simp only [Fre.ended]
              have H6 := hide (HBO.out.trans (Below.mono (show Below wo.heap.size wo w4 from hb) HBO.out.size))
              clear hb
              go_wp2_with fail
              go_ret
              have e : freeB c ks = false := by
                have hir : inRange c.opts ks = false := by
                  cases h9 : inRange c.opts ks with
                  | false => rfl
                  | true =>
                    have := inRange_iff.1 h9 k os z H5.out.2 H5.out.1
                    omega
                unfold freeB
                rw [hir]
                simp
              rw [e]
              exact ⟨rfl, H1.out.1.trans (Below.mono H6.out (by omega))⟩
        · obtain rfl : k = c.opts.length := by omega
          have hks : (ks.map Int.toNat).map (fun k => ((k : Nat) : Int)) = ks := by
            rw [List.map_map]
            conv => rhs; rw [← List.map_id ks]
            refine List.map_congr_left fun z hz => ?_
            obtain ⟨i, hi⟩ := List.getElem?_of_mem hz
            have hil := (List.getElem?_eq_some_iff.1 hi).1
            obtain ⟨os, hos⟩ : ∃ os, c.opts[i]? = some os := ⟨_, List.getElem?_eq_getElem (by have := HKN.out; omega)⟩
            have := (HIN.out i os z (by have := HKN.out; omega) hos hi).1
            show ((z.toNat : Nat) : Int) = z
            omega
          have hinl : ∀ (i : Nat) os k, c.opts[i]? = some os → (ks.map Int.toNat)[i]? = some k → k < os.length := fun i os k h1 h2 => by
            rw [List.getElem?_map] at h2
            cases e : ks[i]? with
            | none => rw [e] at h2; cases h2
            | some z =>
              rw [e] at h2
              injection h2 with h2
              have := HIN.out i os z (List.getElem?_eq_some_iff.1 h1).1 h1 e
              omega
          have hfr := free_clean HNE.out (l := ks.map Int.toNat) (by rw [List.length_map]; exact HKN.out) hinl
          rw [hks] at hfr
          have hCo : CaseAt wo.heap.size wo v c := (H1.out.2.2.1.alike fun b hb => HBO.out.block b (by omega)).widen (by have := HBO.out.size; omega)
          have hko : IntsAt wo wo.heap.size (.slice Ak c.opts.length capk) ((ks.map Int.toNat).map fun k => ((k : Nat) : Int)) := by
            rw [hks]
            exact (HKS.out.alike fun b hb => HBO.out.block b (by omega)).widen (by have := HBO.out.size; omega)
          have hbo : Blk wo w.heap.size 40 (caseC v).toArray := (HBO.out.block _ (by omega)).trans H1.out.2.1
          have HF := hide (And.intro hfr (And.intro hCo (And.intro hko (And.intro hbo hinl))))
          clear hks hinl hfr hCo hko hbo
          go_wp2_with (refine wpList_value (o := ⟨some 45, _, _, _, _, _⟩) rfl (.agg (caseC v).toArray) wo (exec_load_blk (o := ⟨some 45, _, _, _, _, _⟩) 40 (.tmp 2) rfl w.heap.size rfl 40 _ _ wo HF.out.2.2.2.1 Try.underlying40 rfl hsz0) ?_)
          refine (rclean_any wo v c hc HF.out.2.1 HNE.out (ks.map Int.toNat) (by rw [List.length_map]; exact Nat.le_of_eq HKN.out) HF.out.2.2.2.2 _ HF.out.2.2.1).mono ?_
          rintro e w5 ⟨rfl, hb5⟩
          have HE := hide (H1.out.1.trans (Below.mono (HBO.out.trans (Below.mono hb5 HBO.out.size)) (by omega)))
          clear hb5
          dsimp only
          go_wp2_with fail
          go_ret
          rw [HF.out.1]
          exact ⟨rfl, HE.out⟩
    · have hki : ¬ (ks.length : Int) = (c.opts.length : Int) := by omega
      go_enter Try.func21, Try.ntmps21
      go_wp2_with (first | (refine wpList_value (o := ⟨some 7, _, _, _, _, _⟩) rfl (.slice Ao c.opts.length capo) w1 (by rw [← HW.out]; exact exec_load_cell (o := ⟨some 7, _, _, _, _, _⟩) 38 (.tmp 6) rfl ⟨w.heap.size, 22, none⟩ rfl _ _ w1 Try.underlying38 rfl H1.out.2.2.2.1.2.2.1) ?_))
      go_ret
      have e : freeB c ks = false := by
        unfold freeB
        rw [decide_eq_false hkn]
        simp
      rw [e]
      exact ⟨rfl, H1.out.1⟩
  · have c21 : w1.cell? ⟨w.heap.size, 21, none⟩ = some (.slice Ac c.cls.length capc) := H1.out.2.2.2.1.2.1
    have hni : ¬ (c.opts.length : Int) = (c.cls.length : Int) := by omega
    go_enter Try.func21, Try.ntmps21
    go_wp2_with (first | (refine wpList_value (o := ⟨some 7, _, _, _, _, _⟩) rfl (.slice Ao c.opts.length capo) w1 (by rw [← HW.out]; exact exec_load_cell (o := ⟨some 7, _, _, _, _, _⟩) 38 (.tmp 6) rfl ⟨w.heap.size, 22, none⟩ rfl _ _ w1 Try.underlying38 rfl H1.out.2.2.2.1.2.2.1) ?_))
    go_ret
    have e : freeB c ks = false := by
      unfold freeB
      rw [decide_eq_false hne]
      simp
    rw [e]
    exact ⟨rfl, H1.out.1⟩
end Go.Proofs.Ytfppddnfdinipaa
end
section
namespace Go.Proofs.Ytfppddnfdinipaa
open Go Go.RowKit Go.Maps
set_option maxRecDepth 100000
theorem exec_opt {ρ : Operand → Value} {o : Oper} (p : Pth) (w : World) (hp : okP p) (ho : o.op = .build 55 #[(0, .tmp 8)]) (h1 : ρ (.tmp 8) = .agg (pC p).toArray) : (execOp ρ o).run Try.prog w = .ok (.value (.agg (oC p (.slice none 0 0)).toArray)) w := by
  refine exec_buildN 55 _ ho (z := .agg zcO) (places := #[(0, 21), (21, 1)]) Try.underlying55 (fun w => by kernel_rfl) (fun w => by kernel_rfl) [(0, .agg (pC p).toArray)] (by simp [h1]) ?_ w
  rw [fill_part _ _ 0 _ _ 0 (by simp [Value.cells, pC_len hp]) (by simp [Value.cells, pC_len hp]; decide)]
  unfold Instr.fill
  congr 1
  apply Array.ext'
  simp only [Value.cells, List.size_toArray, pC_len hp]
  simp
  rfl
set_option maxHeartbeats 4000000 in
theorem option_any (n : Nat) (hn : n < 256) (ks : List Nat) (hks : ∀ k ∈ ks, k < 256) (hkl : ks.length ≤ 1000) (v : Value) (w : World) (hv : IntsAt w w.heap.size v (ks.map fun k => ((k : Nat) : Int))) :
    Calls Try.prog 24 #[.int .i64 (n : Int), v] w fun e w' => ∃ u, e = .returned (.agg (oC (pN n) u).toArray) ∧ OwnP w.heap.size w' u (ks.map pN) ∧ Below w.heap.size w w' := by
  obtain ⟨Ak, capk, rfl, hKs⟩ := hv
  rw [List.length_map]
  obtain ⟨w2, hw2⟩ : ∃ w2, w2 = w.alloc (.cells zcO 55) := ⟨_, rfl⟩
  have hb2 : Below w.heap.size w w2 := by rw [hw2]; exact (Below.refl _ w).alloc (Nat.le_refl _) _
  have hk2 : Blk w2 w.heap.size 55 zcO := by rw [hw2]; exact Blk.new _ _ _
  have hz2 : w2.heap.size = w.heap.size + 1 := by rw [hw2, size_alloc]
  have H2 := hide (And.intro hb2 (And.intro hk2 hz2))
  have HW := hide hw2
  have HK := hide hKs
  clear hb2 hk2 hw2 hKs
  go_enter Try.func24, Try.ntmps24
  go_wp2_with (first | (refine wpList_value (o := ⟨some 4, _, _, _, _, _⟩) rfl (.pointer (some ⟨w.heap.size, 0, none⟩)) w2 (by rw [HW.out]; kernel_rfl) ?_))
  refine (path_any n hn w2).mono ?_
  rintro e w3 ⟨rfl, hb3⟩
  have H3 := hide hb3
  clear hb3
  dsimp only
  go_wp2_with (first | (refine wpList_value (o := ⟨some 9, _, _, _, _, _⟩) rfl (.agg (oC (pN n) (.slice none 0 0)).toArray) w3 (exec_opt (pN n) w3 (pN_ok n) rfl rfl) ?_) | ((with_reducible refine wpList_box (o1 := ⟨some 5, _, _, _, _, _⟩) (o2 := ⟨none, _, _, _, _, _⟩) rfl rfl 55 (.tmp 5) (.tmp 9) ?_ zcO (oC (pN n) (.slice none 0 0)).toArray ?_ ?_ ?_ ?_ ?_ ?_ ?_); rfl; kernel_rfl; kernel_rfl; kernel_rfl; kernel_rfl; rfl; rfl; intro w4 hm4 hb4; have H4 := hide (And.intro hm4 hb4); clear hm4 hb4; dsimp only [Act.put]))
  obtain ⟨bx, hbx⟩ : ∃ bx, bx = w3.heap.size := ⟨_, rfl⟩
  rw [← hbx]
  have hb4 : Below w.heap.size w w4 := H2.out.1.trans (Below.mono (H3.out.trans (Below.mono H4.out.2 H3.out.size)) (by omega))
  have hk4 : Blk w4 bx 55 (oC (pN n) (.slice none 0 0)).toArray := by rw [hbx]; exact H4.out.1
  have hr4 : Blk w4 w.heap.size 55 zcO := ((H4.out.2.block _ (by have := H3.out.size; omega)).trans (H3.out.block _ (by omega))).trans H2.out.2.1
  have hne : w.heap.size < bx := by rw [hbx]; have := H3.out.size; omega
  have H5 := hide (And.intro hb4 (And.intro hk4 (And.intro hr4 hne)))
  clear hb4 hk4 hr4 H4 hbx hne hz2
  have k9 : (ks.length : Int) ≤ 1000 := by omega
  go_wp2_with fail
  go_loopw [6] (fun x wr => ∃ k vk, k ≤ ks.length ∧ x = .int .i64 ((k : Nat) : Int) ∧ Blk wr bx 55 (oC (pN n) vk).toArray ∧ OwnP w4.heap.size wr vk ((ks.take k).map pN) ∧ w4.heap.size ≤ wr.heap.size ∧ (∀ b, b < w4.heap.size → b ≠ bx → wr.heap[b]? = w4.heap[b]?) ∧ wr.os = w4.os ∧ wr.tape = w4.tape ∧ wr.output = w4.output) (fun x _ => ks.length - (intOf x).toNat)
  case atStart => exact ⟨0, .slice none 0 0, by omega, rfl, H5.out.2.1, ⟨World.ownsRow_nil _ _ _ _, fun p hp => by cases hp⟩, Nat.le_refl _, fun _ _ _ => rfl, rfl, rfl, rfl⟩
  case round =>
    obtain ⟨wo, rfl⟩ : ∃ wo, wo = wr := ⟨_, rfl⟩
    obtain ⟨k, vk, hk, rfl, hkx, hop, hsz, hoth, hos, htp, hout⟩ := hrel
    have H6 := hide (And.intro hkx (And.intro hop (And.intro hsz (And.intro hoth (And.intro hos (And.intro htp hout))))))
    clear hkx hop hsz hoth hos htp hout
    have k0 : (0 : Int) ≤ (k : Int) := by omega
    by_cases hk2 : k < ks.length
    · have k1 : (k : Int) < (ks.length : Int) := by omega
      obtain ⟨j, hj⟩ : ∃ j, ks[k]? = some j := ⟨_, List.getElem?_eq_getElem hk2⟩
      have hj9 := hks j (List.mem_of_getElem? hj)
      obtain ⟨bk, offk, rfl, hbk, hjc⟩ := HK.out k (j : Int) (by rw [List.getElem?_map, hj]; rfl)
      have hbk4 : bk < w4.heap.size ∧ bk ≠ bx := ⟨by have := H5.out.1.size; omega, by have := H5.out.2.2.2; omega⟩
      have hjw : wo.cell? ⟨bk, offk + k, none⟩ = some (.int .i64 (j : Int)) := (World.cell?_of_block ((H6.out.2.2.2.1 bk hbk4.1 hbk4.2).trans (H5.out.1.block bk hbk))).trans hjc
      have HX := hide (show bx < w4.heap.size ∧ True ∧ ks[k]? = some j from ⟨H5.out.2.1.lt, trivial, hj⟩)
      have HJ := hide (show bk < w4.heap.size ∧ wo.cell? ⟨bk, offk + k, none⟩ = some (.int .i64 (j : Int)) from ⟨hbk4.1, hjw⟩)
      clear hj hjc hjw hbk4
      go_wp2_with fail
      have hL : ∀ p ∈ ([(23, OnePth w4.heap.size (pN j)), (24, fun u W => OwnP w4.heap.size W u (((ks.take k).map pN) ++ [pN j]))] : Fre.MadeL), Fre.MadeOk (GrowF w4.heap.size (NPM ((ks.take k).map pN) []) (FPM (((ks.take k).map pN) ++ [pN j]) [])) p.2 := by
        intro p hp
        simp only [List.mem_cons, List.not_mem_nil, or_false] at hp
        rcases hp with rfl | rfl
        · exact ⟨fun u W W' h hx => onePth_stays (r := []) (pN_ok j) H6.out.2.1.2 h hx⟩
        · exact ⟨fun u W W' h hx => OwnP.grow (ps' := []) h (by have hx : GrowF _ _ _ W W' := hx; rwa [List.append_nil])⟩
      refine Fre.wp_made (X := (GrowF w4.heap.size (NPM ((ks.take k).map pN) []) (FPM (((ks.take k).map pN) ++ [pN j]) []))) 10 [(23, OnePth w4.heap.size (pN j)), (24, fun u W => OwnP w4.heap.size W u (((ks.take k).map pN) ++ [pN j]))] (by kernel_rfl) (by kernel_rfl) hL (by simp) (by simp only [List.map_cons, List.map_nil, List.forall_mem_cons]; exact ⟨Nat.le_of_ble_eq_true (by kernel_rfl), Nat.le_of_ble_eq_true (by kernel_rfl), fun _ h => by cases h⟩) ?_
      simp only [List.take_succ_cons, List.take_zero, List.drop_succ_cons, List.drop_zero]
      refine Fre.made_val (.pointer (some ⟨bx, 21, none⟩)) (by kernel_rfl) (by kernel_rfl) (by kernel_rfl) (fun _ _ => by kernel_rfl) ?_
      simp only [Act.put, List.setIfInBounds_toArray, List.set_cons_zero, List.set_cons_succ]
      refine Fre.made_val (vk) (by kernel_rfl) (by kernel_rfl) (by kernel_rfl) (fun W9 hW9 => exec_load_cell (o := ⟨some 17, _, _, _, _, _⟩) 24 (.tmp 16) rfl ⟨bx, 21, none⟩ rfl _ _ W9 Try.underlying24 rfl (by have h9 := GrowF.blk hW9 H6.out.1 (by rfl); rw [h9.cell]; rfl)) ?_
      simp only [Act.put, List.setIfInBounds_toArray, List.set_cons_zero, List.set_cons_succ]
      refine Fre.made_val (.slice (some ⟨bk, offk, none⟩) ks.length capk) (by kernel_rfl) (by kernel_rfl) (by kernel_rfl) (fun _ _ => by kernel_rfl) ?_
      simp only [Act.put, List.setIfInBounds_toArray, List.set_cons_zero, List.set_cons_succ]
      refine Fre.made_val (.int .i64 (k : Int)) (by kernel_rfl) (by kernel_rfl) (by kernel_rfl) (fun _ _ => by kernel_rfl) ?_
      simp only [Act.put, List.setIfInBounds_toArray, List.set_cons_zero, List.set_cons_succ]
      refine Fre.made_val (.pointer (some ⟨bk, offk + (k : Int).toNat * 1, none⟩)) (by kernel_rfl) (by kernel_rfl) (by kernel_rfl) (fun W9 _ => exec_index_off (o := ⟨some 20, _, _, _, _, _⟩) 33 3 (.tmp 18) (.tmp 19) rfl bk offk ks.length capk (k : Int) .i64 rfl rfl ⟨k0, k1⟩ 1 Try.underlying33 (by kernel_rfl) W9) ?_
      simp only [Act.put, List.setIfInBounds_toArray, List.set_cons_zero, List.set_cons_succ]
      rw [show offk + (k : Int).toNat * 1 = offk + k by omega]
      refine Fre.made_val (.int .i64 (j : Int)) (by kernel_rfl) (by kernel_rfl) (by kernel_rfl) (fun W9 hW9 => exec_load_cell (o := ⟨some 21, _, _, _, _, _⟩) 3 (.tmp 20) rfl ⟨bk, offk + k, none⟩ rfl _ _ W9 Try.underlying3 rfl (by have h9 : GrowF _ _ _ wo W9 := hW9; rw [World.cell?_of_block ((h9.below H6.out.2.2.1).block bk HJ.out.1)]; exact HJ.out.2)) ?_
      simp only [Act.put, List.setIfInBounds_toArray, List.set_cons_zero, List.set_cons_succ]
      refine Fre.made_call (.agg (pC (pN j)).toArray) 25 #[.int .i64 (j : Int)] (by kernel_rfl) (by kernel_rfl) (by kernel_rfl) (fun W9 => by kernel_rfl) (fun W9 hW9 => (path_any j hj9 W9).mono fun e w' ⟨h1, h2⟩ => ⟨h1, GrowF.of_below h2⟩) ?_
      simp only [Act.put, List.setIfInBounds_toArray, List.set_cons_zero, List.set_cons_succ]
      refine Fre.made_new 23 _ (by kernel_rfl) (by kernel_rfl) rfl rfl (fun W9 hW9 => ⟨.slice (some ⟨W9.heap.size, 0, none⟩) 1 1, W9.alloc (.cells (pC (pN j)).toArray 53), exec_buildSliceP (o := ⟨some 23, _, _, _, _, _⟩) (v := .agg (pC (pN j)).toArray) 24 (.tmp 22) rfl rfl Try.underlying24 sz_path (by omega) (by omega) (z := .agg zcP) (fun w => by kernel_rfl) (by simp [Value.cells, pC_len (pN_ok j)]) W9, GrowF.of_below ((Below.refl _ W9).alloc (Nat.le_refl _) _), W9.heap.size, rfl, by have h9 : GrowF _ _ _ wo W9 := hW9; have := h9.size; have := H6.out.2.2.1; omega, Blk.new _ _ _⟩) ?_
      simp only [Act.put, List.setIfInBounds_toArray, List.set_cons_zero, List.set_cons_succ]
      refine Fre.made_new1 23 _ 24 _ (by kernel_rfl) rfl (by kernel_rfl) rfl rfl (fun u W9 hW9 hu => ?hone) ?_
      case hone =>
        obtain ⟨r, rfl, hrB, hrb⟩ := hu
        have h9 : GrowF _ _ _ wo W9 := hW9
        have hsz : w4.heap.size ≤ W9.heap.size := by have := h9.size; have := H6.out.2.2.1; omega
        have hsrc : SrcN W9 21 (some ⟨r, 0, none⟩) ([pN j] : List Pth).length 1 (flP [pN j]) := by have h := box_src hrb (pC_one (pN j)); rw [pC_len (pN_ok j)] at h; simpa [flP] using h
        obtain ⟨v', w', h1, h2, h3⟩ := app_paths (r := []) (M := []) (N := []) (H6.out.2.1.grow h9) (qs := [pN j]) (fun q hq => by rw [List.mem_singleton.1 hq]; exact pN_ok j) hsz (some ⟨r, 0, none⟩) 1 hsrc (by simp; omega) (p0 := (ks.take k).map pN) (Nat.le_refl _)
        rw [List.append_nil] at h2
        exact ⟨v', w', exec_append (o := ⟨some 24, _, _, _, _, _⟩) (.tmp 17) (.tmp 23) 24 rfl vk (.slice (some ⟨r, 0, none⟩) 1 1) _ _ _ (by kernel_rfl) (by kernel_rfl) h1, h2, h3⟩
      simp only [Act.put, List.setIfInBounds_toArray, List.set_cons_zero, List.set_cons_succ]
      refine Fre.made_val (.pointer (some ⟨bx, 21, none⟩)) (by kernel_rfl) (by kernel_rfl) (by kernel_rfl) (fun _ _ => by kernel_rfl) ?_
      simp only [Act.put, List.setIfInBounds_toArray, List.set_cons_zero, List.set_cons_succ]
      show ∀ w', _ → _
      intro w5 hx5
      simp only [Fre.ended]
      have hx5 : GrowF _ _ _ wo w5 := hx5
      intro u23 _ y5 hy5
      simp only [Act.put, List.setIfInBounds_toArray, List.set_cons_zero, List.set_cons_succ]
      have hbx5 : Blk w5 bx 55 (oC (pN n) vk).toArray := hx5.blk H6.out.1 (by rfl)
      have hxb := hx5.below H6.out.2.2.1
      have hlb : bx < w4.heap.size := HX.out.1
      obtain ⟨A5, m5, c5, rfl⟩ : ∃ A m c, y5 = .slice A m c := by
        rcases owned_formN hy5.1 with ⟨e, _⟩ | ⟨g, cap, cur, e, _⟩
        · exact ⟨_, _, _, e⟩
        · exact ⟨_, _, _, e⟩
      have hcl : w5.cell? ⟨bx, 21, none⟩ = some vk := by rw [hbx5.cell]; rfl
      have hfr := hbx5.frozen 21
      have hlt := hbx5.lt
      obtain ⟨w6, hw6⟩ : ∃ w6, w6 = w5.setCell ⟨bx, 21, none⟩ (.slice A5 m5 c5) := ⟨_, rfl⟩
      have hbx6 : Blk w6 bx 55 (oC (pN n) (.slice A5 m5 c5)).toArray := by rw [hw6]; have h := hbx5.set_ 21 (.slice A5 m5 c5); rwa [show (oC (pN n) vk).toArray.setIfInBounds 21 (.slice A5 m5 c5) = (oC (pN n) (.slice A5 m5 c5)).toArray from rfl] at h
      have hoth : ∀ b, b ≠ bx → w6.heap[b]? = w5.heap[b]? := fun b hb => by rw [hw6]; exact Below.heap_setCell w5 _ _ b (fun e => hb e)
      have hy6 : OwnP w4.heap.size w6 (.slice A5 m5 c5) (((ks.take k).map pN) ++ [pN j]) := ⟨owned_keepN hy5.1 fun g hg _ => hoth g fun e => by have := (owned_ltN hy5.1 hg).1; omega, hy5.2⟩
      have hsz6 : w6.heap.size = w5.heap.size := by rw [hw6]; simp [World.setCell]
      have hbel6 : ∀ b, b < w4.heap.size → b ≠ bx → w6.heap[b]? = w4.heap[b]? := fun b hb hne => (hoth b hne).trans ((hxb.block b hb).trans (H6.out.2.2.2.1 b hb hne))
      have H7 := hide (And.intro hbx6 (And.intro hy6 (And.intro hsz6 (And.intro hbel6 (And.intro hxb.size (show w6.os = w4.os ∧ w6.tape = w4.tape ∧ w6.output = w4.output by rw [hw6]; exact ⟨hxb.os.trans H6.out.2.2.2.2.1, hxb.tape.trans H6.out.2.2.2.2.2.1, hxb.output.trans H6.out.2.2.2.2.2.2⟩))))))
      have HW6 := hide hw6
      clear hbx5 hbx6 hoth hy6 hsz6 hbel6 hxb hx5 hy5 hw6 hL
      go_wp2_with fail
      rw [← HW6.out]
      go_roundw
      case rel => exact ⟨k + 1, .slice A5 m5 c5, by omega, by go_num, H7.out.1, by rw [List.take_add_one, HX.out.2.2, List.map_append]; exact H7.out.2.1, by have := H7.out.2.2.1; have := H7.out.2.2.2.2.1; have := H6.out.2.2.1; omega, H7.out.2.2.2.1, H7.out.2.2.2.2.2⟩
      case measure => simp [intOf]; omega
    · obtain rfl : k = ks.length := by omega
      have hop := H6.out.2.1
      rw [List.take_length] at hop
      have HOP := hide hop
      clear hop
      have hxs : (Try.prog.info? 55).map (·.size) = some (oC (pN n) vk).toArray.size := by rw [sz_opt]; rfl
      have hone : (oC (pN n) vk).toArray.all (·.oneCell') = true := by
        rcases owned_formN HOP.out.1 with ⟨e, _⟩ | ⟨g, cap, cur, e, _⟩
        · rw [e]; exact all_oneCell_toArray (oC_one _ _ _ _)
        · rw [e]; exact all_oneCell_toArray (oC_one _ _ _ _)
      have hrb : Blk wo w.heap.size 55 zcO := (H6.out.2.2.2.1 w.heap.size H5.out.2.2.1.lt (by have := H5.out.2.2.2; omega)).trans H5.out.2.2.1
      have HRB := hide hrb
      clear hrb
      go_wp2_with (first | (refine wpList_value (o := ⟨some 26, _, _, _, _, _⟩) rfl (.agg (oC (pN n) vk).toArray) wo (exec_load_blk (o := ⟨some 26, _, _, _, _, _⟩) 55 (.tmp 5) rfl bx rfl 55 _ _ wo H6.out.1 Try.underlying55 rfl hxs) ?_) | (with_reducible refine wpList_store_blkA (o := ⟨none, _, _, _, _, _⟩) rfl 55 (.tmp 4) (.tmp 26) rfl w.heap.size zcO (oC (pN n) vk).toArray 55 HRB.out ?s1 ?s2 ?s3 ?s4 ?s5 ?s6))
      case s1 => exact hxs
      case s2 => rfl
      case s3 => exact hone
      intro w7 hk7 hg7
      have hb7 : Below w.heap.size w w7 := by
        refine ⟨hg7.os.trans (H6.out.2.2.2.2.1.trans H5.out.1.os), hg7.tape.trans (H6.out.2.2.2.2.2.1.trans H5.out.1.tape), hg7.output.trans (H6.out.2.2.2.2.2.2.trans H5.out.1.output), by have := hg7.size; have := H6.out.2.2.1; have := H5.out.1.size; omega, fun b hb => ?_⟩
        have h1 : b < w4.heap.size := by have := H5.out.1.size; omega
        exact (hg7.block b (by have := H6.out.2.2.1; omega) (fun e => by injection e with e; omega)).trans ((H6.out.2.2.2.1 b h1 (by have := H5.out.2.2.2; omega)).trans (H5.out.1.block b hb))
      have ho7 : OwnP w.heap.size w7 vk (ks.map pN) := ⟨owned_baseN (owned_keepN HOP.out.1 fun g hg hl => hg7.block g hl fun e => by injection e with e; have := (owned_ltN HOP.out.1 hg).1; have := H5.out.2.2.1.lt; omega) fun g hg => by have := (owned_ltN HOP.out.1 hg).1; have := H5.out.1.size; omega, HOP.out.2⟩
      have H7 := hide (And.intro hk7 (And.intro hb7 ho7))
      clear hk7 hg7 hb7 ho7
      go_wp2_with fail
      refine bodyPost_ret (results_cell_row rfl _ _ w.heap.size 55 (oC (pN n) vk).toArray (0, 0) _ rfl H7.out.1 Try.underlying55 rfl hxs) rfl ⟨vk, rfl, H7.out.2.2, H7.out.2.1⟩
end Go.Proofs.Ytfppddnfdinipaa
end
section
namespace Go.Proofs.Ytfppddnfdinipaa
open Go Go.RowKit
theorem run_buildSlice2 {P : Program} {t e n : Nat} {z v u : Value} (ht : P.underlying t = some (.slice e)) (hs : (P.info? e).map (·.size) = some n) (h24 : 2 * n ≤ 16777216) (hz : ∀ w, (zeroValue e).run P w = .ok z w) (hv : v.cells.size = n) (hu : u.cells.size = n) (w : World) :
    (Instr.buildSlice t 2 #[(0, v), (1, u)]).run P w = .ok (.slice (some ⟨w.heap.size, 0, none⟩) 2 2) (w.alloc (.cells (v.cells ++ u.cells) e)) := by
  have hsz : ∀ w, (sizeOf e).run P w = .ok n w := by
    intro w
    cases hq : P.info? e with
    | none => simp [hq] at hs
    | some i =>
      have h1 : i.size = n := by simpa [hq] using hs
      simp [sizeOf, typeInfo, hq, h1]
  have hfill : ∀ cells : Array Value, cells.size = 2 * n → Instr.fill (fun i => some (i * n, n)) cells [(0, v), (1, u)] = some (v.cells ++ u.cells) := by
    intro cells hc
    have hcl : cells.toList.length = 2 * n := by simpa using hc
    rw [fill_part _ _ 0 v _ 0 (by simp [hv]) (by omega)]
    rw [fill_part _ _ 1 u _ n (by simp [hu]) (by simp only [List.size_toArray, List.length_append, List.length_take, List.length_drop]; simp [hv, hu]; omega)]
    unfold Instr.fill
    congr 1
    apply Array.ext'
    have hvl : v.cells.toList.length = n := by simpa using hv
    simp only [List.take_zero, List.nil_append, Nat.zero_add]
    obtain ⟨d, hd⟩ : ∃ d, d = cells.toList.drop v.cells.size := ⟨_, rfl⟩
    have hdl : d.length = n := by rw [hd, List.length_drop]; omega
    rw [← hd, List.take_left' hvl, List.drop_eq_nil_of_le (by rw [List.length_append]; omega)]
    simp
  have h25 : ¬ 16777216 < 2 * n := by omega
  simp [Instr.buildSlice, run_underlying ht, hsz, h25, hz, hfill, Result.andThen]
  have hr : (newRow e (v.cells ++ u.cells)).run P w = .ok ⟨w.heap.size, 0, none⟩ (w.alloc (.cells (v.cells ++ u.cells) e)) := rfl
  rw [hr]
theorem exec_buildSlice2 {P : Program} {ρ : Operand → Value} {o : Oper} (t : TypeId) (x y : Operand) (ho : o.op = .buildSlice t 2 #[(0, x), (1, y)]) {e n : Nat} {z v u : Value} (hx : ρ x = v) (hy : ρ y = u) (ht : P.underlying t = some (.slice e)) (hs : (P.info? e).map (·.size) = some n) (h24 : 2 * n ≤ 16777216) (hz : ∀ w, (zeroValue e).run P w = .ok z w) (hv : v.cells.size = n) (hu : u.cells.size = n) (w : World) :
    (execOp ρ o).run P w = .ok (.value (.slice (some ⟨w.heap.size, 0, none⟩) 2 2)) (w.alloc (.cells (v.cells ++ u.cells) e)) := by
  have h := run_buildSlice2 (P := P) ht hs h24 hz hv hu w
  unfold execOp
  simp only [ho, List.map_toArray, List.map_cons, List.map_nil, hx, hy, Sem.run_bind, h, Result.andThen_ok, Sem.run_pure]
/-- a slice whose elements' cells lie in a block -/
theorem slice_cells {α : Type} {t e : TypeId} {L : Lay α} (h0 : 0 < L.n) {w : World} {B g : Nat} {cells : List (List Value)} {l : List α} (hb : Blk w g e cells.flatten.toArray) (hg : g < B) (hlen : cells.length = l.length) (hn : l.length ≤ maxLen) (hat : ∀ (j : Nat) x cs, l[j]? = some x → cells[j]? = some cs → L.At w B cs x) :
    (Lay.slice t L).At w B [.slice (some ⟨g, 0, none⟩) l.length l.length] l := by
  have hl : ∀ cs ∈ cells, (id cs).length = L.n := fun cs hcs => by
    obtain ⟨j, hj⟩ := List.getElem?_of_mem hcs
    obtain ⟨x, hx⟩ : ∃ x, l[j]? = some x := ⟨_, List.getElem?_eq_getElem (by have := (List.getElem?_eq_some_iff.1 hj).1; omega)⟩
    exact L.len (hat j x cs hx hj)
  refine ⟨_, l.length, rfl, Nat.le_refl _, hn, (fun h => by cases h), fun _ => ⟨g, 0, rfl, hg, fun j x hj => ?_⟩⟩
  obtain ⟨cs, hcs⟩ : ∃ cs, cells[j]? = some cs := ⟨_, List.getElem?_eq_getElem (by have := (List.getElem?_eq_some_iff.1 hj).1; omega)⟩
  refine ⟨cs, fun i u hu => ?_, hat j x cs hj hcs⟩
  have h2 := flatC_at (f := id) h0 cells hl j cs hcs i u hu
  rw [hb.cell, Nat.zero_add]
  have e : cells.flatMap id = cells.flatten := by simp [List.flatMap]
  rw [e] at h2
  simpa using h2
end Go.Proofs.Ytfppddnfdinipaa
end
section
namespace Go.Proofs.Ytfppddnfdinipaa
open Go Go.RowKit Go.Maps
set_option maxRecDepth 100000
theorem ints_one {w : World} {g : Nat} {k : Nat} (h : Blk w g 3 #[.int .i64 (k : Int)]) : IntsAt w w.heap.size (.slice (some ⟨g, 0, none⟩) 1 1) ([k].map fun k => ((k : Nat) : Int)) :=
  ⟨_, 1, rfl, fun i z hz => ⟨g, 0, rfl, h.lt, by
    match i, hz with
    | 0, hz =>
      injection hz with hz
      subst hz
      exact h.cell 0⟩⟩
theorem ints_two {w : World} {g : Nat} (a b : Int) (h : Blk w g 3 #[.int .i64 a, .int .i64 b]) : IntsAt w w.heap.size (.slice (some ⟨g, 0, none⟩) 2 2) [a, b] :=
  ⟨_, 2, rfl, fun i z hz => ⟨g, 0, rfl, h.lt, by
    match i, hz with
    | 0, hz =>
      injection hz with hz
      subst hz
      exact h.cell 0
    | 1, hz =>
      injection hz with hz
      subst hz
      exact h.cell 1⟩⟩
theorem slice_two {α : Type} {t e : TypeId} {L : Lay α} (h0 : 0 < L.n) {w : World} {B g : Nat} {c1 c2 : List Value} {x1 x2 : α} (hb : Blk w g e ((Value.agg c1.toArray).cells ++ (Value.agg c2.toArray).cells)) (hg : g < B) (h1 : L.At w B c1 x1) (h2 : L.At w B c2 x2) : (Lay.slice t L).At w B [.slice (some ⟨g, 0, none⟩) 2 2] [x1, x2] := by
  have e : (Value.agg c1.toArray).cells ++ (Value.agg c2.toArray).cells = [c1, c2].flatten.toArray := by simp [Value.cells]
  rw [e] at hb
  refine slice_cells (l := [x1, x2]) h0 hb hg rfl (of_decide_eq_true (by kernel_rfl)) fun j x cs hx hcs => ?_
  match j, hx, hcs with
  | 0, hx, hcs => injection hx with hx; injection hcs with hcs; subst hx hcs; exact h1
  | 1, hx, hcs => injection hx with hx; injection hcs with hcs; subst hx hcs; exact h2
theorem slice_one {α : Type} {t e : TypeId} {L : Lay α} (h0 : 0 < L.n) {w : World} {B g : Nat} {c1 : List Value} {x1 : α} (hb : Blk w g e (Value.agg c1.toArray).cells) (hg : g < B) (h1 : L.At w B c1 x1) : (Lay.slice t L).At w B [.slice (some ⟨g, 0, none⟩) 1 1] [x1] := by
  have e : (Value.agg c1.toArray).cells = [c1].flatten.toArray := by simp [Value.cells]
  rw [e] at hb
  refine slice_cells (l := [x1]) h0 hb hg rfl (of_decide_eq_true (by kernel_rfl)) fun j x cs hx hcs => ?_
  match j, hx, hcs with
  | 0, hx, hcs => injection hx with hx; injection hcs with hcs; subst hx hcs; exact h1
theorem optLay_mk {w : World} {B : Nat} {p : Pth} {v : Value} {cl : List Pth} (hp : okP p) (h : pathsLay.At w B [v] cl) : optLay.At w B (oC p v) (p, cl) :=
  ⟨pC p, [v], rfl, pathLay_at.2 ⟨rfl, hp⟩, [v], [], rfl, h, rfl⟩
theorem exec_made2 {ρ : Operand → Value} {o : Oper} (h : Hsh) (p : Pth) (hh : okH h) (hp : okP p) (x y : Operand) (ho : o.op = .build 60 #[(0, x), (1, y)]) (h1 : ρ x = .agg (bv h).toArray) (h2 : ρ y = .agg (pC p).toArray) (w : World) : (execOp ρ o).run Try.prog w = .ok (.value (.agg (mC h p).toArray)) w := by
  have e9 : (Value.agg (bv h).toArray).cells ++ (Value.agg (pC p).toArray).cells = (mC h p).toArray := by simp [Value.cells]
  refine Eq.trans (exec_build2 60 x y ho (n1 := 20) (n2 := 21) (z := .agg zcM) (v1 := .agg (bv h).toArray) (v2 := .agg (pC p).toArray) h1 h2 Try.underlying60 (fun w => by kernel_rfl) (by kernel_rfl) (fun w => by kernel_rfl) (by simp [Value.cells, bvL]; exact hh) (by simp [Value.cells, pC_len hp]) w) ?_
  rw [e9]
def zcC : Array Value := (bv (List.replicate 20 0) ++ [Value.slice none 0 0, Value.slice none 0 0, Value.slice none 0 0, Value.slice none 0 0]).toArray
def c0 : CaseP := ⟨hN 9, [], [hN 1, hN 2], [[(pN 1, [pN 4]), (pN 2, [pN 5])], [(pN 3, [pN 5])]], [(hN 4, pN 4), (hN 4, pN 5)]⟩
theorem c0_least : leastB c0 100 = ([1, 0], 4, 0) ∧ leastB c0 3 = ([], 3, 11) ∧ freeB c0 [1, 0] = true ∧ freeB c0 [0, 0] = false := by
  refine ⟨?_, ?_, ?_, ?_⟩ <;> kernel_rfl
theorem c0_size : c0.size ≤ 120 := by decide
set_option maxHeartbeats 8000000 in
theorem awake24_any (w0 : World) : Calls Try.prog 11 #[] w0 fun e w' => e = .returned (.bool true) ∧ Below w0.heap.size w0 w' := by
  go_enter Try.func11, Try.ntmps11
  go_wp2_with fail
  refine (class_any 9 (by omega) w0).mono ?_
  rintro e w1 ⟨rfl, hbw1⟩
  have HBw1 := hide (show Below w0.heap.size w0 w1 from hbw1)
  clear hbw1
  dsimp only
  go_wp2_with fail
  refine (class_any 1 (by omega) w1).mono ?_
  rintro e w2 ⟨rfl, hbw2⟩
  have HBw2 := hide (show Below w1.heap.size w1 w2 from hbw2)
  clear hbw2
  dsimp only
  go_wp2_with fail
  refine (class_any 2 (by omega) w2).mono ?_
  rintro e w3 ⟨rfl, hbw3⟩
  have HBw3 := hide (show Below w2.heap.size w2 w3 from hbw3)
  clear hbw3
  dsimp only
  obtain ⟨w4, hww4⟩ : ∃ w4, w4 = w3.alloc (.cells ((Value.agg (bv (hN 1)).toArray).cells ++ (Value.agg (bv (hN 2)).toArray).cells) 23) := ⟨_, rfl⟩
  have HBw4 := hide (show Below w3.heap.size w3 w4 from by rw [hww4]; exact (Below.refl _ w3).alloc (Nat.le_refl _) _)
  have HKw4 := hide (show Blk w4 w3.heap.size 23 ((Value.agg (bv (hN 1)).toArray).cells ++ (Value.agg (bv (hN 2)).toArray).cells) from by rw [hww4]; exact Blk.new _ _ _)
  have HWw4 := hide hww4
  clear hww4
  obtain ⟨w5, hww5⟩ : ∃ w5, w5 = w4.alloc (.cells (#[.int .i64 4]) 3) := ⟨_, rfl⟩
  have HBw5 := hide (show Below w4.heap.size w4 w5 from by rw [hww5]; exact (Below.refl _ w4).alloc (Nat.le_refl _) _)
  have HKw5 := hide (show Blk w5 w4.heap.size 3 (#[.int .i64 4]) from by rw [hww5]; exact Blk.new _ _ _)
  have HWw5 := hide hww5
  clear hww5
  go_wp2_with (first | (refine wpList_value (o := ⟨some 11, _, _, _, _, _⟩) rfl (.slice (some ⟨w3.heap.size, 0, none⟩) 2 2) w4 (by rw [HWw4.out]; exact exec_buildSlice2 (o := ⟨some 11, _, _, _, _, _⟩) (v := .agg (bv (hN 1)).toArray) (u := .agg (bv (hN 2)).toArray) 25 (.tmp 9) (.tmp 10) rfl rfl rfl Try.underlying25 sz_hash (by omega) (z := .agg zcH) (fun w => by kernel_rfl) rfl rfl w3) ?_) | (refine wpList_value (o := ⟨some 12, _, _, _, _, _⟩) rfl (.slice (some ⟨w4.heap.size, 0, none⟩) 1 1) w5 (by rw [HWw5.out]; kernel_rfl) ?_))
  refine (option_any 1 (by omega) [4] (by simp) (by simp) (.slice (some ⟨w4.heap.size, 0, none⟩) 1 1) w5 (ints_one HKw5.out)).mono ?_
  rintro e w6 ⟨u13, rfl, hu13, hbw6⟩
  have HBw6 := hide (show Below w5.heap.size w5 w6 from hbw6)
  have Hu13 := hide hu13
  clear hbw6 hu13
  dsimp only
  obtain ⟨w7, hww7⟩ : ∃ w7, w7 = w6.alloc (.cells (#[.int .i64 5]) 3) := ⟨_, rfl⟩
  have HBw7 := hide (show Below w6.heap.size w6 w7 from by rw [hww7]; exact (Below.refl _ w6).alloc (Nat.le_refl _) _)
  have HKw7 := hide (show Blk w7 w6.heap.size 3 (#[.int .i64 5]) from by rw [hww7]; exact Blk.new _ _ _)
  have HWw7 := hide hww7
  clear hww7
  go_wp2_with (refine wpList_value (o := ⟨some 14, _, _, _, _, _⟩) rfl (.slice (some ⟨w6.heap.size, 0, none⟩) 1 1) w7 (by rw [HWw7.out]; kernel_rfl) ?_)
  refine (option_any 2 (by omega) [5] (by simp) (by simp) (.slice (some ⟨w6.heap.size, 0, none⟩) 1 1) w7 (ints_one HKw7.out)).mono ?_
  rintro e w8 ⟨u15, rfl, hu15, hbw8⟩
  have HBw8 := hide (show Below w7.heap.size w7 w8 from hbw8)
  have Hu15 := hide hu15
  clear hbw8 hu15
  dsimp only
  obtain ⟨w9, hww9⟩ : ∃ w9, w9 = w8.alloc (.cells ((Value.agg (oC (pN 1) u13).toArray).cells ++ (Value.agg (oC (pN 2) u15).toArray).cells) 55) := ⟨_, rfl⟩
  have HBw9 := hide (show Below w8.heap.size w8 w9 from by rw [hww9]; exact (Below.refl _ w8).alloc (Nat.le_refl _) _)
  have HKw9 := hide (show Blk w9 w8.heap.size 55 ((Value.agg (oC (pN 1) u13).toArray).cells ++ (Value.agg (oC (pN 2) u15).toArray).cells) from by rw [hww9]; exact Blk.new _ _ _)
  have HWw9 := hide hww9
  clear hww9
  obtain ⟨w10, hww10⟩ : ∃ w10, w10 = w9.alloc (.cells (#[.int .i64 5]) 3) := ⟨_, rfl⟩
  have HBw10 := hide (show Below w9.heap.size w9 w10 from by rw [hww10]; exact (Below.refl _ w9).alloc (Nat.le_refl _) _)
  have HKw10 := hide (show Blk w10 w9.heap.size 3 (#[.int .i64 5]) from by rw [hww10]; exact Blk.new _ _ _)
  have HWw10 := hide hww10
  clear hww10
  go_wp2_with (first | (refine wpList_value (o := ⟨some 16, _, _, _, _, _⟩) rfl (.slice (some ⟨w8.heap.size, 0, none⟩) 2 2) w9 (by rw [HWw9.out]; exact exec_buildSlice2 (o := ⟨some 16, _, _, _, _, _⟩) (v := .agg (oC (pN 1) u13).toArray) (u := .agg (oC (pN 2) u15).toArray) 57 (.tmp 13) (.tmp 15) rfl rfl rfl Try.underlying57 sz_opt (by omega) (z := .agg zcO) (fun w => by kernel_rfl) rfl rfl w8) ?_) | (refine wpList_value (o := ⟨some 17, _, _, _, _, _⟩) rfl (.slice (some ⟨w9.heap.size, 0, none⟩) 1 1) w10 (by rw [HWw10.out]; kernel_rfl) ?_))
  refine (option_any 3 (by omega) [5] (by simp) (by simp) (.slice (some ⟨w9.heap.size, 0, none⟩) 1 1) w10 (ints_one HKw10.out)).mono ?_
  rintro e w11 ⟨u18, rfl, hu18, hbw11⟩
  have HBw11 := hide (show Below w10.heap.size w10 w11 from hbw11)
  have Hu18 := hide hu18
  clear hbw11 hu18
  dsimp only
  obtain ⟨w12, hww12⟩ : ∃ w12, w12 = w11.alloc (.cells ((Value.agg (oC (pN 3) u18).toArray).cells) 55) := ⟨_, rfl⟩
  have HBw12 := hide (show Below w11.heap.size w11 w12 from by rw [hww12]; exact (Below.refl _ w11).alloc (Nat.le_refl _) _)
  have HKw12 := hide (show Blk w12 w11.heap.size 55 ((Value.agg (oC (pN 3) u18).toArray).cells) from by rw [hww12]; exact Blk.new _ _ _)
  have HWw12 := hide hww12
  clear hww12
  obtain ⟨w13, hww13⟩ : ∃ w13, w13 = w12.alloc (.cells (#[.slice (some ⟨w8.heap.size, 0, none⟩) 2 2, .slice (some ⟨w11.heap.size, 0, none⟩) 1 1]) 57) := ⟨_, rfl⟩
  have HBw13 := hide (show Below w12.heap.size w12 w13 from by rw [hww13]; exact (Below.refl _ w12).alloc (Nat.le_refl _) _)
  have HKw13 := hide (show Blk w13 w12.heap.size 57 (#[.slice (some ⟨w8.heap.size, 0, none⟩) 2 2, .slice (some ⟨w11.heap.size, 0, none⟩) 1 1]) from by rw [hww13]; exact Blk.new _ _ _)
  have HWw13 := hide hww13
  clear hww13
  go_wp2_with (first | (refine wpList_value (o := ⟨some 19, _, _, _, _, _⟩) rfl (.slice (some ⟨w11.heap.size, 0, none⟩) 1 1) w12 (by rw [HWw12.out]; exact exec_buildSliceP (o := ⟨some 19, _, _, _, _, _⟩) (v := .agg (oC (pN 3) u18).toArray) 57 (.tmp 18) rfl rfl Try.underlying57 sz_opt (by omega) (by omega) (z := .agg zcO) (fun w => by kernel_rfl) rfl w11) ?_) | (refine wpList_value (o := ⟨some 20, _, _, _, _, _⟩) rfl (.slice (some ⟨w12.heap.size, 0, none⟩) 2 2) w13 (by rw [HWw13.out]; kernel_rfl) ?_))
  refine (class_any 4 (by omega) w13).mono ?_
  rintro e w14 ⟨rfl, hbw14⟩
  have HBw14 := hide (show Below w13.heap.size w13 w14 from hbw14)
  clear hbw14
  dsimp only
  go_wp2_with fail
  refine (path_any 4 (by omega) w14).mono ?_
  rintro e w15 ⟨rfl, hbw15⟩
  have HBw15 := hide (show Below w14.heap.size w14 w15 from hbw15)
  clear hbw15
  dsimp only
  go_wp2_with ((refine wpList_value (o := ⟨some 23, _, _, _, _, _⟩) rfl (.agg (mC (hN 4) (pN 4)).toArray) w15 (exec_made2 (o := ⟨some 23, _, _, _, _, _⟩) (hN 4) (pN 4) (hN_ok _) (pN_ok _) (.tmp 21) (.tmp 22) rfl rfl rfl w15) ?_))
  refine (class_any 4 (by omega) w15).mono ?_
  rintro e w16 ⟨rfl, hbw16⟩
  have HBw16 := hide (show Below w15.heap.size w15 w16 from hbw16)
  clear hbw16
  dsimp only
  go_wp2_with fail
  refine (path_any 5 (by omega) w16).mono ?_
  rintro e w17 ⟨rfl, hbw17⟩
  have HBw17 := hide (show Below w16.heap.size w16 w17 from hbw17)
  clear hbw17
  dsimp only
  obtain ⟨w18, hww18⟩ : ∃ w18, w18 = w17.alloc (.cells ((Value.agg (mC (hN 4) (pN 4)).toArray).cells ++ (Value.agg (mC (hN 4) (pN 5)).toArray).cells) 60) := ⟨_, rfl⟩
  have HBw18 := hide (show Below w17.heap.size w17 w18 from by rw [hww18]; exact (Below.refl _ w17).alloc (Nat.le_refl _) _)
  have HKw18 := hide (show Blk w18 w17.heap.size 60 ((Value.agg (mC (hN 4) (pN 4)).toArray).cells ++ (Value.agg (mC (hN 4) (pN 5)).toArray).cells) from by rw [hww18]; exact Blk.new _ _ _)
  have HWw18 := hide hww18
  clear hww18
  obtain ⟨v0, hv0⟩ : ∃ v0, v0 = (⟨hN 9, .slice none 0 0, .slice (some ⟨w3.heap.size, 0, none⟩) 2 2, .slice (some ⟨w12.heap.size, 0, none⟩) 2 2, .slice (some ⟨w17.heap.size, 0, none⟩) 2 2⟩ : Cvs) := ⟨_, rfl⟩
  have ho : okH v0.own := by rw [hv0]; exact hN_ok 9
  have hsz0 : (Try.prog.info? 29).map (·.size) = some (caseC v0).toArray.size := csz ho
  have hone0 : (caseC v0).toArray.all (·.oneCell') = true := by rw [hv0]; kernel_rfl
  have HV := hide hv0
  clear hv0
  go_wp2_with (first | (refine wpList_value (o := ⟨some 26, _, _, _, _, _⟩) rfl (.agg (mC (hN 4) (pN 5)).toArray) w17 (exec_made2 (o := ⟨some 26, _, _, _, _, _⟩) (hN 4) (pN 5) (hN_ok _) (pN_ok _) (.tmp 24) (.tmp 25) rfl rfl rfl w17) ?_) | (refine wpList_value (o := ⟨some 27, _, _, _, _, _⟩) rfl (.slice (some ⟨w17.heap.size, 0, none⟩) 2 2) w18 (by rw [HWw18.out]; exact exec_buildSlice2 (o := ⟨some 27, _, _, _, _, _⟩) (v := .agg (mC (hN 4) (pN 4)).toArray) (u := .agg (mC (hN 4) (pN 5)).toArray) 27 (.tmp 23) (.tmp 26) rfl rfl rfl Try.underlying27 sz_made (by omega) (z := .agg zcM) (fun w => by kernel_rfl) rfl rfl w17) ?_) | (refine wpList_value (o := ⟨some 28, _, _, _, _, _⟩) rfl (.agg (caseC v0).toArray) w18 ?hh ?_) | ((with_reducible refine wpList_box (o1 := ⟨some 1, _, _, _, _, _⟩) (o2 := ⟨none, _, _, _, _, _⟩) rfl rfl 29 (.tmp 1) (.tmp 28) ?_ zcC (caseC v0).toArray ?_ hsz0 ?_ hone0 ?_ ?_ ?_); rfl; kernel_rfl; (simp only [List.size_toArray, caseC_len ho]; kernel_rfl); rfl; rfl; intro w19 hmw19 hbw19; have HBw19 := hide hbw19; have HKw19 := hide hmw19; clear hmw19 hbw19; simp only [Act.put, List.setIfInBounds_toArray, List.set_cons_zero, List.set_cons_succ]) | (refine wpList_value (o := ⟨some 30, _, _, _, _, _⟩) rfl (.agg (caseC v0).toArray) w19 (exec_load_blk (o := ⟨some 30, _, _, _, _, _⟩) 29 (.tmp 1) rfl w18.heap.size rfl 29 _ _ w19 HKw19.out Try.underlying29 rfl hsz0) ?_))
  case hh =>
    rw [HV.out]
    kernel_rfl
  have hB19 : Below w19.heap.size w19 w19 := Below.refl _ _
  have hB18 : Below w18.heap.size w18 w19 := HBw19.out.trans (Below.mono hB19 HBw19.out.size)
  have hB17 : Below w17.heap.size w17 w19 := HBw18.out.trans (Below.mono hB18 HBw18.out.size)
  have hB16 : Below w16.heap.size w16 w19 := HBw17.out.trans (Below.mono hB17 HBw17.out.size)
  have hB15 : Below w15.heap.size w15 w19 := HBw16.out.trans (Below.mono hB16 HBw16.out.size)
  have hB14 : Below w14.heap.size w14 w19 := HBw15.out.trans (Below.mono hB15 HBw15.out.size)
  have hB13 : Below w13.heap.size w13 w19 := HBw14.out.trans (Below.mono hB14 HBw14.out.size)
  have hB12 : Below w12.heap.size w12 w19 := HBw13.out.trans (Below.mono hB13 HBw13.out.size)
  have hB11 : Below w11.heap.size w11 w19 := HBw12.out.trans (Below.mono hB12 HBw12.out.size)
  have hB10 : Below w10.heap.size w10 w19 := HBw11.out.trans (Below.mono hB11 HBw11.out.size)
  have hB9 : Below w9.heap.size w9 w19 := HBw10.out.trans (Below.mono hB10 HBw10.out.size)
  have hB8 : Below w8.heap.size w8 w19 := HBw9.out.trans (Below.mono hB9 HBw9.out.size)
  have hB7 : Below w7.heap.size w7 w19 := HBw8.out.trans (Below.mono hB8 HBw8.out.size)
  have hB6 : Below w6.heap.size w6 w19 := HBw7.out.trans (Below.mono hB7 HBw7.out.size)
  have hB5 : Below w5.heap.size w5 w19 := HBw6.out.trans (Below.mono hB6 HBw6.out.size)
  have hB4 : Below w4.heap.size w4 w19 := HBw5.out.trans (Below.mono hB5 HBw5.out.size)
  have hB3 : Below w3.heap.size w3 w19 := HBw4.out.trans (Below.mono hB4 HBw4.out.size)
  have hB2 : Below w2.heap.size w2 w19 := HBw3.out.trans (Below.mono hB3 HBw3.out.size)
  have hB1 : Below w1.heap.size w1 w19 := HBw2.out.trans (Below.mono hB2 HBw2.out.size)
  have hB0 : Below w0.heap.size w0 w19 := HBw1.out.trans (Below.mono hB1 HBw1.out.size)
  have hs0 := HBw1.out.size
  have hs1 := HBw2.out.size
  have hs2 := HBw3.out.size
  have hs3 := HBw4.out.size
  have hs4 := HBw5.out.size
  have hs5 := HBw6.out.size
  have hs6 := HBw7.out.size
  have hs7 := HBw8.out.size
  have hs8 := HBw9.out.size
  have hs9 := HBw10.out.size
  have hs10 := HBw11.out.size
  have hs11 := HBw12.out.size
  have hs12 := HBw13.out.size
  have hs13 := HBw14.out.size
  have hs14 := HBw15.out.size
  have hs15 := HBw16.out.size
  have hs16 := HBw17.out.size
  have hs17 := HBw18.out.size
  have hs18 := HBw19.out.size
  have hat : CaseAt w19.heap.size w19 v0 c0 := by
    rw [HV.out]
    refine ⟨rfl, hN_ok 9, ⟨none, 0, rfl, Nat.le_refl _, Nat.zero_le _, fun _ => rfl, fun h => absurd h (by simp [c0])⟩, ?_, ?_, ?_⟩
    · exact slice_two (L := hashLay) (by decide) (HKw4.out.below hB4 HKw4.out.lt) (show w3.heap.size < w19.heap.size by have := HKw4.out.lt; omega) ⟨rfl, hN_ok 1⟩ ⟨rfl, hN_ok 2⟩
    · exact slice_two (L := rowLay) (by decide) (HKw13.out.below hB13 HKw13.out.lt) (show w12.heap.size < w19.heap.size by have := HKw13.out.lt; omega) (slice_two (L := optLay) (by decide) (HKw9.out.below hB9 HKw9.out.lt) (show w8.heap.size < w19.heap.size by have := HKw9.out.lt; omega) (optLay_mk (pN_ok 1) (OwnP.at_ (OwnP.below Hu13.out hB6))) (optLay_mk (pN_ok 2) (OwnP.at_ (OwnP.below Hu15.out hB8)))) (slice_one (L := optLay) (by decide) (HKw12.out.below hB12 HKw12.out.lt) (show w11.heap.size < w19.heap.size by have := HKw12.out.lt; omega) (optLay_mk (pN_ok 3) (OwnP.at_ (OwnP.below Hu18.out hB11))))
    · exact slice_two (L := madeLay) (by decide) (HKw18.out.below hB18 HKw18.out.lt) (show w17.heap.size < w19.heap.size by have := HKw18.out.lt; omega) (madeLay_at.2 ⟨rfl, hN_ok 4, pN_ok 4⟩) (madeLay_at.2 ⟨rfl, hN_ok 4, pN_ok 5⟩)
  have HA := hide (And.intro hat (And.intro hB0 HKw19.out))
  clear hat hB0 hB1 hB2 hB3 hB4 hB5 hB6 hB7 hB8 hB9 hB10 hB11 hB12 hB13 hB14 hB15 hB16 hB17 hB18 hB19 hs0 hs1 hs2 hs3 hs4 hs5 hs6 hs7 hs8 hs9 hs10 hs11 hs12 hs13 hs14 hs15 hs16 hs17 hs18 HBw1 HBw2 HBw3 HBw4 HBw5 HBw6 HBw7 HBw8 HBw9 HBw10 HBw11 HBw12 HBw13 HBw14 HBw15 HBw16 HBw17 HBw18 HBw19 Hu13 Hu15 Hu18 HKw4 HKw9 HKw12 HKw13 HKw18
  refine (least_any w19 v0 c0 c0_size HA.out.1 100 (by omega)).mono ?_
  rintro e w20 ⟨u31, rfl, ho31, hb20⟩
  rw [c0_least.1] at ho31 ⊢
  have H20 := hide (And.intro ho31 (And.intro hb20 (show CaseAt w20.heap.size w20 v0 c0 from (HA.out.1.alike hb20.block).widen hb20.size)))
  have HB20 := hide (show Blk w20 w18.heap.size 29 (caseC v0).toArray from HA.out.2.2.below hb20 HA.out.2.2.lt)
  clear ho31 hb20
  dsimp only
  go_wp2_with (refine wpList_value (o := ⟨some 36, _, _, _, _, _⟩) rfl (.agg (caseC v0).toArray) w20 (exec_load_blk (o := ⟨some 36, _, _, _, _, _⟩) 29 (.tmp 1) rfl w18.heap.size rfl 29 _ _ w20 HB20.out Try.underlying29 rfl hsz0) ?_)
  refine (least_any w20 v0 c0 c0_size H20.out.2.2 3 (by omega)).mono ?_
  rintro e w21 ⟨u37, rfl, ho37, hb21⟩
  rw [c0_least.2.1] at ho37 ⊢
  have H21 := hide (And.intro (show CaseAt w21.heap.size w21 v0 c0 from (H20.out.2.2.alike hb21.block).widen hb21.size) (And.intro hb21 (show OwnI _ w21 u31 [1, 0] from owned_keepN H20.out.1 fun g _ hl => hb21.block g hl)))
  have HB21 := hide (show Blk w21 w18.heap.size 29 (caseC v0).toArray from HB20.out.below hb21 HB20.out.lt)
  clear ho37 hb21
  dsimp only
  obtain ⟨w22, hw22⟩ : ∃ w22, w22 = w21.alloc (.cells #[.int .i64 1, .int .i64 0] 3) := ⟨_, rfl⟩
  have hb22 : Below w21.heap.size w21 w22 := by rw [hw22]; exact (Below.refl _ w21).alloc (Nat.le_refl _) _
  have hk22 : Blk w22 w21.heap.size 3 #[.int .i64 1, .int .i64 0] := by rw [hw22]; exact Blk.new _ _ _
  have HW22 := hide hw22
  clear hw22
  go_wp2_with (refine wpList_value_w (o := ⟨some 45, _, _, _, _, _⟩) (by kernel_rfl) (.slice (some ⟨w21.heap.size, 0, none⟩) 2 2) w22 (by rw [HW22.out]; kernel_rfl) ?_)
  refine (sameInts_any [1, 0] [1, 0] (by simp) (by simp) u31 _ w22 (OwnI.ints (owned_keepN H21.out.2.2 fun g _ hl => hb22.block g hl)) (ints_two 1 0 hk22)).mono ?_
  rintro e w23 ⟨rfl, hb23⟩
  have hb2123 := hb22.trans (Below.mono hb23 hb22.size)
  have H23 := hide (And.intro (show CaseAt w23.heap.size w23 v0 c0 from (H21.out.1.alike hb2123.block).widen hb2123.size) hb2123)
  have HB23 := hide (show Blk w23 w18.heap.size 29 (caseC v0).toArray from HB21.out.below hb2123 HB21.out.lt)
  clear hb22 hb23 hk22 hb2123
  dsimp only
  obtain ⟨w24, hw24⟩ : ∃ w24, w24 = w23.alloc (.cells #[.int .i64 1, .int .i64 0] 3) := ⟨_, rfl⟩
  have hb24 : Below w23.heap.size w23 w24 := by rw [hw24]; exact (Below.refl _ w23).alloc (Nat.le_refl _) _
  have hk24 : Blk w24 w23.heap.size 3 #[.int .i64 1, .int .i64 0] := by rw [hw24]; exact Blk.new _ _ _
  have HW24 := hide hw24
  clear hw24
  have hd1 : decide (([1, 0] : List Int) = [1, 0]) = true := rfl
  rw [hd1]
  clear hd1
  go_wp2_with (first | (refine wpList_value_w (o := ⟨some 61, _, _, _, _, _⟩) (by kernel_rfl) (.agg (caseC v0).toArray) w23 (exec_load_blk (o := ⟨some 61, _, _, _, _, _⟩) 29 (.tmp 1) rfl w18.heap.size rfl 29 _ _ w23 HB23.out Try.underlying29 rfl hsz0) ?_) | (refine wpList_value_w (o := ⟨some 62, _, _, _, _, _⟩) (by kernel_rfl) (.slice (some ⟨w23.heap.size, 0, none⟩) 2 2) w24 (by rw [HW24.out]; kernel_rfl) ?_))
  have hC24 : CaseAt w24.heap.size w24 v0 c0 := (H23.out.1.alike hb24.block).widen hb24.size
  refine (free_any w24 v0 c0 c0_size hC24 [1, 0] (by simp) _ (ints_two 1 0 hk24)).mono ?_
  rintro e w25 ⟨rfl, hb25⟩
  rw [c0_least.2.2.1]
  have hb2325 := hb24.trans (Below.mono hb25 hb24.size)
  have H25 := hide (And.intro (show CaseAt w25.heap.size w25 v0 c0 from (H23.out.1.alike hb2325.block).widen hb2325.size) hb2325)
  have HB25 := hide (show Blk w25 w18.heap.size 29 (caseC v0).toArray from HB23.out.below hb2325 HB23.out.lt)
  clear hb24 hk24 hb25 hC24 hb2325
  dsimp only
  obtain ⟨w26, hw26⟩ : ∃ w26, w26 = w25.alloc (.cells #[.int .i64 0, .int .i64 0] 3) := ⟨_, rfl⟩
  have hb26 : Below w25.heap.size w25 w26 := by rw [hw26]; exact (Below.refl _ w25).alloc (Nat.le_refl _) _
  have hk26 : Blk w26 w25.heap.size 3 #[.int .i64 0, .int .i64 0] := by rw [hw26]; exact Blk.new _ _ _
  have HW26 := hide hw26
  clear hw26
  go_wp2_with (first | (refine wpList_value_w (o := ⟨some 66, _, _, _, _, _⟩) (by kernel_rfl) (.agg (caseC v0).toArray) w25 (exec_load_blk (o := ⟨some 66, _, _, _, _, _⟩) 29 (.tmp 1) rfl w18.heap.size rfl 29 _ _ w25 HB25.out Try.underlying29 rfl hsz0) ?_) | (refine wpList_value_w (o := ⟨some 67, _, _, _, _, _⟩) (by kernel_rfl) (.slice (some ⟨w25.heap.size, 0, none⟩) 2 2) w26 (by rw [HW26.out]; kernel_rfl) ?_))
  have hC26 : CaseAt w26.heap.size w26 v0 c0 := (H25.out.1.alike hb26.block).widen hb26.size
  refine (free_any w26 v0 c0 c0_size hC26 [0, 0] (by simp) _ (ints_two 0 0 hk26)).mono ?_
  rintro e w27 ⟨rfl, hb27⟩
  rw [c0_least.2.2.2]
  have hbf : Below w0.heap.size w0 w27 := HA.out.2.1.trans (Below.mono (H20.out.2.1.trans (Below.mono (H21.out.2.1.trans (Below.mono (H23.out.2.trans (Below.mono (H25.out.2.trans (Below.mono (hb26.trans (Below.mono hb27 hb26.size)) H25.out.2.size)) H23.out.2.size)) H21.out.2.1.size)) H20.out.2.1.size)) HA.out.2.1.size)
  have HF := hide hbf
  clear hbf hb26 hk26 hb27 hC26
  dsimp only
  go_wp2_with fail
  go_ret
  exact ⟨rfl, HF.out⟩
end Go.Proofs.Ytfppddnfdinipaa
end
section
namespace Go.Proofs.Ytfppddnfdinipaa
open Go Go.RowKit Go.Maps
set_option maxRecDepth 100000
theorem case_all {B : Nat} {w : World} {v : Cvs} {c : CaseP} (h : CaseAt B w v c) : (caseC v).toArray.all (·.oneCell') = true :=
  all_oneCell_toArray (caseC_one (pathsLay.one h.atF _ (by simp)) (hashesLay.one h.atC _ (by simp)) (rowsLay.one h.atO _ (by simp)) (madesLay.one h.atM _ (by simp)))
theorem lent_ints {w : World} {g cap : Nat} {ks : List Int} (h : Blk w g 3 (ivz (ks ++ marksInt)).toArray) : IntsAt w w.heap.size (.slice (some ⟨g, 0, none⟩) ks.length cap) ks := by
  refine ⟨_, _, rfl, fun i k hk => ⟨g, 0, rfl, h.lt, ?_⟩⟩
  rw [h.cell, Nat.zero_add]
  exact keptLI ks i k hk
set_option maxHeartbeats 8000000 in
theorem pickFree_any (w : World) (v : Cvs) (c : CaseP) (hl : LightC c) (hC : CaseAt w.heap.size w v c) (ks : List Int) (vk : Value) (hK : intLay.At w w.heap.size [vk] ks) :
    Calls Try.prog 4 #[.agg (caseC v).toArray, vk] w fun e w' => e = .returned (.bool true) ∧ Below w.heap.size w w' := by
  have ho : okH v.own := by rw [hC.own]; exact hC.okO
  have hsz0 := csz ho
  obtain ⟨A, capk, rfl, _, _, _, _⟩ := slice_open hK
  obtain ⟨w1, hw1⟩ : ∃ w1, w1 = w.alloc (.cells (caseC v).toArray 29) := ⟨_, rfl⟩
  have hb1 : Below w.heap.size w w1 := by rw [hw1]; exact (Below.refl _ w).alloc (Nat.le_refl _) _
  have hk1 : Blk w1 w.heap.size 29 (caseC v).toArray := by rw [hw1]; exact Blk.new _ _ _
  have HC1 := hide (And.intro (show CaseAt w1.heap.size w1 v c from (hC.alike hb1.block).widen hb1.size) (And.intro hk1 hb1))
  have HW1 := hide hw1
  have HK := hide hK
  clear hb1 hk1 hC hw1 hK
  go_enter Try.func4, Try.ntmps4
  go_wp2_with (first | (refine wpList_value (o := ⟨some 2, _, _, _, _, _⟩) rfl (.pointer (some ⟨w.heap.size, 0, none⟩)) w1 (by rw [HW1.out]; kernel_rfl) ?_) | (refine wpList_value (o := ⟨some 7, _, _, _, _, _⟩) rfl (.agg (caseC v).toArray) w1 (exec_load_blk (o := ⟨some 7, _, _, _, _, _⟩) 29 (.tmp 2) rfl w.heap.size rfl 29 _ _ w1 HC1.out.2.1 Try.underlying29 rfl hsz0) ?_))
  refine (great_any w1 v c hl HC1.out.1).mono ?_
  rintro e w2 ⟨rfl, hb⟩
  have HC2 := hide (And.intro (show CaseAt w2.heap.size w2 v c from (HC1.out.1.alike hb.block).widen hb.size) (And.intro (show Blk w2 w.heap.size 29 (caseC v).toArray from HC1.out.2.1.below hb HC1.out.2.1.lt) (show Below w.heap.size w w2 from HC1.out.2.2.trans (Below.mono hb HC1.out.2.2.size))))
  clear hb
  dsimp only
  by_cases hg : 120 < c.size
  · have hd : decide (120 < c.size) = true := decide_eq_true hg
    rw [hd]
    go_wp2_with fail
    refine (awake24_any w2).mono ?_
    rintro e w9 ⟨rfl, hb⟩
    dsimp only
    have HE := hide (show Below w.heap.size w w9 from HC2.out.2.2.trans (Below.mono hb HC2.out.2.2.size))
    clear hb
    go_wp2_with fail
    go_ret
    exact ⟨rfl, HE.out⟩
  · have hd : decide (120 < c.size) = false := decide_eq_false hg
    rw [hd]
    have hc : c.size ≤ 120 := by omega
    clear hd hg
    by_cases hk : 120 < ks.length
    · have hk' : (ks.length : Int) > 120 := by omega
      go_wp2_with fail
      refine (awake24_any w2).mono ?_
      rintro e w9 ⟨rfl, hb⟩
      dsimp only
      have HE := hide (show Below w.heap.size w w9 from HC2.out.2.2.trans (Below.mono hb HC2.out.2.2.size))
      clear hb
      go_wp2_with fail
      go_ret
      exact ⟨rfl, HE.out⟩
    · have hk' : ¬ (ks.length : Int) > 120 := by omega
      have hk9 : ks.length ≤ 1000000 := by omega
      go_wp2_with (refine wpList_value (o := ⟨some 15, _, _, _, _, _⟩) rfl (.agg (caseC v).toArray) w2 (exec_load_blk (o := ⟨some 15, _, _, _, _, _⟩) 29 (.tmp 2) rfl w.heap.size rfl 29 _ _ w2 HC2.out.2.1 Try.underlying29 rfl hsz0) ?_)
      refine (lent_any w2 v c hc HC2.out.1).mono ?_
      rintro e w3 ⟨v', rfl, hc', hl', hb⟩
      have HC3 := hide (And.intro (show CaseAt w3.heap.size w3 v c from (HC2.out.1.alike hb.block).widen hb.size) (And.intro (show Blk w3 w.heap.size 29 (caseC v).toArray from HC2.out.2.1.below hb HC2.out.2.1.lt) (show Below w.heap.size w w3 from HC2.out.2.2.trans (Below.mono hb HC2.out.2.2.size))))
      have HV3 := hide (And.intro hc' hl')
      clear hb hc' hl'
      dsimp only
      go_wp2_with fail
      refine (lentInts_any ks hk9 A _ capk w.heap.size w3 HC3.out.2.2.size (intLay.alike HK.out fun b hb => HC3.out.2.2.block b hb)).mono ?_
      rintro e w4 ⟨g, rfl, _, hg4, hb⟩
      have HC4 := hide (And.intro (show CaseAt w4.heap.size w4 v c from (HC3.out.1.alike hb.block).widen hb.size) (And.intro (show Blk w4 w.heap.size 29 (caseC v).toArray from HC3.out.2.1.below hb HC3.out.2.1.lt) (show Below w.heap.size w w4 from HC3.out.2.2.trans (Below.mono hb HC3.out.2.2.size))))
      have HV4 := hide (And.intro (show CaseAt w4.heap.size w4 v' c from (HV3.out.1.alike hb.block).widen hb.size) (And.intro (HV3.out.2.below hb) hg4))
      clear hb hg4 HV3
      dsimp only
      have hov : okH v'.own := by rw [HV4.out.1.own]; exact HV4.out.1.okO
      have hszv := csz hov
      have hallv := case_all HV4.out.1
      go_wp2_with ((with_reducible refine wpList_box (o1 := ⟨some 5, _, _, _, _, _⟩) (o2 := ⟨none, _, _, _, _, _⟩) rfl rfl 29 (.tmp 5) (.tmp 16) ?_ zcL.toArray (caseC v').toArray ?_ hszv ?_ ?_ ?_ ?_ ?_); rfl; kernel_rfl; (simp only [List.size_toArray, caseC_len hov]; kernel_rfl); exact hallv; rfl; rfl; intro w5 hm5 hb5; have H5 := hide (And.intro hm5 hb5); clear hm5 hb5; simp only [Act.put, List.setIfInBounds_toArray, List.set_cons_zero, List.set_cons_succ])
      have HC5 := hide (And.intro (show CaseAt w5.heap.size w5 v c from (HC4.out.1.alike H5.out.2.block).widen H5.out.2.size) (And.intro (show Blk w5 w.heap.size 29 (caseC v).toArray from HC4.out.2.1.below H5.out.2 HC4.out.2.1.lt) (show Below w.heap.size w w5 from HC4.out.2.2.trans (Below.mono H5.out.2 HC4.out.2.2.size))))
      have HV5 := hide (And.intro (show CaseAt w5.heap.size w5 v' c from (HV4.out.1.alike H5.out.2.block).widen H5.out.2.size) (And.intro (HV4.out.2.1.below H5.out.2) (And.intro (show Blk w5 g 3 (ivz (ks ++ marksInt)).toArray from HV4.out.2.2.below H5.out.2 HV4.out.2.2.lt) H5.out.1)))
      have HK5 := hide (show intLay.At w5 w.heap.size [.slice A ks.length capk] ks from intLay.alike HK.out fun b hb => HC5.out.2.2.block b hb)
      clear H5 HV4 hallv
      have hL : ∀ p ∈ ([(23, fun u W => ∃ v2, u = .agg (caseC v2).toArray ∧ CaseAt W.heap.size W v2 c)] : Fre.MadeL), Fre.MadeOk Blw p.2 := by
        intro p hp
        simp only [List.mem_cons, List.not_mem_nil, or_false] at hp
        subst hp
        exact ⟨fun u W W' h hx => by obtain ⟨v2, e, h1⟩ := h; have hx : Below W.heap.size W W' := hx; exact ⟨v2, e, (h1.alike hx.block).widen hx.size⟩⟩
      refine Fre.wp_made (X := Blw) 20 [(23, fun u W => ∃ v2, u = .agg (caseC v2).toArray ∧ CaseAt W.heap.size W v2 c)] (by kernel_rfl) (by kernel_rfl) hL (by simp) (by simp only [List.map_cons, List.map_nil, List.forall_mem_cons]; exact ⟨Nat.le_of_ble_eq_true (by kernel_rfl), fun _ h => by cases h⟩) ?_
      simp only [List.take_succ_cons, List.take_zero, List.drop_succ_cons, List.drop_zero]
      refine Fre.made_val (.agg (caseC v').toArray) (by kernel_rfl) (by kernel_rfl) (by kernel_rfl) (fun W9 hW9 => exec_load_blk (o := ⟨some 19, _, _, _, _, _⟩) 29 (.tmp 5) rfl w4.heap.size rfl 29 _ _ W9 (by have h9 : Below _ w5 W9 := hW9; exact HV5.out.2.2.2.below h9 HV5.out.2.2.2.lt) Try.underlying29 rfl hszv) ?_
      simp only [Act.put, List.setIfInBounds_toArray, List.set_cons_zero, List.set_cons_succ]
      refine Fre.made_val (.slice (some ⟨g, 0, none⟩) ks.length (ks.length + 12)) (by kernel_rfl) (by kernel_rfl) (by kernel_rfl) (fun _ _ => by kernel_rfl) ?_
      simp only [Act.put, List.setIfInBounds_toArray, List.set_cons_zero, List.set_cons_succ]
      refine Fre.made_call (.bool (freeB c ks)) 20 #[.agg (caseC v').toArray, .slice (some ⟨g, 0, none⟩) ks.length (ks.length + 12)] (by kernel_rfl) (by kernel_rfl) (by kernel_rfl) (fun W9 => by kernel_rfl) (fun W9 hW9 => ?k21) ?_
      case k21 =>
        have h9 : Below _ w5 W9 := hW9
        exact (free_any W9 v' c hc ((HV5.out.1.alike h9.block).widen h9.size) ks hk9 _ (lent_ints (HV5.out.2.2.1.below h9 HV5.out.2.2.1.lt))).mono fun e w' ⟨h1, h2⟩ => ⟨h1, h2⟩
      simp only [Act.put, List.setIfInBounds_toArray, List.set_cons_zero, List.set_cons_succ]
      refine Fre.made_val (.agg (caseC v).toArray) (by kernel_rfl) (by kernel_rfl) (by kernel_rfl) (fun W9 hW9 => exec_load_blk (o := ⟨some 22, _, _, _, _, _⟩) 29 (.tmp 2) rfl w.heap.size rfl 29 _ _ W9 (by have h9 : Below _ w5 W9 := hW9; exact HC5.out.2.1.below h9 HC5.out.2.1.lt) Try.underlying29 rfl hsz0) ?_
      simp only [Act.put, List.setIfInBounds_toArray, List.set_cons_zero, List.set_cons_succ]
      refine Fre.made_newcall 23 _ 15 #[.agg (caseC v).toArray] (by kernel_rfl) (by kernel_rfl) rfl rfl (fun _ => by kernel_rfl) (fun W9 hW9 => ?k23) ?_
      case k23 =>
        have h9 : Below _ w5 W9 := hW9
        refine (rcase_any W9 v c hc ((HC5.out.1.alike h9.block).widen h9.size)).mono ?_
        rintro e w' ⟨v2, rfl, h1, h2⟩
        exact ⟨_, rfl, h2, v2, rfl, h1⟩
      simp only [Act.put, List.setIfInBounds_toArray, List.set_cons_zero, List.set_cons_succ]
      refine Fre.made_val (.slice A ks.length capk) (by kernel_rfl) (by kernel_rfl) (by kernel_rfl) (fun _ _ => by kernel_rfl) ?_
      simp only [Act.put, List.setIfInBounds_toArray, List.set_cons_zero, List.set_cons_succ]
      refine Fre.made_call1 23 _ (.bool (freeB c ks)) 21 (fun u => #[u, .slice A ks.length capk]) (by kernel_rfl) rfl (by kernel_rfl) (by kernel_rfl) (fun u W9 => by kernel_rfl) (fun u W9 hW9 hu => ?k25) ?_
      case k25 =>
        have h9 : Below _ w5 W9 := hW9
        obtain ⟨v2, rfl, h1⟩ := hu
        refine (rfree_any W9 v2 c hc h1 ks hk9 _ (intLay_ints (intLay.widen (intLay.alike HK5.out fun b hb => h9.block b (by have := HC5.out.2.2.size; omega)) (by have := HC5.out.2.2.size; have := h9.size; omega)))).mono ?_
        rintro e w' ⟨rfl, h2⟩
        exact ⟨rfl, h2⟩
      simp only [Act.put, List.setIfInBounds_toArray, List.set_cons_zero, List.set_cons_succ]
      refine Fre.made_val (.bool true) (by kernel_rfl) (by kernel_rfl) (by kernel_rfl) (fun W9 hW9 => ?c26) ?_
      case c26 =>
        go_simp
      simp only [Act.put, List.setIfInBounds_toArray, List.set_cons_zero, List.set_cons_succ]
      refine Fre.made_val (.bool true) (by kernel_rfl) (by kernel_rfl) (by kernel_rfl) (fun _ _ => by kernel_rfl) ?_
      simp only [Act.put, List.setIfInBounds_toArray, List.set_cons_zero, List.set_cons_succ]
      refine Fre.made_val (.agg (caseC v').toArray) (by kernel_rfl) (by kernel_rfl) (by kernel_rfl) (fun W9 hW9 => exec_load_blk (o := ⟨some 28, _, _, _, _, _⟩) 29 (.tmp 5) rfl w4.heap.size rfl 29 _ _ W9 (by have h9 : Below _ w5 W9 := hW9; exact HV5.out.2.2.2.below h9 HV5.out.2.2.2.lt) Try.underlying29 rfl hszv) ?_
      simp only [Act.put, List.setIfInBounds_toArray, List.set_cons_zero, List.set_cons_succ]
      refine Fre.made_val (.agg (caseC v).toArray) (by kernel_rfl) (by kernel_rfl) (by kernel_rfl) (fun W9 hW9 => exec_load_blk (o := ⟨some 29, _, _, _, _, _⟩) 29 (.tmp 2) rfl w.heap.size rfl 29 _ _ W9 (by have h9 : Below _ w5 W9 := hW9; exact HC5.out.2.1.below h9 HC5.out.2.1.lt) Try.underlying29 rfl hsz0) ?_
      simp only [Act.put, List.setIfInBounds_toArray, List.set_cons_zero, List.set_cons_succ]
      refine Fre.made_call (.bool true) 18 #[.agg (caseC v').toArray, .agg (caseC v).toArray] (by kernel_rfl) (by kernel_rfl) (by kernel_rfl) (fun W9 => by kernel_rfl) (fun W9 hW9 => ?k30) ?_
      case k30 =>
        have h9 : Below _ w5 W9 := hW9
        exact (kept_any W9 v' v c hc ((HV5.out.1.alike h9.block).widen h9.size) (HV5.out.2.1.below h9) ((HC5.out.1.alike h9.block).widen h9.size)).mono fun e w' ⟨h1, h2⟩ => ⟨h1, h2⟩
      simp only [Act.put, List.setIfInBounds_toArray, List.set_cons_zero, List.set_cons_succ]
      refine Fre.made_val (.bool true) (by kernel_rfl) (by kernel_rfl) (by kernel_rfl) (fun _ _ => by kernel_rfl) ?_
      simp only [Act.put, List.setIfInBounds_toArray, List.set_cons_zero, List.set_cons_succ]
      refine Fre.made_val (.bool true) (by kernel_rfl) (by kernel_rfl) (by kernel_rfl) (fun _ _ => by kernel_rfl) ?_
      simp only [Act.put, List.setIfInBounds_toArray, List.set_cons_zero, List.set_cons_succ]
      refine Fre.made_val (.slice (some ⟨g, 0, none⟩) ks.length (ks.length + 12)) (by kernel_rfl) (by kernel_rfl) (by kernel_rfl) (fun _ _ => by kernel_rfl) ?_
      simp only [Act.put, List.setIfInBounds_toArray, List.set_cons_zero, List.set_cons_succ]
      refine Fre.made_val (.slice A ks.length capk) (by kernel_rfl) (by kernel_rfl) (by kernel_rfl) (fun _ _ => by kernel_rfl) ?_
      simp only [Act.put, List.setIfInBounds_toArray, List.set_cons_zero, List.set_cons_succ]
      refine Fre.made_call (.bool true) 22 #[.slice (some ⟨g, 0, none⟩) ks.length (ks.length + 12), .slice A ks.length capk] (by kernel_rfl) (by kernel_rfl) (by kernel_rfl) (fun W9 => by kernel_rfl) (fun W9 hW9 => ?k35) ?_
      case k35 =>
        have h9 : Below _ w5 W9 := hW9
        refine (keptInts_any ks hk9 _ g W9.heap.size W9 (intLay_ints (intLay.widen (intLay.alike HK5.out fun b hb => h9.block b (by have := HC5.out.2.2.size; omega)) (by have := HC5.out.2.2.size; have := h9.size; omega))) (HV5.out.2.2.1.below h9 HV5.out.2.2.1.lt)).mono ?_
        rintro e w' ⟨rfl, k, rfl⟩
        exact ⟨rfl, below_drewN (Below.refl _ W9) k⟩
      simp only [Act.put, List.setIfInBounds_toArray, List.set_cons_zero, List.set_cons_succ]
      refine Fre.made_val (.bool true) (by kernel_rfl) (by kernel_rfl) (by kernel_rfl) (fun _ _ => by kernel_rfl) ?_
      simp only [Act.put, List.setIfInBounds_toArray, List.set_cons_zero, List.set_cons_succ]
      refine Fre.made_val (.bool true) (by kernel_rfl) (by kernel_rfl) (by kernel_rfl) (fun _ _ => by kernel_rfl) ?_
      simp only [Act.put, List.setIfInBounds_toArray, List.set_cons_zero, List.set_cons_succ]
      refine Fre.made_call (.bool true) 11 #[] (by kernel_rfl) (by kernel_rfl) (by kernel_rfl) (fun W9 => by kernel_rfl) (fun W9 hW9 => ?k38) ?_
      case k38 =>
        have h9 : Below _ w5 W9 := hW9
        exact (awake24_any W9).mono fun e w' ⟨h1, h2⟩ => ⟨h1, h2⟩
      simp only [Act.put, List.setIfInBounds_toArray, List.set_cons_zero, List.set_cons_succ]
      show ∀ w', _ → _
      intro w6 hx6
      simp only [Fre.ended]
      intro u23 _
      simp only [Act.put, List.setIfInBounds_toArray, List.set_cons_zero, List.set_cons_succ]
      have HE := hide (show Below w.heap.size w w6 from HC5.out.2.2.trans (Below.mono (show Below w5.heap.size w5 w6 from hx6) HC5.out.2.2.size))
      clear hx6 hL
      go_wp2_with fail
      go_ret
      exact ⟨rfl, HE.out⟩
end Go.Proofs.Ytfppddnfdinipaa
end
section
namespace Go.Proofs.Ytfppddnfdinipaa
open Go Go.RowKit Go.Maps
set_option maxRecDepth 100000
theorem tryB_len {own : Hsh} {fuel : Int} {h : Hsh} {ps : List Pth} {of : List Mde} {go : List Pth → List Mde → Int → Res × Int} {m : Nat} (hg : ∀ ps of n, (go ps of n).1.row.length ≤ m) : ∀ (os : List Opt) (k : Nat) (n : Int), (tryB own fuel h ps of go k os n).1.row.length ≤ m + 1
  | [], _, _ => Nat.zero_le _
  | x :: xs, k, n => by
    unfold tryB
    have key : ∀ r : Res × Int, r.1.row.length ≤ m → (match r with
        | (.conflict, m) => tryB own fuel h ps of go (k + 1) xs m
        | (.fuel, m) => (.fuel, m)
        | (.ok l, m) => (.ok (k :: l), m) : Res × Int).1.row.length ≤ m + 1 := by
      rintro ⟨r, j⟩ hr
      cases r with
      | ok l => exact Nat.succ_le_succ hr
      | fuel => exact Nat.zero_le _
      | conflict => exact tryB_len hg xs (k + 1) j
    refine key _ ?_
    split
    · exact Nat.zero_le _
    · split
      · exact hg _ _ _
      · exact Nat.zero_le _
theorem fromB_len {own : Hsh} {fuel : Int} : ∀ (rows : List (Hsh × List Opt)) (ps : List Pth) (of : List Mde) (n : Int), (fromB own fuel rows ps of n).1.row.length ≤ rows.length
  | [], _, _, _ => Nat.zero_le _
  | (_, os) :: rows, _, _, n => tryB_len (fun ps of n => fromB_len rows ps of n) os 0 n
theorem least_len {c : CaseP} (hc : c.size ≤ 120) (f : Int) : (leastB c f).1.length ≤ 1000000 := by
  have h := (CaseP.bounds hc).2.2.2.2.2.1
  unfold leastB
  split
  · exact Nat.zero_le _
  · split
    · exact Nat.zero_le _
    · split
      · have := fromB_len (own := c.own) (fuel := max f 0) (c.cls.zip c.opts) c.fixed c.of 0
        rw [List.length_zip] at this
        dsimp only
        omega
      · exact Nat.zero_le _
end Go.Proofs.Ytfppddnfdinipaa
end
