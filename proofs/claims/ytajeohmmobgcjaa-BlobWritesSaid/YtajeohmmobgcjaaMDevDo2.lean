/- spencelaw04: a deed is the same of both. -/
import Derived.Test.YtajeohmmobgcjaaMDevDo
import Derived.Test.YtajeohmmobgcjaaMPick
import Derived.Test.YtajeohmmobgcjaaMLentKept
import Derived.Deep.RegionHeld3
namespace Go.Proofs.Ytajeohmmobgcjaa
open Go Go.RowKit
/-- a deed more, at most -/
structure Grows (D D' : Dv) : Prop where
  kept : D'.kept.length = D.kept.length
  pend : D'.pend.length ≤ D.pend.length + 1
  de : D'.de ≤ D.de + 1
theorem Grows.refl (D : Dv) : Grows D D := ⟨rfl, by omega, by omega⟩
theorem tick_de (de fu : Int) (dn : Bool) : (tick de fu dn).2.1 ≤ de + 1 := by
  unfold tick
  split
  · show de ≤ de + 1; omega
  · split <;> exact Int.le_refl _
theorem grows_write (D : Dv) (x : Int) (l : List UInt8) : Grows D (D.write x l).2 := by
  unfold Dv.write
  split
  · exact .refl D
  · split
    · exact .refl D
    · refine ⟨rfl, ?_, tick_de _ _ _⟩
      show (if _ then _ else _ : List _).length ≤ _
      split <;> simp
theorem grows_flush (D : Dv) : Grows D D.flush.2 := by
  unfold Dv.flush
  split
  · exact .refl D
  · refine ⟨?_, ?_, tick_de _ _ _⟩
    · show (if _ then _ else _ : List _).length = _
      split <;> simp [settle_len]
    · show (if _ then _ else _ : List _).length ≤ _
      split <;> simp
theorem grows_fuse (D : Dv) (x : Int) : Grows D (D.fuse x).2 := by
  unfold Dv.fuse
  split
  · exact .refl D
  · exact ⟨rfl, by simp, by show D.de ≤ D.de + 1; omega⟩
theorem grows_crash (D : Dv) : Grows D D.crash.2 := by
  unfold Dv.crash
  split
  · exact .refl D
  · exact ⟨rfl, by simp, by show D.de ≤ D.de + 1; omega⟩
theorem grows_wake (D : Dv) (x : Int) : Grows D (D.wake x).2 := by
  unfold Dv.wake
  split
  · exact ⟨settle_len .., by simp, by show D.de ≤ D.de + 1; omega⟩
  · exact .refl D
theorem grows_spoil (D : Dv) (x b : Int) : Grows D (D.spoil x b).2 := by
  unfold Dv.spoil
  split
  · exact ⟨by simp, by simp, by show D.de ≤ D.de + 1; omega⟩
  · exact .refl D
/-- what a deed of both leaves -/
def Done (R : Nat) (w0 : World) (g r : Nat) (D : Dv) (w' : World) : Prop := ∃ Fd' Fr' D', Two R w0 w' Fd' Fr' g r D' D' ∧ Grows D D'
section
variable {R g r : Nat} {w0 w w' : World} {Fd Fr : Nat → Prop} {D E D' E' : Dv}
theorem Two.dev2 (h : Two R w0 w Fd Fr g r D E) (hR : R ≤ w0.heap.size) (hl : Left w Fd g D' w') : ∃ F', Two R w0 w' F' Fr g r D' E ∧ ∀ q, q < w.heap.size → ¬ Fd q → w'.heap[q]? = w.heap[q]? ∧ ¬ F' q := by
  obtain ⟨F', h1, h2, h3⟩ := h.mine.deal2 hR hl
  refine ⟨F', ⟨h1, h.ref.keep h2.size fun k hk hf => h2.block k hk fun hd => h.apart k hd hf, h.low, fun k hk hf => ?_⟩, fun q hq hn => ⟨h2.block q hq hn, fun hf => ?_⟩⟩
  · rcases h3 k hk with hd | hn
    · exact h.apart k hd hf
    · have := h.ref.lt k hf; omega
  · rcases h3 q hf with hd | hd
    · exact hn hd
    · omega
theorem Two.doc2 (h : Two R w0 w Fd Fr g r D E) (hR : R ≤ w0.heap.size) (hl : RLeft w Fr r E' w') : ∃ F', Two R w0 w' Fd F' g r D E' ∧ ∀ q, q < w.heap.size → ¬ Fr q → w'.heap[q]? = w.heap[q]? ∧ ¬ F' q := by
  obtain ⟨F', h1, h2, h3⟩ := hl
  have hs := h.mine.bel.size
  refine ⟨F', ⟨⟨h.mine.dev.keep fun k hk hf => h2.block k hk fun hr => h.apart k hf hr, ⟨h2.os.trans h.mine.bel.os, h2.tape.trans h.mine.bel.tape, h2.output.trans h.mine.bel.output, Nat.le_trans hs h2.size, fun k hk => (h2.block k (by omega) (fun hf => by have := h.low k hf; omega)).trans (h.mine.bel.block k hk)⟩, h.mine.low⟩, h1, fun k hk => ?_, fun k hk hf => ?_⟩, fun q hq hn => ⟨h2.block q hq hn, fun hf => ?_⟩⟩
  · rcases h3 k hk with h3 | h3
    · exact h.low k h3
    · omega
  · rcases h3 k hf with hr | hn
    · exact h.apart k hk hr
    · have := h.mine.dev.lt k hk; omega
  · rcases h3 q hf with hd | hd
    · exact hn hd
    · omega
theorem Two.turn (h : Two R w0 w Fd Fr g r D E) (hR : R ≤ w0.heap.size) {q : Nat} (hd : ¬ Fd q) (hr : ¬ Fr q) (hq : R ≤ q) (ht : Turned (fun k => k = q) w w') : Two R w0 w' Fd Fr g r D E := by
  have hs := h.mine.bel.size
  refine ⟨⟨h.mine.dev.keep fun k hk hf => ht.block k hk (fun e => hd (by rw [← show k = q from e]; exact hf)), ⟨ht.os.trans h.mine.bel.os, ht.tape.trans h.mine.bel.tape, ht.output.trans h.mine.bel.output, Nat.le_trans hs ht.size, fun k hk => (ht.block k (by omega) (fun e => by have e : k = q := e; omega)).trans (h.mine.bel.block k hk)⟩, h.mine.low⟩, h.ref.keep ht.size fun k hk hf => ht.block k hk (fun e => hr (by rw [← show k = q from e]; exact hf)), h.low, h.apart⟩
theorem lent_src {q n : Nat} {l : List UInt8} (hb : Blk w q 5 (bv (l ++ marks)).toArray) (hn : l.length = n) : Src w (some ⟨q, 0, none⟩) n (n + 12) (bv l) :=
  ⟨by rw [bvL, hn], (fun h => (by cases h)), bv1 l, fun ad had j u hu => by
    injection had with had
    subst had
    rw [Addr.add_mid, Nat.zero_add, hb.cell]
    have hj : j < (bv l).length := (List.getElem?_eq_some_iff.1 hu).1
    rw [bvA, List.getElem?_toArray, List.getElem?_append_left hj]
    exact hu⟩
theorem lent_own {q : Nat} {l : List UInt8} (hb : Blk w q 5 (bv (l ++ marks)).toArray) (hl : l.length ≤ 10000) : w.ownsRow 0 5 1 (.slice (some ⟨q, 0, none⟩) l.length (l.length + 12)) l.length (bv l) := by
  have hm : marks.length = 12 := by simp [marks]
  refine ⟨by rw [bvL]; omega, .inr ⟨q, l.length + 12, _, rfl, Nat.zero_le _, hb, by omega, by simp only [maxLen]; omega, ?_, ?_⟩⟩
  · rw [List.size_toArray, bvL, List.length_append, hm]
    omega
  · show (bv (l ++ marks)).take (l.length * 1) = bv l
    rw [bvA, Nat.mul_one, List.take_left' (bvL l)]
theorem keep_cell {q i : Nat} {v : Value} (hq : w'.heap[q]? = w.heap[q]?) (hc : w.cell? ⟨q, i, none⟩ = some v) : w'.cell? ⟨q, i, none⟩ = some v := (World.cell?_of_block hq).trans hc
theorem heap_lt {q : Nat} (h : w'.heap[q]? = w.heap[q]?) (hq : q < w.heap.size) : q < w'.heap.size := by
  rcases Nat.lt_or_ge q w'.heap.size with h2 | h2
  · exact h2
  · rw [Array.getElem?_eq_none h2, Array.getElem?_eq_getElem hq] at h
    cases h
end
set_option maxRecDepth 100000
section
variable {R g r : Nat} {w0 : World} {Fd Fr : Nat → Prop} {D : Dv}
set_option maxHeartbeats 2000000 in
theorem does_any (w : World) (h : Two R w0 w Fd Fr g r D D) (hR : R ≤ w0.heap.size) (hde : D.de ≤ 100000000) (hm : D.pend.length ≤ 100000) (x : Deed) (Ab : Option Addr) (cb : Nat) (hby : BytesAt w R (.slice Ab x.b.length cb) x.b) (hnil : Ab = none → cb = 0) (hw : i64 x.what) (hn : i64 x.n) (hbit : i64 x.most) (hl : x.b.length ≤ 10000) :
    Calls Try.prog 38 #[.pointer (some ⟨g, 0, none⟩), .pointer (some ⟨r, 0, none⟩), .agg #[.int .i64 x.what, .int .i64 x.n, .int .i64 x.most, .slice Ab x.b.length cb]] w fun e w' => e = .returned (.bool true) ∧ Done R w0 g r D w' := by
  have hRw : R ≤ w.heap.size := by have := h.mine.bel.size; omega
  have h00 := h.mine.bel
  have HB := hide (And.intro hby hnil)
  have hbx0 := Blk.new w 50 #[.int .i64 x.what, .int .i64 x.n, .int .i64 x.most, .slice Ab x.b.length cb]
  have hB0 : Below w.heap.size w (w.alloc (.cells #[.int .i64 x.what, .int .i64 x.n, .int .i64 x.most, .slice Ab x.b.length cb] 50)) := (Below.refl _ _).alloc (Nat.le_refl _) _
  have hT0 := h.grow hR hB0
  have hby0 := hby.alike (alike_of_below (Below.mono hB0 hRw))
  have hnd := h.mine.new (Nat.le_refl w.heap.size)
  have hnr : ¬ Fr w.heap.size := fun hf => by have := h.ref.lt _ hf; omega
  obtain ⟨w1, hw1⟩ : ∃ w1, w1 = w.alloc (.cells #[.int .i64 x.what, .int .i64 x.n, .int .i64 x.most, .slice Ab x.b.length cb] 50) := ⟨_, rfl⟩
  rw [← hw1] at hbx0 hB0 hT0 hby0
  have c0 := hbx0.cell 0
  have c1 := hbx0.cell 1
  have c2 := hbx0.cell 2
  have c3 := hbx0.cell 3
  simp only [List.getElem?_toArray, List.getElem?_cons_succ, List.getElem?_cons_zero] at c0 c1 c2 c3
  have hlt := hbx0.lt
  have H0 := hide (And.intro hbx0 (And.intro hT0 (And.intro hby0 (And.intro hnd hnr))))
  have HW1 := hide hw1
  have hRw1 : R ≤ w1.heap.size := by have := hB0.size; omega
  clear hby hnil hbx0 hB0 hT0 hby0 h hnd hnr hw1
  go_enter Try.func38, Try.ntmps38
  go_wp2_with fail
  rw [← HW1.out]
  refine (pick_any x.what 8 _ (by omega) (by omega) hw).mono ?_
  rintro e w' ⟨rfl, rfl⟩
  obtain ⟨k, hk⟩ : ∃ k, k = x.what % 8 := ⟨_, rfl⟩
  rw [← hk]
  have hk8 : k = 0 ∨ k = 1 ∨ k = 2 ∨ k = 3 ∨ k = 4 ∨ k = 5 ∨ k = 6 ∨ k = 7 := by omega
  clear hk HW1
  rcases hk8 with rfl | rfl | rfl | rfl | rfl | rfl | rfl | rfl
  all_goals dsimp only
  · go_wp2_with fail
    have hcase : Hid (D.dn = true) ∨ Hid (D.dn = false) := by
      cases D.dn
      · exact .inr rfl
      · exact .inl rfl
    rcases hcase with HDN | HDN
    · refine (read_down x.n _ H0.out.2.1.mine.dev HDN.out).mono ?_
      rintro e w4 ⟨rfl, hb4⟩
      have hk4 : w4.heap[w.heap.size]? = w1.heap[w.heap.size]? := hb4.block _ hlt
      have d1 := keep_cell hk4 c1
      have hlt4 := heap_lt hk4 hlt
      have H5 := hide (H0.out.2.1.grow hR hb4)
      clear hb4 hk4
      dsimp only
      go_wp2_with fail
      refine (rread_down x.n w4 H5.out.ref HDN.out).mono ?_
      rintro e w5 ⟨rfl, rfl⟩
      dsimp only
      go_wp2_with fail
      refine (sameBytes_any [] [] (by simp) (by simp) _ _ _ _ (nil_bytes w5) (nil_bytes w5)).mono ?_
      rintro e w6 ⟨rfl, k6, hw6⟩
      have hT6 := H5.out.grow hR (show Below w5.heap.size w5 w6 by rw [hw6]; exact below_drewN (Below.refl _ _) _)
      rw [decide_eq_true rfl]
      have H6 := hide hT6
      clear hT6 hw6
      dsimp only
      go_wp2_with fail
      refine (overBytes_any 0 0 (by omega) (.slice none 0 0) [] w6 ⟨rfl, .inl ⟨rfl, rfl⟩⟩).mono ?_
      rintro e w7 ⟨rfl, ht7⟩
      have H7 := hide (H6.out.grow hR ⟨ht7.os, ht7.tape, ht7.output, ht7.size, fun k hk => ht7.block k hk (fun e => by cases e)⟩)
      clear ht7
      dsimp only
      go_wp2_with fail
      go_ret
      exact ⟨rfl, Fd, Fr, D, H7.out, .refl D⟩
    · by_cases hin : 0 ≤ x.n ∧ x.n < (D.kept.length : Int)
      · obtain ⟨y, hy⟩ : ∃ y : Nat, x.n = (y : Int) := ⟨x.n.toNat, by omega⟩
        have hok : D.Ok := by
          obtain ⟨rk, c, vp, _, _, _, _, hok⟩ := H0.out.2.1.mine.dev
          exact hok
        have hyl : y < D.kept.length := by omega
        have hrl := read_len hok y hyl
        have hrl2 : (D.read y).length ≤ 1099511627776 := by omega
        have HY := hide hy
        rw [hy] at c1 ⊢
        clear hok hy hin
        refine (readDev_any y hyl _ H0.out.2.1.mine.dev HDN.out (by omega)).mono ?_
        rintro e w4 ⟨v4, rfl, ho4, hb4⟩
        have hk4 : w4.heap[w.heap.size]? = w1.heap[w.heap.size]? := hb4.block _ hlt
        have d1 := keep_cell hk4 c1
        have hlt4 := heap_lt hk4 hlt
        have H5 := hide (And.intro (H0.out.2.1.grow hR hb4) ho4)
        clear hb4 hk4 ho4
        dsimp only
        go_wp2_with fail
        refine (rread_ok y hyl w4 H5.out.1.ref HDN.out hm).mono ?_
        rintro e w5 ⟨v5, rfl, ho5, hb5⟩
        have ho45 := owned_keepN H5.out.2 (w' := w5) fun k _ hl => hb5.block k hl
        have hby4 : BytesAt w5 w5.heap.size v4 (D.read y) := by
          have h := ho45
          rw [← hrl] at h
          exact bytesAt_owned h
        have hby5 : BytesAt w5 w5.heap.size v5 (D.read y) := by
          have h := ho5
          rw [← hrl] at h
          exact bytesAt_owned h
        have H6 := hide (And.intro (H5.out.1.grow hR hb5) (And.intro ho45 (And.intro hby4 hby5)))
        clear hb5 ho5 hby4 hby5 ho45
        dsimp only
        go_wp2_with fail
        refine (sameBytes_any (D.read y) (D.read y) hrl2 hrl2 _ _ _ _ H6.out.2.2.1 H6.out.2.2.2).mono ?_
        rintro e w6 ⟨rfl, k6, hw6⟩
        have hb6 : Below w5.heap.size w5 w6 := by rw [hw6]; exact below_drewN (Below.refl _ _) _
        rw [decide_eq_true rfl]
        have H7 := hide (And.intro (H6.out.1.grow hR hb6) (owned_keepN H6.out.2.1 (w' := w6) fun k _ hl => hb6.block k hl))
        clear hb6 hw6
        dsimp only
        go_wp2_with fail
        refine (overBytes_any _ 64 (by omega) v4 _ w6 H7.out.2).mono ?_
        rintro e w7 ⟨rfl, ht7⟩
        obtain ⟨q4, cap4, hv4⟩ := owned_placeN H7.out.2 (by omega)
        have hq4 := (owned_ltN H7.out.2 (g := q4) (by rw [hv4]; rfl)).1
        have hT7 := H7.out.1.turn hR (q := q4) (fun hf => by have := H0.out.2.1.mine.dev.lt q4 hf; omega) (fun hf => by have := H0.out.2.1.ref.lt q4 hf; omega) (by omega) (ht7.mono fun k _ h => by
          rw [hv4] at h
          have h : some q4 = some k := h
          injection h with h
          exact h.symm)
        have H8 := hide hT7
        clear ht7 hT7 hv4 hq4
        dsimp only
        go_wp2_with fail
        go_ret
        exact ⟨rfl, Fd, Fr, D, H8.out, .refl D⟩
      · have hout : x.n < 0 ∨ (D.kept.length : Int) ≤ x.n := by omega
        refine (read_out x.n hn hin _ H0.out.2.1.mine.dev HDN.out).mono ?_
        rintro e w4 ⟨rfl, hb4⟩
        have hk4 : w4.heap[w.heap.size]? = w1.heap[w.heap.size]? := hb4.block _ hlt
        have d1 := keep_cell hk4 c1
        have hlt4 := heap_lt hk4 hlt
        have H5 := hide (H0.out.2.1.grow hR hb4)
        clear hb4 hk4
        dsimp only
        go_wp2_with fail
        refine (rread_out x.n hout w4 H5.out.ref HDN.out).mono ?_
        rintro e w5 ⟨rfl, rfl⟩
        dsimp only
        go_wp2_with fail
        refine (sameBytes_any [] [] (by simp) (by simp) _ _ _ _ (nil_bytes w5) (nil_bytes w5)).mono ?_
        rintro e w6 ⟨rfl, k6, hw6⟩
        have hT6 := H5.out.grow hR (show Below w5.heap.size w5 w6 by rw [hw6]; exact below_drewN (Below.refl _ _) _)
        rw [decide_eq_true rfl]
        have H6 := hide hT6
        clear hT6 hw6
        dsimp only
        go_wp2_with fail
        refine (overBytes_any 0 0 (by omega) (.slice none 0 0) [] w6 ⟨rfl, .inl ⟨rfl, rfl⟩⟩).mono ?_
        rintro e w7 ⟨rfl, ht7⟩
        have H7 := hide (H6.out.grow hR ⟨ht7.os, ht7.tape, ht7.output, ht7.size, fun k hk => ht7.block k hk (fun e => by cases e)⟩)
        clear ht7
        dsimp only
        go_wp2_with fail
        go_ret
        exact ⟨rfl, Fd, Fr, D, H7.out, .refl D⟩
  · go_wp2_with fail
    refine (lentBytes_any x.b (by omega) Ab x.b.length cb R _ hRw1 H0.out.2.2.1 (bytes_nil H0.out.2.2.1 HB.out.2)).mono ?_
    rintro e w2 ⟨q, rfl, hq, hbq, hb2⟩
    have hk1 : w2.heap[w.heap.size]? = w1.heap[w.heap.size]? := hb2.block _ hlt
    have d1 := keep_cell hk1 c1
    have d3 := keep_cell hk1 c3
    have hT2 := H0.out.2.1.grow hR hb2
    have hqd : ¬ Fd q := fun hf => by have := H0.out.2.1.mine.dev.lt q hf; omega
    have hqr : ¬ Fr q := fun hf => by have := H0.out.2.1.ref.lt q hf; omega
    have hlt2 : w.heap.size < w2.heap.size := heap_lt hk1 hlt
    have hq2 := hbq.lt
    have H2 := hide (And.intro hT2 (And.intro hqd (And.intro hqr (And.intro hbq (And.intro (lent_src hbq rfl) (And.intro hq hq2))))))
    clear hT2 hqd hqr hbq hb2 hk1 hq hq2
    dsimp only
    go_wp2_with fail
    refine (write_any x.n x.b (some ⟨q, 0, none⟩) (x.b.length + 12) _ H2.out.1.mine.dev (by omega) hm hn (by omega) H2.out.2.2.2.2.1 (fun ad ha _ => by injection ha with ha; subst ha; exact H2.out.2.1)).mono ?_
    rintro e w3 ⟨rfl, hL⟩
    obtain ⟨F3, hT3, hq3⟩ := H2.out.1.dev2 hR hL
    have hk3 := hq3 w.heap.size hlt2 (H0.out.2.2.2.1)
    have e1 := keep_cell hk3.1 d1
    have e3 := keep_cell hk3.1 d3
    have hqq := hq3 q H2.out.2.2.2.2.2.2 H2.out.2.1
    have hby3 := HB.out.1.alike (fun k hk => hT3.mine.bel.block k hk |>.trans (h00.block k hk).symm)
    have H3 := hide (And.intro hT3 (And.intro hqq.2 (And.intro (show Blk w3 q 5 (bv (x.b ++ marks)).toArray from hqq.1.trans H2.out.2.2.2.1) (And.intro hby3 (heap_lt hk3.1 hlt2)))))
    clear hL hT3 hq3 hqq hby3 hk3
    dsimp only
    go_wp2_with fail
    refine (keptBytes_any x.b (by omega) Ab x.b.length cb q R _ H3.out.2.2.2.1 H3.out.2.2.1).mono ?_
    rintro e w4 ⟨rfl, k4, hw4⟩
    have hb4 : Below w3.heap.size w3 w4 := by rw [hw4]; exact below_drewN (Below.refl _ _) _
    have hk4 : w4.heap[w.heap.size]? = w3.heap[w.heap.size]? := hb4.block _ H3.out.2.2.2.2
    have f1 := keep_cell hk4 e1
    have f3 := keep_cell hk4 e3
    have hlt4 := heap_lt hk4 H3.out.2.2.2.2
    have H4 := hide (And.intro (H3.out.1.grow hR hb4) (lent_own (H3.out.2.2.1.below hb4 H3.out.2.2.1.lt) hl))
    clear hb4 hw4 hk4
    dsimp only
    go_wp2_with fail
    refine (overBytes_any 0 x.b.length (by omega) _ _ w4 H4.out.2).mono ?_
    rintro e w5 ⟨rfl, ht5⟩
    have ht5 : Turned (fun k => k = q) w4 w5 := ht5.mono fun k _ h => by
      have h : some q = some k := h
      injection h with h
      exact h.symm
    have hk5 : w5.heap[w.heap.size]? = w4.heap[w.heap.size]? := ht5.block _ hlt4 (fun e => by have e : w.heap.size = q := e; have := H2.out.2.2.2.2.2.1; omega)
    have g1 := keep_cell hk5 f1
    have g3 := keep_cell hk5 f3
    have hT5 := H4.out.1.turn hR H3.out.2.1 H2.out.2.2.1 (by have := H2.out.2.2.2.2.2.1; omega) ht5
    have hby5 := HB.out.1.alike (fun k hk => hT5.mine.bel.block k hk |>.trans (h00.block k hk).symm)
    have H5 := hide (And.intro hT5 (bv_src hby5 HB.out.2))
    have hlt5 := heap_lt hk5 hlt4
    clear ht5 hk5 hT5 hby5
    dsimp only
    go_wp2_with fail
    refine (rwrite_any x.n x.b Ab cb _ H5.out.1.ref (by omega) hm hn (by omega) H5.out.2 (fun ad ha h0 hf => ?_)).mono ?_
    · obtain ⟨_, _, hv, _, hA⟩ := HB.out.1
      injection hv with e1 _ _
      obtain ⟨b, off, e, hlt, _⟩ := hA h0
      rw [← e1, ha] at e
      injection e with e
      have := H5.out.1.low _ hf
      rw [e] at this
      have : R ≤ b := this
      omega
    rintro e w6 ⟨rfl, hL⟩
    obtain ⟨F6, hT6⟩ := H5.out.1.doc hR hL
    have H6 := hide hT6
    clear hL hT6
    dsimp only
    go_wp2_with fail
    go_ret
    exact ⟨ret_bool (by simp), F3, F6, _, H6.out, grows_write D x.n x.b⟩
  · go_wp2_with fail
    refine (lentBytes_any x.b (by omega) Ab x.b.length cb R _ hRw1 H0.out.2.2.1 (bytes_nil H0.out.2.2.1 HB.out.2)).mono ?_
    rintro e w2 ⟨q, rfl, hq, hbq, hb2⟩
    have hk1 : w2.heap[w.heap.size]? = w1.heap[w.heap.size]? := hb2.block _ hlt
    have d1 := keep_cell hk1 c1
    have d3 := keep_cell hk1 c3
    have hT2 := H0.out.2.1.grow hR hb2
    have hqd : ¬ Fd q := fun hf => by have := H0.out.2.1.mine.dev.lt q hf; omega
    have hqr : ¬ Fr q := fun hf => by have := H0.out.2.1.ref.lt q hf; omega
    have hlt2 : w.heap.size < w2.heap.size := heap_lt hk1 hlt
    have hq2 := hbq.lt
    have H2 := hide (And.intro hT2 (And.intro hqd (And.intro hqr (And.intro hbq (And.intro (lent_src hbq rfl) (And.intro hq hq2))))))
    clear hT2 hqd hqr hbq hb2 hk1 hq hq2
    dsimp only
    go_wp2_with fail
    refine (write_any x.n x.b (some ⟨q, 0, none⟩) (x.b.length + 12) _ H2.out.1.mine.dev (by omega) hm hn (by omega) H2.out.2.2.2.2.1 (fun ad ha _ => by injection ha with ha; subst ha; exact H2.out.2.1)).mono ?_
    rintro e w3 ⟨rfl, hL⟩
    obtain ⟨F3, hT3, hq3⟩ := H2.out.1.dev2 hR hL
    have hk3 := hq3 w.heap.size hlt2 (H0.out.2.2.2.1)
    have e1 := keep_cell hk3.1 d1
    have e3 := keep_cell hk3.1 d3
    have hqq := hq3 q H2.out.2.2.2.2.2.2 H2.out.2.1
    have hby3 := HB.out.1.alike (fun k hk => hT3.mine.bel.block k hk |>.trans (h00.block k hk).symm)
    have H3 := hide (And.intro hT3 (And.intro hqq.2 (And.intro (show Blk w3 q 5 (bv (x.b ++ marks)).toArray from hqq.1.trans H2.out.2.2.2.1) (And.intro hby3 (heap_lt hk3.1 hlt2)))))
    clear hL hT3 hq3 hqq hby3 hk3
    dsimp only
    go_wp2_with fail
    refine (keptBytes_any x.b (by omega) Ab x.b.length cb q R _ H3.out.2.2.2.1 H3.out.2.2.1).mono ?_
    rintro e w4 ⟨rfl, k4, hw4⟩
    have hb4 : Below w3.heap.size w3 w4 := by rw [hw4]; exact below_drewN (Below.refl _ _) _
    have hk4 : w4.heap[w.heap.size]? = w3.heap[w.heap.size]? := hb4.block _ H3.out.2.2.2.2
    have f1 := keep_cell hk4 e1
    have f3 := keep_cell hk4 e3
    have hlt4 := heap_lt hk4 H3.out.2.2.2.2
    have H4 := hide (And.intro (H3.out.1.grow hR hb4) (lent_own (H3.out.2.2.1.below hb4 H3.out.2.2.1.lt) hl))
    clear hb4 hw4 hk4
    dsimp only
    go_wp2_with fail
    refine (overBytes_any 0 x.b.length (by omega) _ _ w4 H4.out.2).mono ?_
    rintro e w5 ⟨rfl, ht5⟩
    have ht5 : Turned (fun k => k = q) w4 w5 := ht5.mono fun k _ h => by
      have h : some q = some k := h
      injection h with h
      exact h.symm
    have hk5 : w5.heap[w.heap.size]? = w4.heap[w.heap.size]? := ht5.block _ hlt4 (fun e => by have e : w.heap.size = q := e; have := H2.out.2.2.2.2.2.1; omega)
    have g1 := keep_cell hk5 f1
    have g3 := keep_cell hk5 f3
    have hT5 := H4.out.1.turn hR H3.out.2.1 H2.out.2.2.1 (by have := H2.out.2.2.2.2.2.1; omega) ht5
    have hby5 := HB.out.1.alike (fun k hk => hT5.mine.bel.block k hk |>.trans (h00.block k hk).symm)
    have H5 := hide (And.intro hT5 (bv_src hby5 HB.out.2))
    have hlt5 := heap_lt hk5 hlt4
    clear ht5 hk5 hT5 hby5
    dsimp only
    go_wp2_with fail
    refine (rwrite_any x.n x.b Ab cb _ H5.out.1.ref (by omega) hm hn (by omega) H5.out.2 (fun ad ha h0 hf => ?_)).mono ?_
    · obtain ⟨_, _, hv, _, hA⟩ := HB.out.1
      injection hv with e1 _ _
      obtain ⟨b, off, e, hlt, _⟩ := hA h0
      rw [← e1, ha] at e
      injection e with e
      have := H5.out.1.low _ hf
      rw [e] at this
      have : R ≤ b := this
      omega
    rintro e w6 ⟨rfl, hL⟩
    obtain ⟨F6, hT6⟩ := H5.out.1.doc hR hL
    have H6 := hide hT6
    clear hL hT6
    dsimp only
    go_wp2_with fail
    go_ret
    exact ⟨ret_bool (by simp), F3, F6, _, H6.out, grows_write D x.n x.b⟩
  · go_wp2_with fail
    refine (flush_any _ H0.out.2.1.mine.dev (by omega) hm).mono ?_
    rintro e w2 ⟨rfl, hL⟩
    obtain ⟨F2, hT2⟩ := H0.out.2.1.dev hR hL
    have H2 := hide hT2
    clear hL hT2
    dsimp only
    go_wp2_with fail
    refine (rflush_any _ H2.out.ref (by omega) hm).mono ?_
    rintro e w3 ⟨rfl, hL⟩
    obtain ⟨F3, hT3⟩ := H2.out.doc hR hL
    have H3 := hide hT3
    clear hL hT3
    dsimp only
    go_wp2_with fail
    go_ret
    exact ⟨ret_bool (by simp), F2, F3, _, H3.out, grows_flush D⟩
  · go_wp2_with fail
    go_region_held3 (fun w' => w'.cell? ⟨w.heap.size, 1, none⟩ = some (.int .i64 x.n))
      (first | go_keep | exact hkeep | exact hkeep2)
      (first
        | (go_at_call 35; refine (fuseDev_any x.n hn.2 _ (H0.out.2.1.grow hR (below_drewN (Below.refl _ _) _)).mine.dev).mono ?_; rintro e w2 ⟨rfl, hL⟩; obtain ⟨F2, hT2, hq2⟩ := (H0.out.2.1.grow hR (below_drewN (Below.refl _ _) _)).dev2 hR hL; have hq3 : w2.heap[w.heap.size]? = w1.heap[w.heap.size]? := (hq2 w.heap.size hlt H0.out.2.2.2.1).1; have kd1 : w2.cell? ⟨w.heap.size, 1, none⟩ = some (.int .i64 x.n) := keep_cell hq3 c1; have hkeep := kd1; have H2 := hide (And.intro hT2 (heap_lt hq3 hlt)); clear hL hT2 hq2)
        | (go_at_call 45; refine (rfuse_any x.n hn.2 _ H2.out.1.ref).mono ?_; rintro e w3 ⟨rfl, hL⟩; obtain ⟨F3, hT3, hq4⟩ := H2.out.1.doc2 hR hL; have hq5 : w3.heap[w.heap.size]? = w2.heap[w.heap.size]? := (hq4 w.heap.size H2.out.2 H0.out.2.2.2.2).1; have ke1 : w3.cell? ⟨w.heap.size, 1, none⟩ = some (.int .i64 x.n) := keep_cell hq5 kd1; have hkeep2 := ke1; have H3 := hide hT3; clear hL hT3 hq4))
    go_wp2_with fail
    go_ret
    exact ⟨ret_bool (by simp), F2, F3, _, H3.out, grows_fuse D x.n⟩
  · go_wp2_with fail
    refine (crashDev_any _ H0.out.2.1.mine.dev).mono ?_
    rintro e w2 ⟨rfl, hL⟩
    obtain ⟨F2, hT2⟩ := H0.out.2.1.dev hR hL
    have H2 := hide hT2
    clear hL hT2
    dsimp only
    go_wp2_with fail
    refine (rcrash_any _ H2.out.ref).mono ?_
    rintro e w3 ⟨rfl, hL⟩
    obtain ⟨F3, hT3⟩ := H2.out.doc hR hL
    have H3 := hide hT3
    clear hL hT3
    dsimp only
    go_wp2_with fail
    go_ret
    exact ⟨ret_bool (by simp), F2, F3, _, H3.out, grows_crash D⟩
  · go_wp2_with fail
    go_region_held3 (fun w' => w'.cell? ⟨w.heap.size, 1, none⟩ = some (.int .i64 x.n))
      (first | go_keep | exact hkeep | exact hkeep2)
      (first
        | (go_at_call 33; refine (wake_any x.n _ (H0.out.2.1.grow hR (below_drewN (Below.refl _ _) _)).mine.dev hm).mono ?_; rintro e w2 ⟨rfl, hL⟩; obtain ⟨F2, hT2, hq2⟩ := (H0.out.2.1.grow hR (below_drewN (Below.refl _ _) _)).dev2 hR hL; have hq3 : w2.heap[w.heap.size]? = w1.heap[w.heap.size]? := (hq2 w.heap.size hlt H0.out.2.2.2.1).1; have kd1 : w2.cell? ⟨w.heap.size, 1, none⟩ = some (.int .i64 x.n) := keep_cell hq3 c1; have hkeep := kd1; have H2 := hide (And.intro hT2 (heap_lt hq3 hlt)); clear hL hT2 hq2)
        | (go_at_call 50; refine (rwake_any x.n hn _ H2.out.1.ref hm).mono ?_; rintro e w3 ⟨rfl, hL⟩; obtain ⟨F3, hT3, hq4⟩ := H2.out.1.doc2 hR hL; have hq5 : w3.heap[w.heap.size]? = w2.heap[w.heap.size]? := (hq4 w.heap.size H2.out.2 H0.out.2.2.2.2).1; have ke1 : w3.cell? ⟨w.heap.size, 1, none⟩ = some (.int .i64 x.n) := keep_cell hq5 kd1; have hkeep2 := ke1; have H3 := hide hT3; clear hL hT3 hq4))
    go_wp2_with fail
    go_ret
    exact ⟨ret_bool (by simp), F2, F3, _, H3.out, grows_wake D x.n⟩
  · go_wp2_with fail
    go_region_held3 (fun w' => w'.cell? ⟨w.heap.size, 1, none⟩ = some (.int .i64 x.n) ∧ w'.cell? ⟨w.heap.size, 2, none⟩ = some (.int .i64 x.most))
      (first | go_keep | exact hkeep | exact hkeep2)
      (first
        | (go_at_call 69; refine (spoilDev_any x.n x.most _ (H0.out.2.1.grow hR (below_drewN (Below.refl _ _) _)).mine.dev hn hbit).mono ?_; rintro e w2 ⟨rfl, hL⟩; obtain ⟨F2, hT2, hq2⟩ := (H0.out.2.1.grow hR (below_drewN (Below.refl _ _) _)).dev2 hR hL; have hq3 : w2.heap[w.heap.size]? = w1.heap[w.heap.size]? := (hq2 w.heap.size hlt H0.out.2.2.2.1).1; have kd1 : w2.cell? ⟨w.heap.size, 1, none⟩ = some (.int .i64 x.n) := keep_cell hq3 c1; have kd2 : w2.cell? ⟨w.heap.size, 2, none⟩ = some (.int .i64 x.most) := keep_cell hq3 c2; have hkeep := And.intro kd1 kd2; have H2 := hide (And.intro hT2 (heap_lt hq3 hlt)); clear hL hT2 hq2)
        | (go_at_call 70; refine (rspoil_any x.n x.most _ H2.out.1.ref).mono ?_; rintro e w3 ⟨rfl, hL⟩; obtain ⟨F3, hT3, hq4⟩ := H2.out.1.doc2 hR hL; have hq5 : w3.heap[w.heap.size]? = w2.heap[w.heap.size]? := (hq4 w.heap.size H2.out.2 H0.out.2.2.2.2).1; have ke1 : w3.cell? ⟨w.heap.size, 1, none⟩ = some (.int .i64 x.n) := keep_cell hq5 kd1; have ke2 : w3.cell? ⟨w.heap.size, 2, none⟩ = some (.int .i64 x.most) := keep_cell hq5 kd2; have hkeep2 := And.intro ke1 ke2; have H3 := hide hT3; clear hL hT3 hq4))
    go_wp2_with fail
    go_ret
    exact ⟨ret_bool (by simp), F2, F3, _, H3.out, grows_spoil D x.n x.most⟩
end
end Go.Proofs.Ytajeohmmobgcjaa
