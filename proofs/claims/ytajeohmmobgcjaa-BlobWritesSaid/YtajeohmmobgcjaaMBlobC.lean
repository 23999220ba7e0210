/- package blob: Read. -/
import Derived.Test.YtajeohmmobgcjaaMBlobB
import Derived.Test.YtajeohmmobgcjaaMDevDo
namespace Go.Proofs.Ytajeohmmobgcjaa
open Go Go.RowKit Go.Shelf
attribute [local go_sem] Oper.semAt_some
set_option maxRecDepth 100000
/-- what sectors hold, one behind the other -/
def Dv.gather (D : Dv) (fst : Nat) (ps : List Nat) : List UInt8 := (ps.map fun p => D.read (fst + p)).flatten
def Dv.get (D : Dv) (l a d n : Int) (rs : List Run) : Int × List UInt8 :=
  if suitsE D.kept.length l a d n rs = 0 then (if D.dn = true ∧ pos rs ≠ [] then (10, []) else (0, (D.gather (firstS l a d).toNat (pos rs)).take n.toNat)) else (suitsE D.kept.length l a d n rs, [])
def GetQ (r : Int × List UInt8) (w : World) (e : Ending) (w' : World) : Prop := ∃ o, e = .returned (.tuple #[o, .int .i64 r.1]) ∧ w'.ownsRow w.heap.size 5 1 o r.2.length (bv r.2) ∧ Below w.heap.size w w'
theorem secF_ltd {rs : List Run} {d : Int} (h : ∀ r ∈ rs, okRun d r) (hd : 1 ≤ d) (x : Nat) : (secF rs x : Int) < d := by
  unfold secF
  rw [List.getD]
  cases hx : (pos rs)[x]? with
  | none => show ((0 : Nat) : Int) < d; omega
  | some y => exact pos_lt h y (List.mem_of_getElem? hx)
theorem rfinD {tmps : Array Value} {B B2 D : Nat} {W : World} {v u : Value} {R : Ending → World → Prop} (h4 : tmps.getD 8 undef = .pointer (some ⟨B, 0, none⟩)) (h5 : tmps.getD 9 undef = .pointer (some ⟨B2, 0, none⟩)) (hc : W.cell? ⟨B, 0, none⟩ = some v) (hc2 : W.cell? ⟨B2, 0, none⟩ = some u) (hK : W.heap[D]? = some (.deferred (some []))) (hR : R (.returned (.tuple #[v, u])) (W.putObj D (.deferred none))) :
    bodyPostM Fence.wide 5 Try.prog Try.f43 R .ret { tmps := tmps, defers := [{ target := .collected D, args := #[] }] } W := by
  have h4' : tmps[8]?.getD undef = .pointer (some ⟨B, 0, none⟩) := by simpa using h4
  have h5' : tmps[9]?.getD undef = .pointer (some ⟨B2, 0, none⟩) := by simpa using h5
  have hc' := cell_kept hc (grownBy_putObj' _ D (.deferred none)) (fun r e => by cases e; exact ⟨_, hK, rfl⟩)
  have hc2' := cell_kept hc2 (grownBy_putObj' _ D (.deferred none)) (fun r e => by cases e; exact ⟨_, hK, rfl⟩)
  exact ⟨by simp, .inl ⟨_, _, rfl, run_takeDeferred hK, .tuple #[v, u], by simp [results, Try.f43, go_sem, h4', h5', hc', hc2'], hR⟩⟩
theorem own_keeps {W W2 : World} {v : Value} {m n₀ : Nat} {xs : List Value} {S : Nat → Prop} (ho : W.ownsRow n₀ 5 1 v m xs) (hg : W.grownBy W2 v.ownBlock) : KeepsOthers W W2 ∧ KeepsI S n₀ W W2 := by
  have key : ∀ k, v.ownBlock = some k → n₀ ≤ k ∧ ∃ cs, W.heap[k]? = some (.cells cs 5 (0, 0)) := by
    intro k hk
    rcases owned_formN ho with ⟨rfl, _⟩ | ⟨g', cap', cur, rfl, h1, _, _, hh, _⟩
    · cases hk
    · have hk : some g' = some k := hk
      injection hk with hk
      subst hk
      exact ⟨h1, _, hh⟩
  refine ⟨⟨hg.size, fun k o hk hc => (hg.block k (Array.getElem?_eq_some_iff.1 hk).1 fun e => ?_).trans hk⟩, ⟨hg.size, fun k o hn _ hk _ => (hg.block k (Array.getElem?_eq_some_iff.1 hk).1 fun e => ?_).trans hk, fun k cs fr hn hk => (hg.block k (Array.getElem?_eq_some_iff.1 hk).1 fun e => ?_).trans hk⟩⟩
  · obtain ⟨_, cs, h2⟩ := key k e.symm
    rw [hk] at h2
    injection h2 with h2
    subst h2
    cases hc
  · have := (key k e.symm).1
    omega
  · obtain ⟨_, cs', h2⟩ := key k e.symm
    rw [hk] at h2
    injection h2 with h2
    injection h2 with _ h2
    exact absurd h2 (by decide)
theorem gather_one (D : Dv) (fst : Nat) (ps : List Nat) (p : Nat) : D.gather fst (ps ++ [p]) = D.gather fst ps ++ D.read (fst + p) := by simp [Dv.gather]
set_option maxHeartbeats 1000000 in
theorem bread_in {D : Dv} {F : Nat → Prop} {q : Nat} (l a d n : Int) (h64 : d ≤ 64) (hn : -9223372036854775808 ≤ n ∧ n ≤ 9223372036854775807) (Ar : Option Addr) (cr : Nat) (rs : List Run) (hlen : rs.length ≤ 1000000) (w : World)
    (hd : DevAt w F q D) (hpe : D.pend.length ≤ 90000) (hrs : RunsM w w.heap.size (.slice Ar rs.length cr) rs) (hE : suitsE D.kept.length l a d n rs = 0) :
    Calls Try.prog 43 #[.pointer (some ⟨q, 0, none⟩), .agg #[.int .i64 l, .int .i64 a, .int .i64 d], .int .i64 n, .slice Ar rs.length cr] w (GetQ (D.get l a d n rs) w) := by
  have hsu : apartP l a d rs ∧ 0 ≤ n ∧ ((pos rs).length : Int) = needP n ∧ secs l a d ≤ (D.kept.length : Int) := by
    by_cases h : apartP l a d rs ∧ 0 ≤ n ∧ ((pos rs).length : Int) = needP n ∧ secs l a d ≤ (D.kept.length : Int)
    · exact h
    · rw [suitsE, if_neg h] at hE
      cases hE
  obtain ⟨hap, hn0, hneed, hsec⟩ := hsu
  obtain ⟨m, rfl⟩ : ∃ m : Nat, n = (m : Int) := ⟨n.toNat, by omega⟩
  have hR := hap.1
  have hfst : 0 ≤ firstS l a d ∧ firstS l a d ≤ 8192 ∧ firstS l a d + d = secs l a d := by
    have h1 := hR.1
    have h2 := hR.2.1
    have h3 := hR.2.2.1
    have h4 := hR.2.2.2
    rw [firstS, if_pos hR, secs, if_pos hR]
    unfold inW at h1 h2 h3
    omega
  have hd1 := apart_d hap
  have hcnt := apart_count hap
  have hN : (pos rs).length ≤ 64 := by omega
  have HD := hide (And.intro hd (And.intro hrs (And.intro hE (And.intro hap (And.intro hneed hsec)))))
  clear hd hrs hE hap hR hneed hsec
  refine (callsIn_wide (n := 5)).1 ?_
  refine callsIn_of_wp_marks Try.func43 rfl trivial ?_ rfl
  simp only [Try.ntmps43, List.size_toArray, List.length_cons, List.length_nil, Nat.reduceAdd, Nat.reduceSub, Array.replicate_succ, Array.replicate_zero, List.push_toArray, List.append_toArray, List.nil_append, List.cons_append]
  refine wpIn_wide.2 ?_
  obtain ⟨w1, hw1⟩ : ∃ w1, w1 = (((w.alloc (.cells #[.pointer (some ⟨q, 0, none⟩)] 43)).alloc (.cells #[.int .i64 l, .int .i64 a, .int .i64 d] 23)).alloc (.cells #[.slice none 0 0] 48)).alloc (.cells #[.int .i64 0] 27) := ⟨_, rfl⟩
  have b4 : Blk w1 w.heap.size 43 #[.pointer (some ⟨q, 0, none⟩)] := by rw [hw1]; exact (((Blk.new w _ _).alloc _).alloc _).alloc _
  have b5 : Blk w1 (w.heap.size + 1) 23 #[.int .i64 l, .int .i64 a, .int .i64 d] := by
    rw [hw1]
    have := ((Blk.new (w.alloc (.cells #[.pointer (some ⟨q, 0, none⟩)] 43)) 23 #[.int .i64 l, .int .i64 a, .int .i64 d]).alloc (.cells #[.slice none 0 0] 48)).alloc (.cells #[.int .i64 0] 27)
    rwa [size_alloc] at this
  have b6 : Blk w1 (w.heap.size + 1 + 1) 48 #[.slice none 0 0] := by
    rw [hw1]
    have := (Blk.new ((w.alloc (.cells #[.pointer (some ⟨q, 0, none⟩)] 43)).alloc (.cells #[.int .i64 l, .int .i64 a, .int .i64 d] 23)) 48 #[.slice none 0 0]).alloc (.cells #[.int .i64 0] 27)
    rwa [size_alloc, size_alloc] at this
  have b8 : Blk w1 (w.heap.size + 1 + 1 + 1) 27 #[.int .i64 0] := by
    rw [hw1]
    have := Blk.new (((w.alloc (.cells #[.pointer (some ⟨q, 0, none⟩)] 43)).alloc (.cells #[.int .i64 l, .int .i64 a, .int .i64 d] 23)).alloc (.cells #[.slice none 0 0] 48)) 27 #[.int .i64 0]
    rwa [size_alloc, size_alloc, size_alloc] at this
  have hb1 : Below w.heap.size w w1 := by rw [hw1]; exact ((((Below.refl _ w).alloc (Nat.le_refl _) _).al _).al _).al _
  have H1 := hide (And.intro b4 (And.intro b5 (And.intro b6 (And.intro b8 hb1))))
  clear b4 b5 b6 b8 hb1
  go_wp2_with fail
  rw [← hw1]
  have HW1 := hide hw1
  clear hw1
  refine (suits_any l a d (fun _ => h64) (m : Int) hn _ rs hlen w1 (HD.out.2.1.below H1.out.2.2.2.2) (HD.out.1.keep fun k hk _ => H1.out.2.2.2.2.block k hk)).mono ?_
  rintro e w2 ⟨rfl, hb2⟩
  rw [HD.out.2.2.1]
  have H2 := hide (And.intro (H1.out.1.below hb2 H1.out.1.lt) (And.intro (H1.out.2.1.below hb2 H1.out.2.1.lt) (And.intro (H1.out.2.2.1.below hb2 H1.out.2.2.1.lt) (And.intro (H1.out.2.2.2.1.below hb2 H1.out.2.2.2.1.lt) (H1.out.2.2.2.2.next hb2)))))
  have c0 := H2.out.2.1.cell 0
  have c1 := H2.out.2.1.cell 1
  have c2 := H2.out.2.1.cell 2
  have hlt := H2.out.2.1.lt
  clear hb2 HW1 H1
  dsimp only
  go_wp2_with fail
  refine (lfirst_any l a d w2).mono ?_
  rintro e w3 ⟨rfl, hb3⟩
  have H3 := hide (And.intro (H2.out.1.below hb3 H2.out.1.lt) (And.intro (H2.out.2.2.1.below hb3 H2.out.2.2.1.lt) (And.intro (H2.out.2.2.2.1.below hb3 H2.out.2.2.2.1.lt) (H2.out.2.2.2.2.next hb3))))
  clear hb3 c0 c1 c2 hlt H2
  obtain ⟨fst, hfs⟩ : ∃ fst : Nat, (fst : Int) = firstS l a d := ⟨(firstS l a d).toNat, by omega⟩
  rw [← hfs] at hfst ⊢
  have HFS := hide hfs
  clear hfs
  dsimp only
  go_wp2_with fail
  refine (each_any _ _ _ _).mono ?_
  rintro e W0 ⟨rfl, hW0⟩
  obtain ⟨s0, hs0⟩ : ∃ s0, s0 = w.heap.size := ⟨_, rfl⟩
  have e4 : W0.heap.size = w3.heap.size + 1 + 1 := by rw [hW0, size_alloc, size_alloc]
  have hb0 : Below w3.heap.size w3 W0 := by rw [hW0]; exact ((Below.refl _ w3).alloc (Nat.le_refl _) _).al _
  have hB10 : Blk W0 w3.heap.size 3 #[.int .i64 (fst : Int)] := by rw [hW0]; exact (Blk.new w3 _ _).alloc _
  have hBd : Blk W0 (w3.heap.size + 1) 24 #[.slice Ar rs.length cr] := by
    rw [hW0]
    have := Blk.new (w3.alloc (.cells #[.int .i64 (fst : Int)] 3)) 24 #[.slice Ar rs.length cr]
    rwa [size_alloc] at this
  have h3 := H3.out
  rw [← hs0] at h3
  have hB4 := h3.1.below hb0 h3.1.lt
  have hB6 := h3.2.1.below hb0 h3.2.1.lt
  have hB8 := h3.2.2.1.below hb0 h3.2.2.1.lt
  have hbw : Below w.heap.size w W0 := by rw [← hs0]; exact (show Below w.heap.size w w3 by rw [← hs0]; exact h3.2.2.2).next hb0 |> fun h => by rwa [hs0]
  have hlt8 := h3.2.2.1.lt
  clear h3
  rw [← hs0]
  have cells : 0 < rs.length → ∃ b off, Ar = some ⟨b, off, none⟩ ∧ b < W0.heap.size ∧ ¬ (b = s0 + 1 + 1 ∨ b = s0 + 1 + 1 + 1) ∧ ∀ j r, rs[j]? = some r → W0.cell? ⟨b, off + j * 2, none⟩ = some (.int .i64 r.1) ∧ W0.cell? ⟨b, off + j * 2 + 1, none⟩ = some (.int .i64 r.2) := by
    intro h
    obtain ⟨A', cp', hv, _, _, hA, _⟩ := HD.out.2.1
    injection hv with e1 _ _
    subst e1
    obtain ⟨b, off, e1, e2, e3⟩ := hA h
    refine ⟨b, off, e1, by omega, by omega, fun j r hj => ⟨(hbw.cell (p := ⟨b, off + j * 2, none⟩) e2).trans (e3 j r hj).1, (hbw.cell (p := ⟨b, off + j * 2 + 1, none⟩) e2).trans (e3 j r hj).2⟩⟩
  have HI := hide (And.intro (And.intro (hB6.cell 0) (hB6.frozen 0)) (And.intro (hB4.cell 0) (And.intro (hB10.cell 0) (And.intro (hB8.cell 0) (hB8.frozen 0)))))
  have HC := hide (And.intro cells (And.intro HD.out.2.2.2.1 (hBd.cell 0)))
  have HZ := hide (And.intro e4 (And.intro hlt8 hs0))
  have HBW := hide hbw
  clear hs0 e4 hb0 hB10 hBd hB4 hB6 hB8 hbw hlt8 cells H3 hW0
  rw [size_alloc]
  dsimp only
  go_wp2_with fail
  refine (wpIn_wide (n := 5)).1 ?_
  refine wpIn_rangeFunc_ownG (F := Fence.wide) (n := 5) (α := Nat) rfl (by omega) (gf := 84) (lb := #[.pointer (some ⟨w3.heap.size + 1, 0, none⟩)]) rfl trivial (enters_of Try.func84 (by kernel_rfl) rfl)
    (each_stops (n₀ := W0.heap.size) (S := fun k => k = s0 + 1 + 1 ∨ k = s0 + 1 + 1 + 1) Fence.wide 4 trivial rfl (by omega) (w3.heap.size + 1) cr Ar rs hlen (fun r hr => by have := HC.out.2.1.2.1 r hr; unfold okRun at this; omega) W0 (Nat.le_refl _) (by have := HZ.out.1; omega) HC.out.2.2 HC.out.1) KeepsI.trans (KeepsI.putObj (Nat.le_refl _)) (Below.refl _ _) (fun _ => rfl)
    (fun pre W => ((D.dn = true → pre = []) ∧ W0.heap.size ≤ W.heap.size ∧ ∃ v, W.cell? ⟨s0 + 1 + 1, 0, none⟩ = some v ∧ W.frozen? ⟨s0 + 1 + 1, 0, none⟩ = false ∧ W.ownsRow W0.heap.size 5 1 v (64 * pre.length) (bv (D.gather fst (pre.map (secF rs))))) ∧ (W.cell? ⟨s0, 0, none⟩ = some (.pointer (some ⟨q, 0, none⟩)) ∧ W.cell? ⟨w3.heap.size, 0, none⟩ = some (.int .i64 (fst : Int)) ∧ W.cell? ⟨s0 + 1 + 1 + 1, 0, none⟩ = some (.int .i64 0) ∧ W.frozen? ⟨s0 + 1 + 1 + 1, 0, none⟩ = false) ∧ Below w.heap.size w W)
    (fun c pre W => (c = .ret ∧ D.dn = true ∧ W.cell? ⟨s0 + 1 + 1, 0, none⟩ = some (.slice none 0 0) ∧ W.cell? ⟨s0 + 1 + 1 + 1, 0, none⟩ = some (.int .i64 10)) ∧ Below w.heap.size w W)
    ?ownI ?ownX ⟨⟨fun _ => rfl, Nat.le_refl _, .slice none 0 0, HI.out.1.1, HI.out.1.2, World.ownsRow_nil _ _ _ _⟩, HI.out.2, HBW.out⟩
    (fun x => { tmps := #[.pointer (some ⟨q, 0, none⟩), .agg #[.int .i64 l, .int .i64 a, .int .i64 d], .int .i64 (m : Int), .slice Ar rs.length cr, .pointer (some ⟨s0, 0, none⟩), .pointer (some ⟨s0 + 1, 0, none⟩), undef, undef, .pointer (some ⟨s0 + 1 + 1, 0, none⟩), .pointer (some ⟨s0 + 1 + 1 + 1, 0, none⟩), .int .i64 0, .pointer (some ⟨w3.heap.size, 0, none⟩), .int .i64 ((secF rs x : Nat) : Int), undef, undef, .pointer (some ⟨q, 0, none⟩), .agg #[.int .i64 l, .int .i64 a, .int .i64 d], .int .i64 (m : Int), .slice Ar rs.length cr, .int .i64 0, .int .i64 0, .bool false, undef, .agg #[.int .i64 l, .int .i64 a, .int .i64 d], .int .i64 (fst : Int), .slice Ar rs.length cr, .func (.func 84) #[] #[.pointer (some ⟨w3.heap.size + 1, 0, none⟩)], .int .i64 ((secF rs x : Nat) : Int), undef, undef, undef, undef, undef, undef, undef, undef, undef, undef, undef, undef, undef, undef, undef, undef, undef], defers := [] }) ?assign ?body ?done ?stop
  case ownI =>
    refine OwnFrom.and (Own.from (fun pre X Y row hs hg hr => ?_) _) (OwnFrom.and (Own.from (fun pre X Y row hs hg hr => ⟨cell_kept hs.1 hg hr, cell_kept hs.2.1 hg hr, cell_kept hs.2.2.1 hg hr, (frozen_kept hs.2.2.1 hg hr).trans hs.2.2.2⟩) _) (ownFrom_below (Nat.le_refl _) (by have := HBW.out.size; exact this)))
    obtain ⟨h1, h2, v, h3, h4, h5⟩ := hs
    exact ⟨h1, Nat.le_trans h2 hg.size, v, cell_kept h3 hg hr, (frozen_kept h3 hg hr).trans h4, own_grown h5 hg hr⟩
  case ownX =>
    intro c
    refine OwnFrom.and (Own.from (fun pre X Y row hs hg hr => ?_) _) (ownFrom_below (Nat.le_refl _) (by have := HBW.out.size; exact this))
    obtain ⟨h1, h2, h3, h4⟩ := hs
    exact ⟨h1, h2, cell_kept h3 hg hr, cell_kept h4 hg hr⟩
  case assign =>
    intro l y W K hK
    dsimp only [posE]
    gi_wp2
    exact hK
  case body =>
    rintro l0 pre x W ⟨⟨hdp, hsz, v, hc8, hf8, ho⟩, ⟨hc4, hc11, hc9, hf9⟩, hB⟩ hlen2
    have hx := secF_lt HC.out.2.1.2.1 h64 x
    have hxd := secF_ltd HC.out.2.1.2.1 hd1.1 x
    have n1 : (0 : Int) ≤ (fst : Int) := by omega
    have n2 : (fst : Int) ≤ 8192 := hfst.2.1
    have n3 : (0 : Int) ≤ ((secF rs x : Nat) : Int) := by omega
    have n4 : ((secF rs x : Nat) : Int) < 64 := by omega
    have hdev : DevAt W F q D := HD.out.1.keep fun k hk _ => hB.block k hk
    have HW := hide (And.intro hdp (And.intro hsz (And.intro ho (And.intro hB hdev))))
    clear hdp hsz ho hB hdev hxd
    by_cases hdn : D.dn = true
    · gi_wp2_with fail
      refine ⟨trivial, (CallsIn.inRound l0 (callsIn_wide.2 (read_down ((fst : Int) + ((secF rs x : Nat) : Int)) W HW.out.2.2.2.2 hdn))).mono ?_⟩
      rintro e W1 ⟨rfl, hb1⟩
      have c8' := (hb1.cell (p := ⟨s0 + 1 + 1, 0, none⟩) (World.block_lt_of_cell? W _ hc8)).trans hc8
      have f8' := (hb1.frozen (p := ⟨s0 + 1 + 1, 0, none⟩) (World.block_lt_of_cell? W _ hc8)).trans hf8
      have c9' := (hb1.cell (p := ⟨s0 + 1 + 1 + 1, 0, none⟩) (World.block_lt_of_cell? W _ hc9)).trans hc9
      have f9' := (hb1.frozen (p := ⟨s0 + 1 + 1 + 1, 0, none⟩) (World.block_lt_of_cell? W _ hc9)).trans hf9
      have H1 := hide hb1
      clear hb1
      dsimp only
      gi_wp2_with fail
      refine ⟨((keepsFrom_below H1.out).trans ((KeepsOthers.setCell _ _ _).from _)).trans ((KeepsOthers.setCell _ _ _).from _), ⟨rfl, hdn, ?_, ?_⟩, ?_⟩
      · rw [World.cell?_setCell_other _ _ _ _ (fun e => by simp at e)]
        exact World.cell?_setCell_same' _ _ _ (by rw [c8']; rfl)
      · exact World.cell?_setCell_same' _ _ _ (by rw [World.cell?_setCell_other _ _ _ _ (fun e => by simp at e), c9']; rfl)
      · have hz := HZ.out.2.2
        exact ((HW.out.2.2.2.1.next H1.out).setCell (p := ⟨s0 + 1 + 1, 0, none⟩) (by show w.heap.size ≤ s0 + 1 + 1; omega) _).setCell (p := ⟨s0 + 1 + 1 + 1, 0, none⟩) (by show w.heap.size ≤ s0 + 1 + 1 + 1; omega) _
    · have hdn' : D.dn = false := by simpa using hdn
      have hlt : fst + secF rs x < D.kept.length := by
        have h1 := HD.out.2.2.2.2.2
        have h2 := secF_ltd HC.out.2.1.2.1 hd1.1 x
        have h3 := hfst.2.2
        omega
      have hr := readDev_any (fst + secF rs x) hlt W HW.out.2.2.2.2 hdn' (by omega)
      rw [Int.natCast_add] at hr
      have hpl : pre.length < 64 := by omega
      gi_wp2_with fail
      refine ⟨trivial, (CallsIn.inRound l0 (callsIn_wide.2 hr)).mono ?_⟩
      rintro e W1 ⟨vb, rfl, hob, hb1⟩
      obtain ⟨kb, cb, rfl⟩ := owned_placeN hob (by omega)
      obtain ⟨i, hi, hz0, hz1, hz2⟩ := info_parts info_u8
      have hov : W1.ownsRow W0.heap.size 5 1 v (64 * pre.length) (bv (D.gather fst (pre.map (secF rs)))) := owned_keepN HW.out.2.2.1 fun k _ hl => hb1.block k hl
      have c8' := (hb1.cell (p := ⟨s0 + 1 + 1, 0, none⟩) (World.block_lt_of_cell? W _ hc8)).trans hc8
      have f8' := (hb1.frozen (p := ⟨s0 + 1 + 1, 0, none⟩) (World.block_lt_of_cell? W _ hc8)).trans hf8
      have c9' := (hb1.cell (p := ⟨s0 + 1 + 1 + 1, 0, none⟩) (World.block_lt_of_cell? W _ hc9)).trans hc9
      have f9' := (hb1.frozen (p := ⟨s0 + 1 + 1 + 1, 0, none⟩) (World.block_lt_of_cell? W _ hc9)).trans hf9
      have c4' := (hb1.cell (p := ⟨s0, 0, none⟩) (World.block_lt_of_cell? W _ hc4)).trans hc4
      have c11' := (hb1.cell (p := ⟨w3.heap.size, 0, none⟩) (World.block_lt_of_cell? W _ hc11)).trans hc11
      have h64b : (D.read (fst + secF rs x)).length = 64 := by
        have := hob.1
        rwa [bvL] at this
      have H1 := hide (And.intro hb1 (And.intro hov (And.intro hob h64b)))
      have HCC := hide (And.intro c4' (And.intro c11' (And.intro c9' f9')))
      clear hb1 hov hob h64b c4' c11' c9' f9' hr hlt
      dsimp only
      gi_wp2_with (gi_at_builtin; refine wpListIn_append_own _ rfl _ _ 48 rfl W0.heap.size 5 i (.int .u8 0) 1 1 Try.underlying48 hi hz0 hz1 hz2 rfl (by omega) v (64 * pre.length) (bv (D.gather fst (pre.map (secF rs)))) rfl H1.out.2.1 ⟨kb, 0, none⟩ 64 cb (bv (D.read (fst + secF rs x))) rfl ?a0 ?a1 ?a2 ?a3 ?a4 ?a5 ?_)
      case a0 => rw [bvL, H1.out.2.2.2]
      case a1 =>
        have hs := owned_src0 (l := D.read (fst + secF rs x)) (A := some ⟨kb, 0, none⟩) (cap := cb) (by rw [H1.out.2.2.2]; exact H1.out.2.2.1)
        exact hs.cells _ rfl
      case a2 => exact bv1 _
      case a3 => simp only [maxLen]; omega
      case a4 => omega
      case a5 => have := HW.out.2.1; have := H1.out.1.size; omega
      intro v' W2 ho2 hg2 _
      obtain ⟨A2, cc2, rfl⟩ := owned_slice ho2
      have hkp := own_keeps (S := fun k => k = s0 + 1 + 1 ∨ k = s0 + 1 + 1 + 1) H1.out.2.1 hg2
      have hne : ∀ k, k < W0.heap.size → v.ownBlock ≠ some k := fun k hk e => by have := (owned_ltN H1.out.2.1 e).1; omega
      have hz1 := HZ.out.1
      have hz3 := HZ.out.2.1
      have hb2 : Below w.heap.size W1 W2 := ⟨hg2.os, hg2.tape, hg2.output, hg2.size, fun k hk => hg2.block k (by have := H1.out.1.size; have := HW.out.2.2.2.1.size; omega) fun e => hne k (by have := HBW.out.size; omega) e.symm⟩
      have hsm : ∀ k, k < W0.heap.size → k < W1.heap.size → W2.heap[k]? = W1.heap[k]? := fun k hk hl => hg2.block k hl fun e => hne k hk e.symm
      have hl8 := World.block_lt_of_cell? W1 _ c8'
      have c8'' := (World.cell?_of_block (a := ⟨s0 + 1 + 1, 0, none⟩) (hsm (s0 + 1 + 1) (by omega) hl8)).trans c8'
      have f8'' := (World.frozen?_of_block (a := ⟨s0 + 1 + 1, 0, none⟩) (hsm (s0 + 1 + 1) (by omega) hl8)).trans f8'
      have H2 := hide (And.intro hkp (And.intro hb2 (And.intro hsm ho2)))
      clear hkp hne hb2 hsm ho2 hg2 c8' f8' hl8 hz1 hz3
      gi_wp2_with fail
      obtain ⟨hkp, hb2, hsm, ho2⟩ := H2.out
      have hz1 := HZ.out.1
      have hz3 := HZ.out.2.1
      have hz4 := HZ.out.2.2
      have hz5 := HBW.out.size
      have hw1s : W0.heap.size ≤ W1.heap.size := Nat.le_trans HW.out.2.1 H1.out.1.size
      refine ⟨((keepsFrom_below H1.out.1).trans (hkp.1.from _)).trans ((KeepsOthers.setCell _ _ _).from _), ((KeepsI.below H1.out.1).trans hkp.2).trans (KeepsI.setCell (.inl rfl) (by show s0 + 1 + 1 < _; omega) _ _), ⟨fun h => absurd h hdn, ?_, .slice A2 (64 * pre.length + 64) cc2, ?_, ?_, ?_⟩, ⟨?_, ?_, ?_, ?_⟩, ?_⟩
      · have := hb2.size
        simp
        omega
      · exact World.cell?_setCell_same' _ _ _ (by rw [c8'']; rfl)
      · rw [World.frozen?_setCell]
        exact f8''
      · rw [List.map_append, List.map_cons, List.map_nil, gather_one, List.length_append, List.length_singleton, show 64 * (pre.length + 1) = 64 * pre.length + 64 by omega, show bv (D.gather fst (pre.map (secF rs)) ++ D.read (fst + secF rs x)) = bv (D.gather fst (pre.map (secF rs))) ++ bv (D.read (fst + secF rs x)) by simp [bv]]
        exact owned_keepN ho2 fun k hk _ => Below.heap_setCell _ _ _ _ (fun e => by
          have h1 := (owned_ltN ho2 hk).1
          have e : k = s0 + 1 + 1 := e
          omega)
      · rw [World.cell?_setCell_other _ _ _ _ (fun e => by simp at e), World.cell?_of_block (hsm s0 (by omega) (by omega))]
        exact HCC.out.1
      · rw [World.cell?_setCell_other _ _ _ _ (fun e => by
          have e : w3.heap.size = s0 + 1 + 1 := by first | exact congrArg Addr.block e | exact (congrArg Addr.block e).symm
          omega), World.cell?_of_block (hsm w3.heap.size (by omega) (by omega))]
        exact HCC.out.2.1
      · rw [World.cell?_setCell_other _ _ _ _ (fun e => by simp at e), World.cell?_of_block (hsm (s0 + 1 + 1 + 1) (by omega) (by omega))]
        exact HCC.out.2.2.1
      · rw [World.frozen?_setCell, World.frozen?_of_block (hsm (s0 + 1 + 1 + 1) (by omega) (by omega))]
        exact HCC.out.2.2.2
      · exact ((HW.out.2.2.2.1.next H1.out.1).trans hb2).setCell (p := ⟨s0 + 1 + 1, 0, none⟩) (by show w.heap.size ≤ s0 + 1 + 1; omega) _
  case done =>
    rintro D' ys W hD rfl ⟨⟨hdp, hsz, v, hc8, hf8, ho⟩, ⟨hc4, hc11, hc9, hf9⟩, hB⟩ hK
    rw [List.length_range, secF_range rs _ (Nat.le_refl _), List.take_length] at ho
    obtain ⟨A1, cc1, rfl⟩ := owned_slice ho
    have hml : m ≤ 64 * (pos rs).length := by
      have h := HD.out.2.2.2.2.1
      rw [needP] at h
      split at h <;> omega
    have hmc : m ≤ cc1 := by
      rcases owned_form ho with ⟨e, h0, _⟩ | ⟨g, cap, cur, e, _, h2, _⟩
      · omega
      · injection e with _ _ e
        omega
    have hs1 := run_slice_to (P := Try.prog) 48 5 Try.underlying48 size5 A1 (64 * (pos rs).length) cc1 m hmc
    have HW := hide (And.intro hdp (And.intro hsz (And.intro ho (And.intro hB hml))))
    clear hdp hsz ho hB hml hmc
    go_wp2_with fail
    obtain ⟨hdp, hsz, ho, hB, hml⟩ := HW.out
    have hz1 := HZ.out.1
    have hz3 := HZ.out.2.1
    have hz4 := HZ.out.2.2
    have hz5 := HBW.out.size
    have hDW : D' < W.heap.size := (Array.getElem?_eq_some_iff.1 hK).1
    have hK5 : ((W.setCell ⟨s0 + 1 + 1, 0, none⟩ (.slice A1 m cc1)).setCell ⟨s0 + 1 + 1 + 1, 0, none⟩ (.int .i64 0)).heap[D']? = some (.deferred (some [])) := (KeepsOthers.setCell _ _ _).same D' _ ((KeepsOthers.setCell _ _ _).same D' _ hK rfl) rfl
    have hglen : (D.gather fst (pos rs)).length = 64 * (pos rs).length := by
      have h := ho.1
      rw [bvL] at h
      omega
    have hfs : (firstS l a d).toNat = fst := by rw [← HFS.out]; exact Int.toNat_natCast fst
    have hget : D.get l a d m rs = (0, (D.gather fst (pos rs)).take m) := by
      rw [Dv.get, if_pos HD.out.2.2.1, if_neg, hfs, Int.toNat_natCast]
      rintro ⟨h1, h2⟩
      have h3 := hdp h1
      have h4 := congrArg List.length h3
      rw [List.length_range] at h4
      exact h2 (List.eq_nil_of_length_eq_zero h4)
    have hA : ((W.setCell ⟨s0 + 1 + 1, 0, none⟩ (.slice A1 m cc1)).setCell ⟨s0 + 1 + 1 + 1, 0, none⟩ (.int .i64 0)).cell? ⟨s0 + 1 + 1, 0, none⟩ = some (.slice A1 m cc1) := by
      rw [World.cell?_setCell_other _ _ _ _ (fun e => by simp at e)]
      exact World.cell?_setCell_same' _ _ _ (by rw [hc8]; rfl)
    have hA2 : ((W.setCell ⟨s0 + 1 + 1, 0, none⟩ (.slice A1 m cc1)).setCell ⟨s0 + 1 + 1 + 1, 0, none⟩ (.int .i64 0)).cell? ⟨s0 + 1 + 1 + 1, 0, none⟩ = some (.int .i64 0) :=
      World.cell?_setCell_same' _ _ _ (by rw [World.cell?_setCell_other _ _ _ _ (fun e => by simp at e), hc9]; rfl)
    refine rfinD (R := GetQ (D.get l a d m rs) w) ?hg1 ?hg2 hA hA2 hK5 ?hg3
    case hg1 => rfl
    case hg2 => rfl
    rw [hget]
    have hcut : W.ownsRow W0.heap.size 5 1 (.slice A1 m cc1) m (bv ((D.gather fst (pos rs)).take m)) := by
      have e : bv ((D.gather fst (pos rs)).take m) = (bv (D.gather fst (pos rs))).take m := by simp [bv, List.map_take]
      rw [e]
      rcases owned_form ho with ⟨e, h0, h2⟩ | ⟨g, cap, cur, e, _⟩
      · injection e with e1 e2 e3
        subst e1 e3
        obtain rfl : m = 0 := by omega
        rw [List.take_zero]
        exact World.ownsRow_nil _ _ _ _
      · injection e with e1 e2 e3
        subst e1 e3
        exact own_cut ho hml
    have hlt : ((D.gather fst (pos rs)).take m).length = m := by rw [List.length_take]; omega
    refine ⟨.slice A1 m cc1, rfl, ?_, ?_⟩
    · show (_ : World).ownsRow _ _ _ _ ((D.gather fst (pos rs)).take m).length _
      rw [hlt]
      refine owned_baseN (owned_keepN hcut fun k hk _ => ?_) fun k hk => by have := (owned_ltN hcut hk).1; omega
      have h1 := (owned_ltN hcut hk).1
      have hnD : k ≠ D' := fun e => by
        rcases owned_form hcut with ⟨e2, _⟩ | ⟨g, cap, cur, e2, _, _, _, hh, _⟩
        · rw [e2] at hk
          cases hk
        · rw [e2] at hk
          have hk : some g = some k := hk
          injection hk with hk
          subst hk
          rw [e] at hh
          have hh : W.heap[D']? = _ := hh
          rw [hK] at hh
          cases hh
      exact (World.putObj_heap_other hnD).trans ((Below.heap_setCell _ _ _ _ (by show k ≠ s0 + 1 + 1 + 1; omega)).trans (Below.heap_setCell _ _ _ _ (by show k ≠ s0 + 1 + 1; omega)))
    · exact ((hB.setCell (p := ⟨s0 + 1 + 1, 0, none⟩) (by show w.heap.size ≤ s0 + 1 + 1; omega) _).setCell (p := ⟨s0 + 1 + 1 + 1, 0, none⟩) (by show w.heap.size ≤ s0 + 1 + 1 + 1; omega) _).grown (grownBy_putObj' _ D' (.deferred none)) (by have := hB.size; simp; omega) (fun k e => by cases e; omega)
  case stop =>
    rintro D' c' pre W hD ⟨k, hk, rfl⟩ ⟨⟨rfl, hdn, hc8, hc9⟩, hB⟩ hK
    refine wpIn_wide.2 ?_
    have HB := hide hB
    clear hB
    go_wp2_with fail
    have hz5 := HBW.out.size
    have hget : D.get l a d m rs = (10, []) := by
      rw [Dv.get, if_pos HD.out.2.2.1, if_pos]
      refine ⟨hdn, fun h => ?_⟩
      rw [h] at hk
      simp at hk
    refine rfinD (R := GetQ (D.get l a d m rs) w) ?hg4 ?hg5 hc8 hc9 hK ?hg6
    case hg4 => rfl
    case hg5 => rfl
    rw [hget]
    exact ⟨.slice none 0 0, rfl, World.ownsRow_nil _ _ _ _, HB.out.grown (grownBy_putObj' _ D' (.deferred none)) HB.out.size (fun k e => by cases e; omega)⟩
theorem bread_any {D : Dv} {F : Nat → Prop} {q : Nat} (l a d n : Int) (h64 : rightP l a d → d ≤ 64) (hn : -9223372036854775808 ≤ n ∧ n ≤ 9223372036854775807) (Ar : Option Addr) (cr : Nat) (rs : List Run) (hlen : rs.length ≤ 1000000) (w : World)
    (hd : DevAt w F q D) (hpe : D.pend.length ≤ 90000) (hrs : RunsM w w.heap.size (.slice Ar rs.length cr) rs) :
    Calls Try.prog 43 #[.pointer (some ⟨q, 0, none⟩), .agg #[.int .i64 l, .int .i64 a, .int .i64 d], .int .i64 n, .slice Ar rs.length cr] w (GetQ (D.get l a d n rs) w) := by
  by_cases hE : suitsE D.kept.length l a d n rs = 0
  · have hap : apartP l a d rs := by
      by_cases h : apartP l a d rs
      · exact h
      · rw [suitsE, if_neg (fun h2 => h h2.1)] at hE
        cases hE
    exact bread_in l a d n (h64 hap.1) hn Ar cr rs hlen w hd hpe hrs hE
  · have hE2 : suitsE D.kept.length l a d n rs = 2 := by
      rw [suitsE] at hE ⊢
      split at hE
      · exact absurd rfl hE
      · rename_i h
        rw [if_neg h]
    rw [Dv.get, if_neg hE, hE2]
    obtain ⟨w1, hw1⟩ : ∃ w1, w1 = (((w.alloc (.cells #[.pointer (some ⟨q, 0, none⟩)] 43)).alloc (.cells #[.int .i64 l, .int .i64 a, .int .i64 d] 23)).alloc (.cells #[.slice none 0 0] 48)).alloc (.cells #[.int .i64 0] 27) := ⟨_, rfl⟩
    have b6 : Blk w1 (w.heap.size + 1 + 1) 48 #[.slice none 0 0] := by
      rw [hw1]
      have := (Blk.new ((w.alloc (.cells #[.pointer (some ⟨q, 0, none⟩)] 43)).alloc (.cells #[.int .i64 l, .int .i64 a, .int .i64 d] 23)) 48 #[.slice none 0 0]).alloc (.cells #[.int .i64 0] 27)
      rwa [size_alloc, size_alloc] at this
    have b8 : Blk w1 (w.heap.size + 1 + 1 + 1) 27 #[.int .i64 0] := by
      rw [hw1]
      have := Blk.new (((w.alloc (.cells #[.pointer (some ⟨q, 0, none⟩)] 43)).alloc (.cells #[.int .i64 l, .int .i64 a, .int .i64 d] 23)).alloc (.cells #[.slice none 0 0] 48)) 27 #[.int .i64 0]
      rwa [size_alloc, size_alloc, size_alloc] at this
    have hb1 : Below w.heap.size w w1 := by rw [hw1]; exact ((((Below.refl _ w).alloc (Nat.le_refl _) _).al _).al _).al _
    have HD := hide (And.intro hd hrs)
    have H1 := hide (And.intro b6 (And.intro b8 hb1))
    clear hd hrs hE b6 b8 hb1
    go_enter Try.func43, Try.ntmps43
    go_wp2_with fail
    rw [← hw1]
    have HW1 := hide hw1
    clear hw1
    refine (suits_any l a d h64 n hn _ rs hlen w1 (HD.out.2.below H1.out.2.2) (HD.out.1.keep fun k hk _ => H1.out.2.2.block k hk)).mono ?_
    rintro e w2 ⟨rfl, hb2⟩
    rw [hE2]
    have h6 := H1.out.1.below hb2 H1.out.1.lt
    have h8 := H1.out.2.1.below hb2 H1.out.2.1.lt
    have c6 := h6.cell 0
    have f6 := h6.frozen 0
    have c8 := h8.cell 0
    have f8 := h8.frozen 0
    have hlt6 := h6.lt
    have hlt8 := h8.lt
    have H2 := hide (H1.out.2.2.next hb2)
    clear hb2 H1 HW1 h6 h8
    dsimp only
    go_wp2_with fail
    have hA : ((w2.setCell ⟨w.heap.size + 1 + 1, 0, none⟩ (.slice none 0 0)).setCell ⟨w.heap.size + 1 + 1 + 1, 0, none⟩ (.int .i64 2)).cell? ⟨w.heap.size + 1 + 1, 0, none⟩ = some (.slice none 0 0) := by
      rw [World.cell?_setCell_other _ _ _ _ (fun e => by simp at e)]
      exact World.cell?_setCell_same' _ _ _ (by rw [c6]; rfl)
    have hA2 : ((w2.setCell ⟨w.heap.size + 1 + 1, 0, none⟩ (.slice none 0 0)).setCell ⟨w.heap.size + 1 + 1 + 1, 0, none⟩ (.int .i64 2)).cell? ⟨w.heap.size + 1 + 1 + 1, 0, none⟩ = some (.int .i64 2) :=
      World.cell?_setCell_same' _ _ _ (by rw [World.cell?_setCell_other _ _ _ _ (fun e => by simp at e), c8]; rfl)
    refine bodyPost_ret (v := .tuple #[.slice none 0 0, .int .i64 2]) (by simp [results, Try.f43, go_sem, hA, hA2]) rfl ⟨.slice none 0 0, rfl, World.ownsRow_nil _ _ _ _, ?_⟩
    exact (H2.out.setCell (p := ⟨w.heap.size + 1 + 1, 0, none⟩) (by show w.heap.size ≤ w.heap.size + 1 + 1; omega) _).setCell (p := ⟨w.heap.size + 1 + 1 + 1, 0, none⟩) (by show w.heap.size ≤ w.heap.size + 1 + 1 + 1; omega) _
end Go.Proofs.Ytajeohmmobgcjaa
