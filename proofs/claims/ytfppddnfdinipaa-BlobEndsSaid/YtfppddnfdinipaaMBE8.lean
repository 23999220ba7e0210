/- spenceref07: Apart, Free, Find. spencelaw07: sameRuns, awake. spencelaw07: BlobFinds. spencelaw07: BlobFinds tells true of whatever runs. rows that grow in a region that draws its order: the relation of worlds. spenceref07: places. -/
import Derived.Test.YtfppddnfdinipaaMBE7
import Derived.Test.YtfppddnfdinipaaMBE3
import Derived.Test.YtfppddnfdinipaaMBE2
import Derived.Test.YtfppddnfdinipaaMBE6
import Derived.Test.YtfppddnfdinipaaMBE4
section
namespace Go.Proofs.Ytfppddnfdinipaa
open Go Go.RowKit
set_option maxRecDepth 100000
theorem mark_cell {w : World} {B h D k : Nat} {l : List Nat} (ho : w.ownsRow B 4 1 (.slice (some ⟨h, 0, none⟩) D D) D (marksC D l)) (hk : k < D) : w.cell? ⟨h, k, none⟩ = some (.bool (l.contains k)) := by
  have hmc := marksC_at l hk
  have := own_range ho k 1 [.bool (l.contains k)] (by
    obtain ⟨hi, he⟩ := List.getElem?_eq_some_iff.1 hmc
    rw [List.drop_eq_getElem_cons hi, he]
    rfl)
  exact this 0 _ rfl
theorem rapart_any (l a d : Int) (v : Value) (rs : List Run) (hlen : rs.length ≤ 1000000) (w : World) (hrs : RunsM w w.heap.size v rs) :
    Calls Try.prog 77 #[.agg #[.int .i64 l, .int .i64 a, .int .i64 d], v] w fun e w' => e = .returned (.bool (decide (apartP l a d rs))) ∧ Below w.heap.size w w' := by
  have hal := hrs.below ((Below.refl _ w).alloc (Nat.le_refl _) (.cells #[.int .i64 l, .int .i64 a, .int .i64 d] 64))
  clear hrs
  go_enter Try.func77, Try.ntmps77
  go_wp2_with fail
  refine (marks_any l a d v rs hlen _ hal).mono ?_
  rintro e w1 ⟨hb, h⟩
  have HB : Hid (Below w.heap.size w w1) := hide (((Below.refl _ w).alloc (Nat.le_refl _) _).next hb)
  clear hb hal
  rcases h with ⟨hap, h, rfl, _⟩ | ⟨hap, rfl⟩
  · dsimp only
    go_wp2_with fail
    go_ret
    rw [decide_eq_true hap]
    exact ⟨rfl, HB.out⟩
  · dsimp only
    go_wp2_with fail
    go_ret
    rw [decide_eq_false hap]
    exact ⟨rfl, HB.out⟩
set_option maxHeartbeats 1000000 in
theorem rfree_any (l a d : Int) (v : Value) (rs : List Run) (hlen : rs.length ≤ 1000000) (w : World) (hrs : RunsM w w.heap.size v rs) :
    Calls Try.prog 75 #[.agg #[.int .i64 l, .int .i64 a, .int .i64 d], v] w fun e w' => e = .returned (.tuple #[.int .i64 (freeN l a d rs), .int .i64 (freeE l a d rs)]) ∧ Below w.heap.size w w' := by
  have hal := hrs.below ((Below.refl _ w).alloc (Nat.le_refl _) (.cells #[.int .i64 l, .int .i64 a, .int .i64 d] 64))
  clear hrs
  go_enter Try.func75, Try.ntmps75
  go_wp2_with fail
  refine (marks_any l a d v rs hlen _ hal).mono ?_
  rintro e w1 ⟨hb, h⟩
  have HB : Hid (Below w.heap.size w w1) := hide (((Below.refl _ w).alloc (Nat.le_refl _) _).next hb)
  clear hb hal
  rcases h with ⟨hap, h, rfl, ho⟩ | ⟨hap, rfl⟩
  · have hN : freeN l a d rs = ((freeTo rs d.toNat).length : Int) := if_pos hap
    have hE : freeE l a d rs = 0 := if_pos hap
    have hD : d.toNat ≤ 8192 := by have := apart_d hap; omega
    generalize d.toNat = D at ho hN hD ⊢
    have HN := hide (And.intro hN hE)
    have HO := hide ho
    clear hN hE ho
    dsimp only
    go_wp2_with fail
    go_loopw [8, 9] (fun N i wr => ∃ k : Nat, k ≤ D ∧ i = .int .i64 (k : Int) ∧ N = .int .i64 ((freeTo rs k).length : Int) ∧ wr = w1) (fun _ i _ => D - (intOf i).toNat)
    case atStart => exact ⟨0, by omega, rfl, rfl, rfl⟩
    case round =>
      obtain ⟨k, hk, rfl, rfl, rfl⟩ := hrel
      have hfl := freeTo_len rs k
      have f1 : (0 : Int) ≤ ((freeTo rs k).length : Int) := by omega
      have f2 : ((freeTo rs k).length : Int) ≤ 8192 := by omega
      by_cases hk2 : k < D
      · have n1 : (k : Int) < (D : Int) := by omega
        have n2 : (0 : Int) ≤ (k : Int) := by omega
        have n3 : (D : Int) ≤ 8192 := by omega
        have hc := mark_cell HO.out hk2
        have hs := freeTo_succ rs k
        cases hcon : (pos rs).contains k with
        | true =>
          rw [hcon] at hc hs
          rw [if_pos rfl, List.append_nil] at hs
          go_wp2_with fail
          exact ⟨⟨k + 1, by omega, by go_num, by rw [hs], trivial⟩, by simp [intOf]; omega⟩
        | false =>
          rw [hcon] at hc hs
          rw [if_neg (by simp)] at hs
          have hs2 : (freeTo rs (k + 1)).length = (freeTo rs k).length + 1 := by rw [hs, List.length_append]; rfl
          go_wp2_with fail
          exact ⟨⟨k + 1, by omega, by go_num, by rw [hs2]; go_num, trivial⟩, by simp [intOf]; omega⟩
      · obtain rfl : k = D := by omega
        go_wp2_with fail
        refine bodyPost_ret (v := .tuple #[.int .i64 ((freeTo rs k).length : Int), .int .i64 0]) (by simp [results, Try.f75, go_sem]) rfl ?_
        rw [HN.out.1, HN.out.2]
        exact ⟨rfl, HB.out⟩
  · have hN : freeN l a d rs = 0 := if_neg hap
    have hE : freeE l a d rs = 2 := if_neg hap
    dsimp only
    go_wp2_with fail
    refine bodyPost_ret (v := .tuple #[.int .i64 0, .int .i64 2]) (by simp [results, Try.f75, go_sem]) rfl ?_
    rw [hN, hE]
    exact ⟨rfl, HB.out⟩
/-- what Find is in the loop -/
structure RFindAt (w0 w : World) (B h D : Nat) (rs : List Run) (n : Nat) (k : Nat) (M O : Value) : Prop where
  kd : k ≤ D
  len : (freeTo rs k).length ≤ n
  many : M = .int .i64 ((n : Int) - ((freeTo rs k).length : Int))
  own : OwnRuns B w O (grps (freeTo rs k))
  marks : w.ownsRow w0.heap.size 4 1 (.slice (some ⟨h, 0, none⟩) D D) D (marksC D (pos rs))
  sz : B ≤ w.heap.size
  lt : h < B
  below : Below w0.heap.size w0 w
  w0 : w0.heap.size ≤ B
theorem RFindAt.drewN {w0 w : World} {B h D n k : Nat} {rs : List Run} {M O : Value} (q : RFindAt w0 w B h D rs n k M O) (i : Nat) : RFindAt w0 (w.drewN i) B h D rs n k M O :=
  ⟨q.kd, q.len, q.many, q.own.below (below_drewN (Below.refl _ _) i), q.marks, q.sz, q.lt, below_drewN q.below i, q.w0⟩
theorem RFindAt.next {w0 w W : World} {B h D n k : Nat} {rs : List Run} {M O O' : Value} (q : RFindAt w0 w B h D rs n k M O) (hk : k < D) (hn : (freeTo rs k).length ≠ n) (hs : freeTo rs (k + 1) = freeTo rs k ++ [k])
    (own : OwnRuns B W O' (grp (grps (freeTo rs k)) k)) (hh : W.heap[h]? = w.heap[h]?) (sz : B ≤ W.heap.size) (below : Below w0.heap.size w0 W) : RFindAt w0 W B h D rs n (k + 1) (.int .i64 ((n : Int) - ((freeTo rs k).length : Int) - 1)) O' := by
  have hl : (freeTo rs (k + 1)).length = (freeTo rs k).length + 1 := by rw [hs, List.length_append]; rfl
  have hgr : grps (freeTo rs (k + 1)) = grp (grps (freeTo rs k)) k := by rw [hs, grps_app]
  have := q.len
  refine ⟨by omega, by omega, by rw [hl]; congr 1; omega, by rw [hgr]; exact own, owned_keepN q.marks fun g hg _ => ?_, sz, q.lt, below, q.w0⟩
  have hg : some h = some g := hg
  injection hg with hg
  subst hg
  exact hh
theorem RFindAt.push {w0 W : World} {B h D n k : Nat} {rs : List Run} {M O : Value} (q : RFindAt w0 W B h D rs n k M O) (hk : k < D) (hD : D ≤ 8192) (hn : (freeTo rs k).length ≠ n) (hs : freeTo rs (k + 1) = freeTo rs k ++ [k])
    (hgrp : grp (grps (freeTo rs k)) k = grps (freeTo rs k) ++ [((k : Int), 1)]) :
    ∃ v' w', (Builtin.append_ #[73, 73] 73 #[O, .slice (some ⟨W.heap.size, 0, none⟩) 1 1]).run Try.prog (W.alloc (.cells #[.int .i64 (k : Int), .int .i64 1] 88)) = .ok v' w' ∧ RFindAt w0 w' B h D rs n (k + 1) (.int .i64 ((n : Int) - ((freeTo rs k).length : Int) - 1)) v' := by
  have hgl := (gok rs k).len
  have hcells : ∀ j r, [((k : Int), (1 : Int))][j]? = some r → (W.alloc (.cells #[.int .i64 (k : Int), .int .i64 1] 88)).cell? ⟨W.heap.size, 0 + j * 2, none⟩ = some (.int .i64 r.1) ∧ (W.alloc (.cells #[.int .i64 (k : Int), .int .i64 1] 88)).cell? ⟨W.heap.size, 0 + j * 2 + 1, none⟩ = some (.int .i64 r.2) := by
    intro j r hj
    have hb := Blk.new W 88 #[.int .i64 (k : Int), .int .i64 1]
    cases j with
    | zero =>
      injection hj with hj
      subst hj
      exact ⟨hb.cell 0, hb.cell 1⟩
    | succ j => simp at hj
  obtain ⟨v', w', happ, hown', hgr', hbe'⟩ := q.own.app (news := [((k : Int), 1)]) q.sz ((Below.refl _ _).alloc (Nat.le_refl _) (.cells #[.int .i64 (k : Int), .int .i64 1] 88)) (by simp) (by simp; omega) W.heap.size 0 hcells (by
    intro r hr'
    obtain rfl := List.mem_singleton.1 hr'
    show (_ ∧ _) ∧ (_ ∧ _)
    omega) 1
  refine ⟨v', w', happ, q.next hk hn hs ?_ (hbe'.block h q.lt) (Nat.le_trans q.sz hbe'.size) (q.below.trans (hbe'.mono q.w0))⟩
  rw [hgrp]
  exact hown'
set_option maxHeartbeats 4000000 in
theorem rfind_ok (l a d : Int) (v : Value) (rs : List Run) (hlen : rs.length ≤ 1000000) (hap : apartP l a d rs) (n : Nat) (hn : n ≤ (freeTo rs d.toNat).length) (w : World) (hrs : RunsM w w.heap.size v rs) :
    Calls Try.prog 74 #[.agg #[.int .i64 l, .int .i64 a, .int .i64 d], .int .i64 (n : Int), v] w fun e w' => ∃ o, e = .returned (.tuple #[o, .int .i64 0]) ∧ OwnRuns w.heap.size w' o (findP rs d.toNat n) ∧ Below w.heap.size w w' := by
  have hb0 : Below w.heap.size w (w.alloc (.cells #[.int .i64 l, .int .i64 a, .int .i64 d] 64)) := (Below.refl _ w).alloc (Nat.le_refl _) _
  have hal := hrs.below hb0
  have hN : freeN l a d rs = ((freeTo rs d.toNat).length : Int) := if_pos hap
  have hE : freeE l a d rs = 0 := if_pos hap
  have hD : d.toNat ≤ 8192 := by have := apart_d hap; omega
  have hfl := freeTo_len rs d.toNat
  have HRS := hide (And.intro hrs hal)
  clear hrs hal hb0
  go_enter Try.func74, Try.ntmps74
  go_wp2_with fail
  refine (marks_any l a d v rs hlen _ HRS.out.2).mono ?_
  rintro e w1 ⟨hb, h⟩
  have HB : Hid (Below w.heap.size w w1) := hide (((Below.refl _ w).alloc (Nat.le_refl _) _).next hb)
  have hsh : Blk w1 w.heap.size 64 #[.int .i64 l, .int .i64 a, .int .i64 d] := (Blk.new w _ _).below hb (by rw [size_alloc]; omega)
  have c0 := hsh.cell 0
  have c1 := hsh.cell 1
  have c2 := hsh.cell 2
  have hlt := hsh.lt
  clear hb hsh
  rcases h with ⟨_, h, rfl, ho⟩ | ⟨hno, rfl⟩
  · have HO : Hid (w1.ownsRow w.heap.size 4 1 (.slice (some ⟨h, 0, none⟩) d.toNat d.toNat) d.toNat (marksC d.toNat (pos rs))) := hide (owned_baseN ho fun g hg => by have := (owned_ltN ho hg).1; rw [size_alloc] at this; omega)
    have n1 : (0 : Int) ≤ (n : Int) := by omega
    clear ho
    dsimp only
    go_wp2_with fail
    refine (rfree_any l a d v rs hlen _ (HRS.out.1.below HB.out)).mono ?_
    rintro e w2 ⟨rfl, hb2⟩
    rw [hN, hE]
    have n2 : ¬ ((freeTo rs d.toNat).length : Int) < (n : Int) := by omega
    have hA : RFindAt w w2 w2.heap.size h d.toNat rs n 0 (.int .i64 (n : Int)) (.slice none 0 0) := by
      have ho2 := owned_keepN HO.out (w' := w2) fun g _ hl => hb2.block g hl
      refine ⟨by omega, by simp [freeTo_zero], by simp [freeTo_zero], ownRuns_nil _ _, ho2, Nat.le_refl _, (owned_ltN ho2 (g := h) rfl).2, HB.out.next hb2, (HB.out.next hb2).size⟩
    clear hb2
    generalize hDD : d.toNat = D at hA hD hfl hn n2 hN HO ⊢
    have HDD := hide hDD
    clear hDD
    have HA := hide (And.intro hA hn)
    clear hA hn HO hN
    dsimp only
    go_wp2_with fail
    generalize w2.heap.size = B at HA
    go_loopw [1, 12, 13] (fun M O i wr => ∃ k : Nat, i = .int .i64 (k : Int) ∧ RFindAt w wr B h D rs n k M O) (fun _ _ i _ => D - (intOf i).toNat)
    case atStart => exact ⟨0, rfl, HA.out.1⟩
    case round =>
      obtain ⟨k, rfl, hat⟩ := hrel
      have hG := gok rs k
      have HG := hide hG
      have hM := hat.many
      subst hM
      have hkd := hat.kd
      have hlen2 := hat.len
      have hfk := freeTo_len rs k
      have HR := hide hat
      have q4 : (0 : Int) ≤ (k : Int) := by omega
      have q5 : (D : Int) ≤ 8192 := by omega
      clear hat hG
      by_cases hfull : (freeTo rs k).length = n
      · have e0 : (n : Int) - ((freeTo rs k).length : Int) = 0 := by omega
        rw [e0]
        by_cases hkD : k < D
        · have q3 : (k : Int) < (D : Int) := by omega
          go_wp2_with fail
          refine bodyPost_ret (v := .tuple #[u12, .int .i64 0]) (by simp [results, Try.f74, go_sem]) rfl ⟨u12, rfl, ?_, HR.out.below⟩
          rw [HDD.out, findP_at HR.out.kd hfull]
          exact ⟨owned_baseN HR.out.own.1 fun h hh => by have := (owned_ltN HR.out.own.1 hh).1; have := HR.out.w0; omega, HR.out.own.2⟩
        · have q3 : ¬ (k : Int) < (D : Int) := by omega
          go_wp2_with fail
          refine bodyPost_ret (v := .tuple #[u12, .int .i64 0]) (by simp [results, Try.f74, go_sem]) rfl ⟨u12, rfl, ?_, HR.out.below⟩
          rw [HDD.out, findP_at HR.out.kd hfull]
          exact ⟨owned_baseN HR.out.own.1 fun h hh => by have := (owned_ltN HR.out.own.1 hh).1; have := HR.out.w0; omega, HR.out.own.2⟩
      · have hkD : k < D := by
          rcases Nat.lt_or_ge k D with h | h
          · exact h
          · obtain rfl : k = D := by omega
            have := HA.out.2
            omega
        have q1 : (0 : Int) < (n : Int) - ((freeTo rs k).length : Int) := by omega
        have q2 : (n : Int) - ((freeTo rs k).length : Int) ≤ 8192 := by have := HA.out.2; omega
        have q3 : (k : Int) < (D : Int) := by omega
        generalize hrem : (n : Int) - ((freeTo rs k).length : Int) = rem at q1 q2 ⊢
        have HREM := hide hrem
        clear hrem
        have hc := mark_cell HR.out.marks hkD
        have hsucc := freeTo_succ rs k
        cases hcon : (pos rs).contains k with
        | true =>
          rw [hcon] at hc
          rw [hcon, if_pos rfl, List.append_nil] at hsucc
          go_wp2_with fail
          have hr := HR.out
          refine ⟨⟨k + 1, by go_num, by omega, by rw [hsucc]; exact hr.len, by rw [hsucc, HREM.out], by rw [hsucc]; exact hr.own, hr.marks, hr.sz, hr.lt, hr.below, hr.w0⟩, by simp [intOf]; omega⟩
        | false =>
          rw [hcon] at hc
          rw [hcon, if_neg (by simp)] at hsucc
          have hstep := grps_app (freeTo rs k) k
          rw [← hsucc] at hstep
          rcases List.eq_nil_or_concat (grps (freeTo rs k)) with hnil | ⟨ini, r, hini⟩
          · have hgrp : grp (grps (freeTo rs k)) k = grps (freeTo rs k) ++ [((k : Int), 1)] := by rw [hnil]; rfl
            have hown := HR.out.own
            rw [hnil] at hown
            obtain ⟨A', cp', rfl, _⟩ := hown.m
            have HG2 := hide (And.intro hgrp (And.intro hsucc hstep))
            clear hgrp hsucc hstep hown
            simp only [List.length_nil] at HR ⊢
            go_wp2_with fail
            go_quiet (fail)
            obtain ⟨v', w', happ, hat'⟩ := (HR.out.drewN nq).push hkD hD hfull HG2.out.2.1 HG2.out.1
            rw [HREM.out] at hat'
            have HAP := hide (And.intro happ hat')
            clear happ hat'
            go_wp2_with (at_builtin; refine wpList_value (o := ⟨some 87, _, _, _, _, _⟩) rfl v' w' (exec_append (o := ⟨some 87, _, _, _, _, _⟩) (.tmp 83) (.tmp 86) 73 rfl (.slice A' 0 cp') (.slice (some ⟨wr.heap.size, 0, none⟩) 1 1) _ _ _ rfl rfl HAP.out.1) ?_)
            exact ⟨⟨k + 1, by go_num, HAP.out.2⟩, by simp [intOf]; omega⟩
          · rw [List.concat_eq_append] at hini
            have hown := HR.out.own
            rw [hini] at hown
            obtain ⟨l1, l2, l3⟩ := HG.out.each r (by rw [hini]; simp)
            obtain ⟨hh, cap, rfl⟩ := owned_placeN hown.1 (by simp)
            have hth := own_there hown.1 (ini.length * 2 + 1) 1 (by simp; omega)
            have hhl := owned_ltN hown.1 (g := hh) rfl
            have hrng := own_range hown.1 (ini.length * 2) 2 [.int .i64 r.1, .int .i64 r.2] (by rw [runCells_app, List.drop_left' (runCells_len _)]; rfl)
            have d0 := hrng 0 _ rfl
            have d1 := hrng 1 _ rfl
            have z4 := (hth 0 (by omega)).2
            have hll : (ini ++ [r]).length = ini.length + 1 := by simp
            have hgl := HG.out.len
            rw [hini, hll] at hgl
            rw [Nat.add_zero] at d0 z4
            have i1 : (0 : Int) ≤ (ini.length : Int) := by omega
            have i2 : (ini.length : Int) ≤ 8192 := by omega
            have i3 : r.2 ≤ 8192 := by omega
            have i4 : r.1 ≤ 8192 := by omega
            have HOWN := hide hown
            clear hown hth hrng
            by_cases pp : r.1 + r.2 = (k : Int)
            · have hgrp : grp (grps (freeTo rs k)) k = ini ++ [(r.1, r.2 + 1)] := by
                rw [hini, grp, lastR_app, if_pos ⟨by omega, pp⟩, List.dropLast_concat]
              have HG2 := hide (And.intro hgrp (And.intro hsucc (And.intro hstep hini)))
              clear hgrp hsucc hstep hini
              simp only [hll] at HR ⊢
              go_wp2_with fail
              go_quiet (fail)
              go_wp2_with fail
              have hr := HR.out.drewN nq
              obtain ⟨hgrp, hsucc, hstep, hini⟩ := HG2.out
              have hown := HOWN.out
              have hown1 : (wr.drewN nq).ownsRow B 88 2 (.slice (some ⟨hh, 0, none⟩) (ini.length + 1) cap) (ini.length + 1) (runCells (ini ++ [r])) := by
                have := hown.1
                rw [hll] at this
                exact this
              have ho2 := own_setCells hown1 (ini.length * 2 + 1) [.int .i64 (r.2 + 1)] (by simp; omega)
              have e1 : (runCells (ini ++ [r])).take (ini.length * 2 + 1) = runCells ini ++ [.int .i64 r.1] := by
                rw [runCells_app, List.take_append, runCells_len, List.take_of_length_le (by rw [runCells_len]; omega), show ini.length * 2 + 1 - ini.length * 2 = 1 by omega]
                rfl
              have e2 : (runCells (ini ++ [r])).drop (ini.length * 2 + 1 + [Value.int .i64 (r.2 + 1)].length) = [] :=
                List.drop_eq_nil_of_le (by rw [runCells_len, hll]; simp; omega)
              rw [e1, e2] at ho2
              refine ⟨⟨k + 1, by go_num, ?_⟩, by simp [intOf]; omega⟩
              rw [← HREM.out]
              have hlt := hr.lt
              refine hr.next hkD hfull hsucc ?_ (Below.heap_setCell _ _ _ _ (by show h ≠ hh; omega)) (by simpa using hr.sz) (hr.below.setCell (by show w.heap.size ≤ hh; have := hr.w0; omega) _)
              rw [hgrp]
              refine ⟨?_, ?_⟩
              · rw [runCells_app, List.length_append]
                have e3 : runCells ini ++ [Value.int .i64 r.1] ++ ([.int .i64 (r.2 + 1)] ++ []) = runCells ini ++ runCells [(r.1, r.2 + 1)] := by
                  rw [List.append_assoc]
                  rfl
                rw [← e3]
                exact ho2
              · intro q hq
                rcases List.mem_append.1 hq with hq | hq
                · exact hown.2 q (by simp [hq])
                · obtain rfl := List.mem_singleton.1 hq
                  show (_ ∧ _) ∧ (_ ∧ _)
                  omega
            · have hgrp : grp (grps (freeTo rs k)) k = grps (freeTo rs k) ++ [((k : Int), 1)] := by
                rw [hini, grp, lastR_app, if_neg (fun h => pp h.2)]
              have HG2 := hide (And.intro hgrp (And.intro hsucc (And.intro hstep hini)))
              clear hgrp hsucc hstep hini
              simp only [hll] at HR ⊢
              go_wp2_with fail
              go_quiet (fail)
              obtain ⟨v', w', happ, hat'⟩ := (HR.out.drewN nq).push hkD hD hfull HG2.out.2.1 HG2.out.1
              rw [HREM.out] at hat'
              have HAP := hide (And.intro happ hat')
              clear happ hat'
              go_wp2_with (at_builtin; refine wpList_value (o := ⟨some 87, _, _, _, _, _⟩) rfl v' w' (exec_append (o := ⟨some 87, _, _, _, _, _⟩) (.tmp 83) (.tmp 86) 73 rfl (.slice (some ⟨hh, 0, none⟩) (ini.length + 1) cap) (.slice (some ⟨wr.heap.size, 0, none⟩) 1 1) _ _ _ rfl rfl HAP.out.1) ?_)
              exact ⟨⟨k + 1, by go_num, HAP.out.2⟩, by simp [intOf]; omega⟩
  · exact absurd hap hno
theorem rfind_any (l a d : Int) (v : Value) (rs : List Run) (hlen : rs.length ≤ 1000000) (n : Int) (w : World) (hrs : RunsM w w.heap.size v rs) :
    Calls Try.prog 74 #[.agg #[.int .i64 l, .int .i64 a, .int .i64 d], .int .i64 n, v] w fun e w' => ∃ o, e = .returned (.tuple #[o, .int .i64 (findE l a d rs n)]) ∧ OwnRuns w.heap.size w' o (findR l a d rs n) ∧ Below w.heap.size w w' := by
  have hb0 : Below w.heap.size w (w.alloc (.cells #[.int .i64 l, .int .i64 a, .int .i64 d] 64)) := (Below.refl _ w).alloc (Nat.le_refl _) _
  have hal := hrs.below hb0
  by_cases hap : apartP l a d rs
  · by_cases hn : 0 ≤ n
    · by_cases hf : ((freeTo rs d.toNat).length : Int) < n
      · have hE : findE l a d rs n = 7 := by rw [findE, if_pos ⟨hap, hn⟩, if_pos hf]
        have hR : findR l a d rs n = [] := by rw [findR, hE]; rfl
        rw [hE, hR]
        have hN : freeN l a d rs = ((freeTo rs d.toNat).length : Int) := if_pos hap
        have hE2 : freeE l a d rs = 0 := if_pos hap
        have HRS := hide (And.intro hrs hal)
        clear hrs hal hb0 hE hR
        go_enter Try.func74, Try.ntmps74
        go_wp2_with fail
        refine (marks_any l a d v rs hlen _ HRS.out.2).mono ?_
        rintro e w1 ⟨hb, h⟩
        have HB : Hid (Below w.heap.size w w1) := hide (((Below.refl _ w).alloc (Nat.le_refl _) _).next hb)
        have hsh : Blk w1 w.heap.size 64 #[.int .i64 l, .int .i64 a, .int .i64 d] := (Blk.new w _ _).below hb (by rw [size_alloc]; omega)
        have c0 := hsh.cell 0
        have c1 := hsh.cell 1
        have c2 := hsh.cell 2
        have hlt := hsh.lt
        clear hb hsh
        rcases h with ⟨_, h, rfl, ho⟩ | ⟨hno, rfl⟩
        · clear ho
          generalize d.toNat = D at hN hf ⊢
          dsimp only
          go_wp2_with fail
          refine (rfree_any l a d v rs hlen _ (HRS.out.1.below HB.out)).mono ?_
          rintro e w2 ⟨rfl, hb2⟩
          rw [hN, hE2]
          have HB2 := hide (HB.out.next hb2)
          clear hb2
          dsimp only
          go_wp2_with fail
          refine bodyPost_ret (v := .tuple #[.slice none 0 0, .int .i64 7]) (by simp [results, Try.f74, go_sem]) rfl ⟨_, rfl, ownRuns_nil _ _, HB2.out⟩
        · exact absurd hap hno
      · have hE : findE l a d rs n = 0 := by rw [findE, if_pos ⟨hap, hn⟩, if_neg hf]
        have hR : findR l a d rs n = findP rs d.toNat n.toNat := by rw [findR, hE]; rfl
        rw [hE, hR]
        have h := rfind_ok l a d v rs hlen hap n.toNat (by omega) w hrs
        rwa [Int.toNat_of_nonneg hn] at h
    · have hE : findE l a d rs n = 2 := by rw [findE, if_neg (fun h => hn h.2)]
      have hR : findR l a d rs n = [] := by rw [findR, hE]; rfl
      rw [hE, hR]
      have HRS := hide hal
      clear hrs hal hb0 hE hR
      go_enter Try.func74, Try.ntmps74
      go_wp2_with fail
      refine (marks_any l a d v rs hlen _ HRS.out).mono ?_
      rintro e w1 ⟨hb, h⟩
      have HB : Hid (Below w.heap.size w w1) := hide (((Below.refl _ w).alloc (Nat.le_refl _) _).next hb)
      clear hb
      rcases h with ⟨_, h, rfl, ho⟩ | ⟨hno, rfl⟩
      · clear ho hap
        generalize d.toNat = D
        dsimp only
        go_wp2_with fail
        refine bodyPost_ret (v := .tuple #[.slice none 0 0, .int .i64 2]) (by simp [results, Try.f74, go_sem]) rfl ⟨_, rfl, ownRuns_nil _ _, HB.out⟩
      · exact absurd hap hno
  · have hE : findE l a d rs n = 2 := by rw [findE, if_neg (fun h => hap h.1)]
    have hR : findR l a d rs n = [] := by rw [findR, hE]; rfl
    rw [hE, hR]
    have HRS := hide hal
    clear hrs hal hb0 hE hR
    go_enter Try.func74, Try.ntmps74
    go_wp2_with fail
    refine (marks_any l a d v rs hlen _ HRS.out).mono ?_
    rintro e w1 ⟨hb, h⟩
    have HB : Hid (Below w.heap.size w w1) := hide (((Below.refl _ w).alloc (Nat.le_refl _) _).next hb)
    clear hb
    rcases h with ⟨h1, _⟩ | ⟨hno, rfl⟩
    · exact absurd h1 hap
    · dsimp only
      go_wp2_with fail
      refine bodyPost_ret (v := .tuple #[.slice none 0 0, .int .i64 2]) (by simp [results, Try.f74, go_sem]) rfl ⟨_, rfl, ownRuns_nil _ _, HB.out⟩
end Go.Proofs.Ytfppddnfdinipaa
end
section
namespace Go.Proofs.Ytfppddnfdinipaa
open Go Go.RowKit
set_option maxRecDepth 100000
theorem run_neq_same (a b : Int) (w : World) : (binOp .neq 88 (.agg #[.int .i64 a, .int .i64 b]) (.agg #[.int .i64 a, .int .i64 b])).run Try.prog w = .ok (.bool false) w := by
  have hu := Try.underlying88
  have h1 := Try.underlying3
  go_simp
theorem RunsM.range {w : World} {B : Nat} {v : Value} {l : List Run} (h : RunsM w B v l) {k : Nat} {r : Run} (hr : l[k]? = some r) : ∃ b off cap, v = .slice (some ⟨b, off, none⟩) l.length cap ∧ w.rangeAt b (off + k * 2) [.int .i64 r.1, .int .i64 r.2] := by
  obtain ⟨A, cap, rfl, _, _, hA, _⟩ := h
  have hk := (List.getElem?_eq_some_iff.1 hr).1
  obtain ⟨b, off, rfl, _, hc⟩ := hA (by omega)
  refine ⟨b, off, cap, rfl, fun j u hu => ?_⟩
  match j, hu with
  | 0, hu => injection hu with hu; subst hu; exact (hc k r hr).1
  | 1, hu => injection hu with hu; subst hu; exact (hc k r hr).2
set_option maxHeartbeats 1000000 in
theorem sameRuns_any (v1 v2 : Value) (rs : List Run) (hlen : rs.length ≤ 1000000) (w : World) (h1 : RunsM w w.heap.size v1 rs) (h2 : RunsM w w.heap.size v2 rs) :
    Calls Try.prog 59 #[v1, v2] w fun e w' => e = .returned (.bool true) ∧ Below w.heap.size w w' := by
  obtain ⟨A1, c1, rfl, h1'⟩ := id h1
  obtain ⟨A2, c2, rfl, h2'⟩ := id h2
  have H := hide (And.intro h1 h2)
  clear h1 h2 h1' h2'
  go_enter Try.func59, Try.ntmps59
  go_wp2_with fail
  go_loopw [5] (fun i wr => ∃ k : Nat, k ≤ rs.length ∧ i = .int .i64 (k : Int) ∧ Below w.heap.size w wr) (fun i _ => rs.length - (intOf i).toNat)
  case atStart => exact ⟨0, by omega, rfl, Below.refl _ _⟩
  case round =>
    obtain ⟨k, hk, rfl, hb⟩ := hrel
    have HB := hide hb
    clear hb
    have n2 : (0 : Int) ≤ (k : Int) := by omega
    by_cases hk2 : k < rs.length
    · have n1 : (k : Int) < (rs.length : Int) := by omega
      obtain ⟨r, hr⟩ : ∃ r, rs[k]? = some r := ⟨_, List.getElem?_eq_getElem hk2⟩
      obtain ⟨b1, o1, cc1, e1, q1⟩ := (H.out.1.below HB.out).range hr
      obtain ⟨b2, o2, cc2, e2, q2⟩ := (H.out.2.below HB.out).range hr
      injection e1 with e1 _ e1'
      injection e2 with e2 _ e2'
      subst e1 e2 e1' e2'
      have HQ := hide (And.intro q1 q2)
      have hneq := run_neq_same r.1 r.2
      clear q1 q2 hr
      go_wp2_with fail
      refine wp_made 8 [] (by kernel_rfl) (by kernel_rfl) (by intro p hp; cases hp) List.nodup_nil (by intro t ht; cases ht) ?_
      simp only [List.take_succ_cons, List.take_zero, List.drop_succ_cons, List.drop_zero]
      refine made_val (.slice (some ⟨b1, o1, none⟩) rs.length c1) (by kernel_rfl) (by kernel_rfl) (by kernel_rfl) (fun _ _ => by kernel_rfl) ?_
      simp only [Act.put, List.setIfInBounds_toArray, List.set_cons_zero, List.set_cons_succ]
      refine made_val (.int .i64 (k : Int)) (by kernel_rfl) (by kernel_rfl) (by kernel_rfl) (fun _ _ => by kernel_rfl) ?_
      simp only [Act.put, List.setIfInBounds_toArray, List.set_cons_zero, List.set_cons_succ]
      refine made_val (.pointer (some ⟨b1, o1 + (k : Int).toNat * 2, none⟩)) (by kernel_rfl) (by kernel_rfl) (by kernel_rfl) (fun W _ => exec_index_off (o := ⟨some 19, _, _, _, _, _⟩) 73 88 (.tmp 17) (.tmp 18) rfl b1 o1 rs.length c1 (k : Int) .i64 rfl rfl ⟨n2, n1⟩ 2 Try.underlying73 sz_run W) ?_
      simp only [Act.put, List.setIfInBounds_toArray, List.set_cons_zero, List.set_cons_succ]
      rw [show (k : Int).toNat = k from Int.toNat_natCast k]
      refine made_val (.agg #[.int .i64 r.1, .int .i64 r.2]) (by kernel_rfl) (by kernel_rfl) (by kernel_rfl) (fun W hW => exec_load_mid (o := ⟨some 20, _, _, _, _, _⟩) 88 (.tmp 19) rfl b1 (o1 + k * 2) rfl [.int .i64 r.1, .int .i64 r.2] _ W (fun j u hu => (hW.cell (p := ⟨b1, o1 + k * 2 + j, none⟩) (World.block_lt_of_cell? wr _ (HQ.out.1 j u hu))).trans (HQ.out.1 j u hu)) Try.underlying88 rfl sz_run) ?_
      simp only [Act.put, List.setIfInBounds_toArray, List.set_cons_zero, List.set_cons_succ]
      refine made_val (.slice (some ⟨b2, o2, none⟩) rs.length c2) (by kernel_rfl) (by kernel_rfl) (by kernel_rfl) (fun _ _ => by kernel_rfl) ?_
      simp only [Act.put, List.setIfInBounds_toArray, List.set_cons_zero, List.set_cons_succ]
      refine made_val (.int .i64 (k : Int)) (by kernel_rfl) (by kernel_rfl) (by kernel_rfl) (fun _ _ => by kernel_rfl) ?_
      simp only [Act.put, List.setIfInBounds_toArray, List.set_cons_zero, List.set_cons_succ]
      refine made_val (.pointer (some ⟨b2, o2 + (k : Int).toNat * 2, none⟩)) (by kernel_rfl) (by kernel_rfl) (by kernel_rfl) (fun W _ => exec_index_off (o := ⟨some 23, _, _, _, _, _⟩) 73 88 (.tmp 21) (.tmp 22) rfl b2 o2 rs.length c2 (k : Int) .i64 rfl rfl ⟨n2, n1⟩ 2 Try.underlying73 sz_run W) ?_
      simp only [Act.put, List.setIfInBounds_toArray, List.set_cons_zero, List.set_cons_succ]
      rw [show (k : Int).toNat = k from Int.toNat_natCast k]
      refine made_val (.agg #[.int .i64 r.1, .int .i64 r.2]) (by kernel_rfl) (by kernel_rfl) (by kernel_rfl) (fun W hW => exec_load_mid (o := ⟨some 24, _, _, _, _, _⟩) 88 (.tmp 23) rfl b2 (o2 + k * 2) rfl [.int .i64 r.1, .int .i64 r.2] _ W (fun j u hu => (hW.cell (p := ⟨b2, o2 + k * 2 + j, none⟩) (World.block_lt_of_cell? wr _ (HQ.out.2 j u hu))).trans (HQ.out.2 j u hu)) Try.underlying88 rfl sz_run) ?_
      simp only [Act.put, List.setIfInBounds_toArray, List.set_cons_zero, List.set_cons_succ]
      show ∀ w', _ → _
      intro w4 hb4
      simp only [ended]
      have H4 := hide (HB.out.next hb4)
      clear hb4
      go_wp2_with fail
      exact ⟨⟨k + 1, by omega, by go_num, H4.out⟩, by simp [intOf]; omega⟩
    · have n1 : ¬ (k : Int) < (rs.length : Int) := by omega
      go_wp2_with fail
      go_ret
      exact ⟨rfl, HB.out⟩
theorem find_awake : findE 1 1 5 [(1, 2)] 3 = 0 ∧ findR 1 1 5 [(1, 2)] 3 = [(0, 1), (3, 2)] ∧ needP 65 = 2 := by decide +kernel
set_option maxHeartbeats 1000000 in
theorem awake7_any (w : World) : Calls Try.prog 28 #[] w fun e w' => e = .returned (.bool true) ∧ Below w.heap.size w w' := by
  obtain ⟨f1, f2, f3⟩ := find_awake
  have hrw : RunsM ((w.alloc (.cells #[.int .i64 1, .int .i64 1, .int .i64 5] 64)).alloc (.cells #[.int .i64 1, .int .i64 2] 88)) (w.heap.size + 1 + 1) (.slice (some ⟨w.heap.size + 1, 0, none⟩) 1 1) [(1, 2)] := by
    have := runs_new (w.alloc (.cells #[.int .i64 1, .int .i64 1, .int .i64 5] 64)) [(1, 2)] (by intro r hr; obtain rfl := List.mem_singleton.1 hr; show (_ ∧ _) ∧ (_ ∧ _); omega)
    rw [size_alloc] at this
    exact this
  have HRW := hide hrw
  have hb0 : Below w.heap.size w ((w.alloc (.cells #[.int .i64 1, .int .i64 1, .int .i64 5] 64)).alloc (.cells #[.int .i64 1, .int .i64 2] 88)) := ((Below.refl _ w).alloc (Nat.le_refl _) _).al _
  have HB0 := hide hb0
  clear hrw hb0
  go_enter Try.func28, Try.ntmps28
  go_wp2_with fail
  refine (lfind_any 1 1 5 (fun _ => by omega) _ [(1, 2)] (by simp) 3 _ (by simpa using HRW.out)).mono ?_
  rintro e w1 ⟨o, rfl, ho, hb1⟩
  rw [f1]
  rw [f2] at ho
  have H1 := hide (And.intro ho (HB0.out.next hb1))
  clear ho hb1
  dsimp only
  go_wp2_with fail
  have hr1 := runs_new w1 [(0, 1), (3, 2)] (by
    intro r hr
    have : r = (0, 1) ∨ r = (3, 2) := by simpa using hr
    rcases this with rfl | rfl <;> (show (_ ∧ _) ∧ (_ ∧ _); omega))
  have hb2 : Below w1.heap.size w1 (w1.alloc (.cells #[.int .i64 0, .int .i64 1, .int .i64 3, .int .i64 2] 88)) := (Below.refl _ _).alloc (Nat.le_refl _) _
  obtain ⟨A, cap, rfl, hm⟩ := H1.out.1.m
  refine (sameRuns_any _ _ [(0, 1), (3, 2)] (by simp) _ (hm.below hb2) (by rw [size_alloc]; exact hr1)).mono ?_
  rintro e w2 ⟨rfl, hb3⟩
  have H2 := hide ((H1.out.2.next hb2).next hb3)
  clear hb2 hb3 hr1 hm
  dsimp only
  go_wp2_with fail
  refine (need_any 65 (by omega) _).mono ?_
  rintro e w3 ⟨rfl, rfl⟩
  rw [f3]
  dsimp only
  go_wp2_with fail
  go_ret
  exact ⟨rfl, H2.out⟩
end Go.Proofs.Ytfppddnfdinipaa
end
section
namespace Go.Proofs.Ytfppddnfdinipaa
open Go Go.RowKit
set_option maxRecDepth 100000
/-- runs behind a row of one's own -/
theorem OwnRuns.appM {base B c : Nat} {w wm : World} {v : Value} {l news : List Run} {A : Option Addr} (h : OwnRuns base w v l) (hbase : base ≤ w.heap.size) (hw : Below w.heap.size w wm) (hm : RunsM wm B (.slice A news.length c) news) (hl : l.length + news.length ≤ 100000) :
    ∃ v' w', (Builtin.append_ #[73, 73] 73 #[v, .slice A news.length c]).run Try.prog wm = .ok v' w' ∧ OwnRuns base w' v' (l ++ news) ∧ wm.grownBy w' v.ownBlock ∧ Below base w w' := by
  obtain ⟨i, hi, hz0, hz1, hz2⟩ := info_parts info_run
  have hr := h.below hw
  have hs := hw.size
  obtain ⟨A', cap, hv, hcap, hnil, hA, h64⟩ := hm
  injection hv with e1 _ e2
  subst e1 e2
  rcases Nat.eq_zero_or_pos news.length with h0 | h0
  · obtain rfl := List.length_eq_zero_iff.1 h0
    rw [List.append_nil]
    cases A with
    | none =>
      obtain rfl := hnil rfl
      exact ⟨v, wm, run_append_owned_none (P := Try.prog) (w := wm) base 73 73 88 i 2 Try.underlying73 hi v l.length (runCells l) hr.1, hr, World.grownBy.refl wm _, Below.mono hw hbase⟩
    | some ad =>
      obtain ⟨v', w', k1, k2, k3, _, _⟩ := run_append_own_at (P := Try.prog) wm base 73 73 88 i (.agg #[.int .i64 0, .int .i64 0]) 2 16 Try.underlying73 hi hz0 hz1 hz2 rfl (by omega) v l.length (runCells l) hr.1 ad 0 c [] rfl (fun j u hu => by simp at hu) (fun u hu => by cases hu) (by simp only [maxLen]; omega) (by omega) (by omega)
      exact ⟨v', w', k1, ⟨by simpa using k2, h.2⟩, k3, (Below.mono hw hbase).grown k3 (by omega) fun k hk => (owned_ltN hr.1 hk).1⟩
  · obtain ⟨b, off, rfl, hb, hc⟩ := hA h0
    exact h.app hbase hw h0 hl b off hc h64 c
/-- what stays while the law asks: the shape, the runs that came in, the runs that are lent -/
structure Asks (w0 w : World) (l a d : Int) (v I : Value) (rs : List Run) : Prop where
  shape : Blk w w0.heap.size 64 #[.int .i64 l, .int .i64 a, .int .i64 d]
  held : RunsM w w.heap.size v rs
  lent : RunsM w w.heap.size I rs
  below : Below w0.heap.size w0 w
theorem Asks.grow {w0 w w' : World} {l a d : Int} {v I : Value} {rs : List Run} (h : Asks w0 w l a d v I rs) (hb : Below w.heap.size w w') : Asks w0 w' l a d v I rs :=
  ⟨h.shape.below hb h.shape.lt, h.held.below hb, h.lent.below hb, h.below.next hb⟩
theorem OwnRuns.runs {base : Nat} {w : World} {v : Value} {l : List Run} (h : OwnRuns base w v l) : RunsM w w.heap.size v l := by
  obtain ⟨A, cap, rfl, hm⟩ := h.m
  exact hm
theorem run_eql_bool (b : Bool) (w : World) : (binOp .eql 4 (.bool b) (.bool b)).run Try.prog w = .ok (.bool true) w := by
  have h2 := Try.underlying4
  go_simp
theorem findP_len (rs : List Run) (d n : Nat) : (findP rs d n).length ≤ d := by
  by_cases h : n ≤ (freeTo rs d).length
  · obtain ⟨k, hk, he⟩ := findP_where d h
    rw [findP_at hk he]
    exact Nat.le_trans (gok rs k).len hk
  · unfold findP
    rw [List.take_of_length_le (by omega)]
    exact (gok rs d).len
theorem findR_len (l a d : Int) (rs : List Run) (n : Int) : (findR l a d rs n).length ≤ 1000000 := by
  rw [findR]
  split
  · rename_i h
    have h1 := findP_len rs d.toNat n.toNat
    by_cases hap : apartP l a d rs ∧ 0 ≤ n
    · have := apart_d hap.1
      omega
    · rw [findE, if_neg hap] at h
      cases h
  · simp
set_option maxHeartbeats 4000000 in
theorem finds_in (l a d n : Int) (hn : -9223372036854775808 ≤ n ∧ n ≤ 9223372036854775807) (v : Value) (rs : List Run) (hlen : rs.length ≤ 60) (hsec : secs l a d ≤ 60) (w : World) (hrs : RunsM w w.heap.size v rs) :
    Calls Try.prog 41 #[.agg #[.int .i64 l, .int .i64 a, .int .i64 d], .int .i64 n, v] w fun e w' => e = .returned (.bool true) ∧ Below w.heap.size w w' := by
  have h64 : rightP l a d → d ≤ 64 := fun h => by
    have h1 := h.1
    have h2 := h.2.1
    rw [secs, if_pos h] at hsec
    unfold inW at h1 h2
    omega
  have hlen' : rs.length ≤ 1000000 := by omega
  obtain ⟨A, cp, rfl, hrest⟩ := id hrs
  clear hrest
  have hb0 : Below w.heap.size w (w.alloc (.cells #[.int .i64 l, .int .i64 a, .int .i64 d] 64)) := (Below.refl _ w).alloc (Nat.le_refl _) _
  have HRS := hide (And.intro (hrs.below hb0) h64)
  clear hrs hb0 h64
  go_enter Try.func41, Try.ntmps41
  go_wp2_with fail
  refine (rsecs_any l a d _).mono ?_
  rintro e w1 ⟨rfl, hb⟩
  have hsh : Blk w1 w.heap.size 64 #[.int .i64 l, .int .i64 a, .int .i64 d] := (Blk.new w _ _).below hb (by rw [size_alloc]; omega)
  have H1 := hide (And.intro hsh (And.intro (HRS.out.1.below hb) (((Below.refl _ w).alloc (Nat.le_refl _) (.cells #[.int .i64 l, .int .i64 a, .int .i64 d] 64)).next hb)))
  clear hb hsh
  obtain ⟨vI, w2, hap, hown, hgr, hbe⟩ := OwnRuns.appM (base := w1.heap.size) (w := w1.alloc (.cells #[] 88)) (wm := w1.alloc (.cells #[] 88)) (v := .slice (some ⟨w1.heap.size, 0, none⟩) 0 0) (l := []) (B := (w1.alloc (.cells #[] 88)).heap.size) (c := cp) (A := A) (news := rs)
    ⟨⟨rfl, .inr ⟨w1.heap.size, 0, #[], rfl, Nat.le_refl _, Blk.new w1 88 #[], Nat.le_refl _, Nat.zero_le _, rfl, rfl⟩⟩, fun r hr => by cases hr⟩ (by rw [size_alloc]; omega) (Below.refl _ _) (H1.out.2.1.below ((Below.refl _ _).alloc (Nat.le_refl _) _)) (by simp; omega)
  have hb2 : Below w1.heap.size w1 w2 := ((Below.refl _ w1).alloc (Nat.le_refl _) _).trans hbe
  have H2 : Hid (Asks w w2 l a d (.slice A rs.length cp) vI rs) := hide ⟨H1.out.1.below hb2 H1.out.1.lt, H1.out.2.1.below hb2, hown.runs, H1.out.2.2.next hb2⟩
  have HAP := hide hap
  clear hap hown hgr hbe hb2
  have c0 := H2.out.shape.cell 0
  have c1 := H2.out.shape.cell 1
  have c2 := H2.out.shape.cell 2
  have hlt := H2.out.shape.lt
  dsimp only
  go_wp2_with (at_builtin; refine wpList_value (o := ⟨some 27, _, _, _, _, _⟩) rfl vI w2 (exec_append (o := ⟨some 27, _, _, _, _, _⟩) (.tmp 25) (.tmp 26) 73 rfl (.slice (some ⟨w1.heap.size, 0, none⟩) 0 0) (.slice A rs.length cp) _ _ _ rfl rfl HAP.out) ?_)
  refine (lfind_any l a d HRS.out.2 vI rs hlen' n w2 H2.out.lent).mono ?_
  rintro e w3 ⟨o1, rfl, ho1, hb3⟩
  have H3 := hide (And.intro (H2.out.grow hb3) ho1.runs)
  clear ho1 hb3 c0 c1 c2 hlt H2 HAP
  have c0 := H3.out.1.shape.cell 0
  have c1 := H3.out.1.shape.cell 1
  have c2 := H3.out.1.shape.cell 2
  have hlt := H3.out.1.shape.lt
  dsimp only
  go_wp2_with fail
  refine (rfind_any l a d _ rs hlen' n w3 H3.out.1.held).mono ?_
  rintro e w4 ⟨o2, rfl, ho2, hb4⟩
  have H4 := hide (And.intro (H3.out.1.grow hb4) (And.intro (H3.out.2.below hb4) ho2.runs))
  clear ho2 hb4 c0 c1 c2 hlt H3
  have c0 := H4.out.1.shape.cell 0
  have c1 := H4.out.1.shape.cell 1
  have c2 := H4.out.1.shape.cell 2
  have hlt := H4.out.1.shape.lt
  dsimp only
  go_wp2_with fail
  refine (lfree_any l a d HRS.out.2 vI rs hlen' w4 H4.out.1.lent).mono ?_
  rintro e w5 ⟨rfl, hb5⟩
  have H5 := hide (And.intro (H4.out.1.grow hb5) (And.intro (H4.out.2.1.below hb5) (H4.out.2.2.below hb5)))
  clear hb5 c0 c1 c2 hlt H4
  have c0 := H5.out.1.shape.cell 0
  have c1 := H5.out.1.shape.cell 1
  have c2 := H5.out.1.shape.cell 2
  have hlt := H5.out.1.shape.lt
  dsimp only
  go_wp2_with fail
  refine (rfree_any l a d _ rs hlen' w5 H5.out.1.held).mono ?_
  rintro e w6 ⟨rfl, hb6⟩
  have HA := hide (H5.out.1.grow hb6)
  have HO := hide (And.intro (H5.out.2.1.below hb6) (H5.out.2.2.below hb6))
  clear hb6 c0 c1 c2 hlt H5
  have hfl : (findR l a d rs n).length ≤ 1000000 := findR_len l a d rs n
  dsimp only
  go_wp2_with fail
  refine wp_made 42 [] (by kernel_rfl) (by kernel_rfl) (by intro p hp; cases hp) List.nodup_nil (by intro t ht; cases ht) ?_
  simp only [List.take_succ_cons, List.take_zero, List.drop_succ_cons, List.drop_zero]
  refine made_val (.int .i64 n) (by kernel_rfl) (by kernel_rfl) (by kernel_rfl) (fun _ _ => by kernel_rfl) ?_
  simp only [Act.put, List.setIfInBounds_toArray, List.set_cons_zero, List.set_cons_succ]
  refine made_call (.int .i64 (needP n)) 34 #[.int .i64 n] (by kernel_rfl) (by kernel_rfl) (by kernel_rfl) (fun W => by kernel_rfl) (fun W hW => (need_any n hn W).mono fun e w' ⟨h1, h2⟩ => ⟨h1, by rw [h2]; exact Below.refl _ _⟩) ?_
  simp only [Act.put, List.setIfInBounds_toArray, List.set_cons_zero, List.set_cons_succ]
  refine made_val (.int .i64 n) (by kernel_rfl) (by kernel_rfl) (by kernel_rfl) (fun _ _ => by kernel_rfl) ?_
  simp only [Act.put, List.setIfInBounds_toArray, List.set_cons_zero, List.set_cons_succ]
  refine made_call (.int .i64 (needP n)) 42 #[.int .i64 n] (by kernel_rfl) (by kernel_rfl) (by kernel_rfl) (fun W => by kernel_rfl) (fun W hW => (rneed_any n hn W).mono fun e w' ⟨h1, h2⟩ => ⟨h1, by rw [h2]; exact Below.refl _ _⟩) ?_
  simp only [Act.put, List.setIfInBounds_toArray, List.set_cons_zero, List.set_cons_succ]
  refine made_val (.bool true) (by kernel_rfl) (by kernel_rfl) (by kernel_rfl) (fun W hW => ?hc1) ?_
  case hc1 => go_simp
  simp only [Act.put, List.setIfInBounds_toArray, List.set_cons_zero, List.set_cons_succ]
  refine made_val (.bool true) (by kernel_rfl) (by kernel_rfl) (by kernel_rfl) (fun _ _ => by kernel_rfl) ?_
  simp only [Act.put, List.setIfInBounds_toArray, List.set_cons_zero, List.set_cons_succ]
  refine made_val (.agg #[.int .i64 l, .int .i64 a, .int .i64 d]) (by kernel_rfl) (by kernel_rfl) (by kernel_rfl) (fun W hW => exec_load_blk (o := ⟨some 60, _, _, _, _, _⟩) 64 (.tmp 3) rfl w.heap.size rfl 64 _ _ W (HA.out.grow hW).shape Try.underlying64 rfl (by kernel_rfl)) ?_
  simp only [Act.put, List.setIfInBounds_toArray, List.set_cons_zero, List.set_cons_succ]
  refine made_val (vI) (by kernel_rfl) (by kernel_rfl) (by kernel_rfl) (fun _ _ => by kernel_rfl) ?_
  simp only [Act.put, List.setIfInBounds_toArray, List.set_cons_zero, List.set_cons_succ]
  refine made_call (.bool (decide (apartP l a d rs))) 76 #[.agg #[.int .i64 l, .int .i64 a, .int .i64 d], vI] (by kernel_rfl) (by kernel_rfl) (by kernel_rfl) (fun W => by kernel_rfl) (fun W hW => lapart_any l a d HRS.out.2 vI rs hlen' W (HA.out.grow hW).lent) ?_
  simp only [Act.put, List.setIfInBounds_toArray, List.set_cons_zero, List.set_cons_succ]
  refine made_val (.agg #[.int .i64 l, .int .i64 a, .int .i64 d]) (by kernel_rfl) (by kernel_rfl) (by kernel_rfl) (fun W hW => exec_load_blk (o := ⟨some 63, _, _, _, _, _⟩) 64 (.tmp 3) rfl w.heap.size rfl 64 _ _ W (HA.out.grow hW).shape Try.underlying64 rfl (by kernel_rfl)) ?_
  simp only [Act.put, List.setIfInBounds_toArray, List.set_cons_zero, List.set_cons_succ]
  refine made_val (.slice A rs.length cp) (by kernel_rfl) (by kernel_rfl) (by kernel_rfl) (fun _ _ => by kernel_rfl) ?_
  simp only [Act.put, List.setIfInBounds_toArray, List.set_cons_zero, List.set_cons_succ]
  refine made_call (.bool (decide (apartP l a d rs))) 77 #[.agg #[.int .i64 l, .int .i64 a, .int .i64 d], .slice A rs.length cp] (by kernel_rfl) (by kernel_rfl) (by kernel_rfl) (fun W => by kernel_rfl) (fun W hW => rapart_any l a d (.slice A rs.length cp) rs hlen' W (HA.out.grow hW).held) ?_
  simp only [Act.put, List.setIfInBounds_toArray, List.set_cons_zero, List.set_cons_succ]
  refine made_val (.bool true) (by kernel_rfl) (by kernel_rfl) (by kernel_rfl) (fun W hW => ?hc2) ?_
  case hc2 => go_simp
  simp only [Act.put, List.setIfInBounds_toArray, List.set_cons_zero, List.set_cons_succ]
  refine made_val (.bool true) (by kernel_rfl) (by kernel_rfl) (by kernel_rfl) (fun _ _ => by kernel_rfl) ?_
  simp only [Act.put, List.setIfInBounds_toArray, List.set_cons_zero, List.set_cons_succ]
  refine made_val (.bool true) (by kernel_rfl) (by kernel_rfl) (by kernel_rfl) (fun _ _ => by kernel_rfl) ?_
  simp only [Act.put, List.setIfInBounds_toArray, List.set_cons_zero, List.set_cons_succ]
  refine made_val (.int .i64 (findE l a d rs n)) (by kernel_rfl) (by kernel_rfl) (by kernel_rfl) (fun _ _ => by kernel_rfl) ?_
  simp only [Act.put, List.setIfInBounds_toArray, List.set_cons_zero, List.set_cons_succ]
  refine made_val (.int .i64 (findE l a d rs n)) (by kernel_rfl) (by kernel_rfl) (by kernel_rfl) (fun _ _ => by kernel_rfl) ?_
  simp only [Act.put, List.setIfInBounds_toArray, List.set_cons_zero, List.set_cons_succ]
  refine made_val (.bool true) (by kernel_rfl) (by kernel_rfl) (by kernel_rfl) (fun W hW => ?hc3) ?_
  case hc3 => go_simp
  simp only [Act.put, List.setIfInBounds_toArray, List.set_cons_zero, List.set_cons_succ]
  refine made_val (.bool true) (by kernel_rfl) (by kernel_rfl) (by kernel_rfl) (fun _ _ => by kernel_rfl) ?_
  simp only [Act.put, List.setIfInBounds_toArray, List.set_cons_zero, List.set_cons_succ]
  refine made_val (.bool true) (by kernel_rfl) (by kernel_rfl) (by kernel_rfl) (fun _ _ => by kernel_rfl) ?_
  simp only [Act.put, List.setIfInBounds_toArray, List.set_cons_zero, List.set_cons_succ]
  refine made_val (o1) (by kernel_rfl) (by kernel_rfl) (by kernel_rfl) (fun _ _ => by kernel_rfl) ?_
  simp only [Act.put, List.setIfInBounds_toArray, List.set_cons_zero, List.set_cons_succ]
  refine made_val (o2) (by kernel_rfl) (by kernel_rfl) (by kernel_rfl) (fun _ _ => by kernel_rfl) ?_
  simp only [Act.put, List.setIfInBounds_toArray, List.set_cons_zero, List.set_cons_succ]
  refine made_call (.bool true) 59 #[o1, o2] (by kernel_rfl) (by kernel_rfl) (by kernel_rfl) (fun W => by kernel_rfl) (fun W hW => sameRuns_any o1 o2 (findR l a d rs n) hfl W (HO.out.1.below hW) (HO.out.2.below hW)) ?_
  simp only [Act.put, List.setIfInBounds_toArray, List.set_cons_zero, List.set_cons_succ]
  refine made_val (.bool true) (by kernel_rfl) (by kernel_rfl) (by kernel_rfl) (fun _ _ => by kernel_rfl) ?_
  simp only [Act.put, List.setIfInBounds_toArray, List.set_cons_zero, List.set_cons_succ]
  refine made_val (.bool true) (by kernel_rfl) (by kernel_rfl) (by kernel_rfl) (fun _ _ => by kernel_rfl) ?_
  simp only [Act.put, List.setIfInBounds_toArray, List.set_cons_zero, List.set_cons_succ]
  refine made_val (.int .i64 (freeE l a d rs)) (by kernel_rfl) (by kernel_rfl) (by kernel_rfl) (fun _ _ => by kernel_rfl) ?_
  simp only [Act.put, List.setIfInBounds_toArray, List.set_cons_zero, List.set_cons_succ]
  refine made_val (.int .i64 (freeE l a d rs)) (by kernel_rfl) (by kernel_rfl) (by kernel_rfl) (fun _ _ => by kernel_rfl) ?_
  simp only [Act.put, List.setIfInBounds_toArray, List.set_cons_zero, List.set_cons_succ]
  refine made_val (.bool true) (by kernel_rfl) (by kernel_rfl) (by kernel_rfl) (fun W hW => ?hc4) ?_
  case hc4 => go_simp
  simp only [Act.put, List.setIfInBounds_toArray, List.set_cons_zero, List.set_cons_succ]
  refine made_val (.bool true) (by kernel_rfl) (by kernel_rfl) (by kernel_rfl) (fun _ _ => by kernel_rfl) ?_
  simp only [Act.put, List.setIfInBounds_toArray, List.set_cons_zero, List.set_cons_succ]
  refine made_val (.bool true) (by kernel_rfl) (by kernel_rfl) (by kernel_rfl) (fun _ _ => by kernel_rfl) ?_
  simp only [Act.put, List.setIfInBounds_toArray, List.set_cons_zero, List.set_cons_succ]
  refine made_val (.int .i64 (freeN l a d rs)) (by kernel_rfl) (by kernel_rfl) (by kernel_rfl) (fun _ _ => by kernel_rfl) ?_
  simp only [Act.put, List.setIfInBounds_toArray, List.set_cons_zero, List.set_cons_succ]
  refine made_val (.int .i64 (freeN l a d rs)) (by kernel_rfl) (by kernel_rfl) (by kernel_rfl) (fun _ _ => by kernel_rfl) ?_
  simp only [Act.put, List.setIfInBounds_toArray, List.set_cons_zero, List.set_cons_succ]
  refine made_val (.bool true) (by kernel_rfl) (by kernel_rfl) (by kernel_rfl) (fun W hW => ?hc5) ?_
  case hc5 => go_simp
  simp only [Act.put, List.setIfInBounds_toArray, List.set_cons_zero, List.set_cons_succ]
  refine made_val (.bool true) (by kernel_rfl) (by kernel_rfl) (by kernel_rfl) (fun _ _ => by kernel_rfl) ?_
  simp only [Act.put, List.setIfInBounds_toArray, List.set_cons_zero, List.set_cons_succ]
  refine made_val (.bool true) (by kernel_rfl) (by kernel_rfl) (by kernel_rfl) (fun _ _ => by kernel_rfl) ?_
  simp only [Act.put, List.setIfInBounds_toArray, List.set_cons_zero, List.set_cons_succ]
  refine made_val (vI) (by kernel_rfl) (by kernel_rfl) (by kernel_rfl) (fun _ _ => by kernel_rfl) ?_
  simp only [Act.put, List.setIfInBounds_toArray, List.set_cons_zero, List.set_cons_succ]
  refine made_val (.slice A rs.length cp) (by kernel_rfl) (by kernel_rfl) (by kernel_rfl) (fun _ _ => by kernel_rfl) ?_
  simp only [Act.put, List.setIfInBounds_toArray, List.set_cons_zero, List.set_cons_succ]
  refine made_call (.bool true) 59 #[vI, .slice A rs.length cp] (by kernel_rfl) (by kernel_rfl) (by kernel_rfl) (fun W => by kernel_rfl) (fun W hW => sameRuns_any vI (.slice A rs.length cp) rs hlen' W (HA.out.grow hW).lent (HA.out.grow hW).held) ?_
  simp only [Act.put, List.setIfInBounds_toArray, List.set_cons_zero, List.set_cons_succ]
  refine made_val (.bool true) (by kernel_rfl) (by kernel_rfl) (by kernel_rfl) (fun _ _ => by kernel_rfl) ?_
  simp only [Act.put, List.setIfInBounds_toArray, List.set_cons_zero, List.set_cons_succ]
  refine made_val (.bool true) (by kernel_rfl) (by kernel_rfl) (by kernel_rfl) (fun _ _ => by kernel_rfl) ?_
  simp only [Act.put, List.setIfInBounds_toArray, List.set_cons_zero, List.set_cons_succ]
  refine made_call (.bool true) 28 #[] (by kernel_rfl) (by kernel_rfl) (by kernel_rfl) (fun W => by kernel_rfl) (fun W hW => awake7_any W) ?_
  simp only [Act.put, List.setIfInBounds_toArray, List.set_cons_zero, List.set_cons_succ]
  refine made_val (.bool true) (by kernel_rfl) (by kernel_rfl) (by kernel_rfl) (fun _ _ => by kernel_rfl) ?_
  simp only [Act.put, List.setIfInBounds_toArray, List.set_cons_zero, List.set_cons_succ]
  show ∀ w', _ → _
  intro w7 hb7
  simp only [ended]
  have H7 := hide (HA.out.below.next hb7)
  clear hb7
  go_wp2_with fail
  go_ret
  exact ⟨rfl, H7.out⟩
end Go.Proofs.Ytfppddnfdinipaa
end
section
namespace Go.Proofs.Ytfppddnfdinipaa
open Go Go.RowKit
set_option maxRecDepth 100000
theorem finds_any (l a d n : Int) (hn : -9223372036854775808 ≤ n ∧ n ≤ 9223372036854775807) (v : Value) (rs : List Run) (hl : rs.length ≤ 140737488355328) (w : World) (hrs : RunsM w w.heap.size v rs) :
    Calls Try.prog 41 #[.agg #[.int .i64 l, .int .i64 a, .int .i64 d], .int .i64 n, v] w fun e w' => e = .returned (.bool true) ∧ Below w.heap.size w w' := by
  by_cases hlen : rs.length ≤ 60
  · by_cases hsec : secs l a d ≤ 60
    · exact finds_in l a d n hn v rs hlen hsec w hrs
    · obtain ⟨A, cp, rfl, _⟩ := hrs
      have q1 : ¬ (60 : Int) < (rs.length : Int) := by omega
      have q2 : (60 : Int) < secs l a d := by omega
      go_enter Try.func41, Try.ntmps41
      go_wp2_with fail
      refine (rsecs_any l a d _).mono ?_
      rintro e w1 ⟨rfl, hb⟩
      have HB := hide (((Below.refl _ w).alloc (Nat.le_refl _) (.cells #[.int .i64 l, .int .i64 a, .int .i64 d] 64)).next hb)
      clear hb
      dsimp only
      go_wp2_with fail
      refine (awake7_any _).mono ?_
      rintro e w2 ⟨rfl, hb2⟩
      have HB2 := hide (HB.out.next hb2)
      clear hb2
      dsimp only
      go_wp2_with fail
      go_ret
      exact ⟨rfl, HB2.out⟩
  · obtain ⟨A, cp, rfl, _⟩ := hrs
    have q1 : (60 : Int) < (rs.length : Int) := by omega
    go_enter Try.func41, Try.ntmps41
    go_wp2_with fail
    refine (awake7_any _).mono ?_
    rintro e w2 ⟨rfl, hb2⟩
    have HB2 := hide (((Below.refl _ w).alloc (Nat.le_refl _) (.cells #[.int .i64 l, .int .i64 a, .int .i64 d] 64)).next hb2)
    clear hb2
    dsimp only
    go_wp2_with fail
    go_ret
    exact ⟨rfl, HB2.out⟩
end Go.Proofs.Ytfppddnfdinipaa
end
section
namespace Go.Proofs.Ytfppddnfdinipaa
open Go Go.RowKit
set_option maxRecDepth 100000
/-- all stays, but that rows behind B, of N cells that are told, become F's in their place -/
structure GrowR (B : Nat) (F : List Value) (N : Nat) (w w' : World) : Prop where
  os : w'.os = w.os
  tape : w'.tape = w.tape
  output : w'.output = w.output
  size : w.heap.size ≤ w'.heap.size
  block : ∀ k, k < w.heap.size → w'.heap[k]? = w.heap[k]? ∨ (B ≤ k ∧ N < F.length ∧ ∃ cs cs' e, w.heap[k]? = some (.cells cs e (0, 0)) ∧ w'.heap[k]? = some (.cells cs' e (0, 0)) ∧ cs'.size = cs.size ∧ cs.toList.take N = F.take N ∧ cs'.toList.take F.length = F)
variable {B : Nat} {F : List Value} {N : Nat}
theorem GrowR.of_below {w w' : World} (h : Below w.heap.size w w') : GrowR B F N w w' := ⟨h.os, h.tape, h.output, h.size, fun k hk => .inl (h.block k hk)⟩
theorem take_of_take {l F : List Value} {N : Nat} (h : l.take F.length = F) (hN : N < F.length) : l.take N = F.take N := by
  have h2 : (l.take F.length).take N = F.take N := by rw [h]
  rwa [List.take_take, Nat.min_eq_left (by omega)] at h2
instance : Fre.RelOk (GrowR B F N) where
  refl w := .of_below (Below.refl _ w)
  drew w := .of_below ((Below.refl _ w).drew)
  trans a b c h1 h2 := by
    refine ⟨h2.os.trans h1.os, h2.tape.trans h1.tape, h2.output.trans h1.output, Nat.le_trans h1.size h2.size, fun k hk => ?_⟩
    rcases h1.block k hk with e1 | ⟨hB, hN, cs, cs', e, q1, q2, q3, q4, q5⟩
    · rcases h2.block k (Nat.lt_of_lt_of_le hk h1.size) with e2 | ⟨hB, hN, cs, cs', e, q1, q2, q3, q4, q5⟩
      · exact .inl (e2.trans e1)
      · exact .inr ⟨hB, hN, cs, cs', e, e1.symm.trans q1, q2, q3, q4, q5⟩
    · rcases h2.block k (Nat.lt_of_lt_of_le hk h1.size) with e2 | ⟨_, _, ds, ds', e', r1, r2, r3, r4, r5⟩
      · exact .inr ⟨hB, hN, cs, cs', e, q1, e2.trans q2, q3, q4, q5⟩
      · rw [q2] at r1
        injection r1 with r1
        injection r1 with r1 r1'
        subst r1 r1'
        exact .inr ⟨hB, hN, cs, ds', e, q1, r2, r3.trans q3, q4, r5⟩
theorem GrowR.below {w w' : World} (h : GrowR w.heap.size F N w w') : Below w.heap.size w w' :=
  ⟨h.os, h.tape, h.output, h.size, fun k hk => (h.block k hk).elim id fun h => absurd h.1 (by omega)⟩
/-- the first row stays while another one grows -/
theorem own_first {u : Value} {n : Nat} {xs : List Value} {w w' : World} {ty : TypeId} {z : Nat} (h : w.ownsRow B ty z u n xs) (hxs : xs = F.take N) (hNn : N = n * z) (hx : GrowR B F N w w') : w'.ownsRow B ty z u n xs := by
  obtain ⟨hl, h⟩ := h
  rcases h with ⟨rfl, rfl⟩ | ⟨g, cap, cur, rfl, hg, hb, hn, hm, hs, ht⟩
  · exact ⟨hl, .inl ⟨rfl, rfl⟩⟩
  · have hlt : g < w.heap.size := (Array.getElem?_eq_some_iff.1 hb).1
    rcases hx.block g hlt with e | ⟨_, hN, cs, cs', e, q1, q2, q3, q4, q5⟩
    · exact ⟨hl, .inr ⟨g, cap, cur, rfl, hg, e.trans hb, hn, hm, hs, ht⟩⟩
    · rw [hb] at q1
      injection q1 with q1
      injection q1 with q1 q1'
      subst q1 q1'
      refine ⟨hl, .inr ⟨g, cap, cs', rfl, hg, q2, hn, hm, by rw [q3]; exact hs, ?_⟩⟩
      rw [← hNn, take_of_take q5 hN, hxs]
/-- and so does the one that has grown -/
theorem own_last {u : Value} {n : Nat} {w w' : World} {ty : TypeId} {z : Nat} (h : w.ownsRow B ty z u n F) (hx : GrowR B F N w w') : w'.ownsRow B ty z u n F := by
  obtain ⟨hl, h⟩ := h
  rcases h with ⟨rfl, rfl⟩ | ⟨g, cap, cur, rfl, hg, hb, hn, hm, hs, ht⟩
  · exact ⟨hl, .inl ⟨rfl, rfl⟩⟩
  · have hlt : g < w.heap.size := (Array.getElem?_eq_some_iff.1 hb).1
    rcases hx.block g hlt with e | ⟨_, hN, cs, cs', e, q1, q2, q3, q4, q5⟩
    · exact ⟨hl, .inr ⟨g, cap, cur, rfl, hg, e.trans hb, hn, hm, hs, ht⟩⟩
    · rw [hb] at q1
      injection q1 with q1
      injection q1 with q1 q1'
      subst q1 q1'
      refine ⟨hl, .inr ⟨g, cap, cs', rfl, hg, q2, hn, hm, by rw [q3]; exact hs, ?_⟩⟩
      rw [← hl]
      exact q5
theorem grow_runs {B' : Nat} {v : Value} {l : List Run} {w0 w : World} (h : RunsM w0 B' v l) (hb : B' ≤ w0.heap.size) (hB : B' ≤ B) (hx : GrowR B F N w0 w) : RunsM w B' v l :=
  h.alike fun k hk => (hx.block k (by omega)).elim id fun h => absurd h.1 (by omega)
theorem grow_blk {k : Nat} {t : TypeId} {cs : Array Value} {w0 w : World} (h : Blk w0 k t cs) (hB : k < B) (hx : GrowR B F N w0 w) : Blk w k t cs :=
  ((hx.block k h.lt).elim id fun h => absurd h.1 (by omega)).trans h
end Go.Proofs.Ytfppddnfdinipaa
end
section
namespace Go.Proofs.Ytfppddnfdinipaa
open Go Go.RowKit
set_option maxRecDepth 100000
theorem RefAt.sectors {w : World} {F : Nat → Prop} {g : Nat} {D : Dv} (h : RefAt w F g D) : Calls Try.prog 165 #[.pointer (some ⟨g, 0, none⟩)] w fun e w' => e = .returned (.int .i64 (D.kept.length : Int)) ∧ Below w.heap.size w w' := by
  obtain ⟨ra, c, vw, us, hr⟩ := h
  refine (rsectors_any w hr.ok.n2 hr.blk).mono ?_
  rintro e w' ⟨rfl, rfl⟩
  exact ⟨rfl, Below.refl _ _⟩
theorem RefAt.below {w w' : World} {F : Nat → Prop} {g : Nat} {D : Dv} (h : RefAt w F g D) (hb : Below w.heap.size w w') : RefAt w' F g D := h.keep hb.size fun k hk _ => hb.block k hk
theorem i64_in (x : Int) (h1 : -9223372036854775808 ≤ x) (h2 : x < 9223372036854775808) : IntKind.i64.wrap x = x := by
  simp [IntKind.wrap, IntKind.signed, IntKind.bits]
  omega
/-- numbers in memory -/
def placeC (fst : Int) (l : List Nat) : List Value := l.map fun (p : Nat) => Value.int .i64 (fst + (p : Int))
theorem placeC_len (fst : Int) (l : List Nat) : (placeC fst l).length = l.length := by simp [placeC]
theorem placeC_app (fst : Int) (a b : List Nat) : placeC fst (a ++ b) = placeC fst a ++ placeC fst b := by simp [placeC]
theorem info_int : (Try.prog.info? 3).map (fun i => (i.zero, i.size, i.bytes)) = some (some (.int .i64 0), 1, 8) := by kernel_rfl
/-- a row of one number -/
def OneI (B : Nat) (z : Int) (u : Value) (w : World) : Prop := ∃ r, u = .slice (some ⟨r, 0, none⟩) 1 1 ∧ B ≤ r ∧ Blk w r 3 #[.int .i64 z]
theorem OneI.stays {B N : Nat} {z : Int} {xs : List Value} {u : Value} {w w' : World} (hN : xs.length = N) (h : OneI B z u w) (hx : GrowR B (xs ++ [.int .i64 z]) N w w') : OneI B z u w' := by
  obtain ⟨r, rfl, hr, hb⟩ := h
  refine ⟨r, rfl, hr, ?_⟩
  rcases hx.block r hb.lt with e | ⟨_, _, cs, cs', e, q1, q2, q3, q4, q5⟩
  · exact e.trans hb
  · have hb' : w.heap[r]? = some (.cells #[.int .i64 z] 3 (0, 0)) := hb
    rw [q1] at hb'
    injection hb' with hb'
    injection hb' with hb' e2
    subst hb' e2
    have h1 : cs'.toList.length = 1 := q3
    have h3 := congrArg List.length q5
    rw [List.length_take, h1, List.length_append, List.length_singleton] at h3
    have h0 : xs = [] := List.eq_nil_of_length_eq_zero (by omega)
    subst h0
    have h4 : cs'.toList = [.int .i64 z] := by
      have h5 : cs'.toList.take 1 = [.int .i64 z] := q5
      rwa [List.take_of_length_le (by omega)] at h5
    rw [show cs' = #[.int .i64 z] from Array.ext' h4] at q2
    exact q2
theorem app_int {B k : Nat} {z : Int} {u v : Value} {xs : List Value} {W : World} (h : W.ownsRow B 3 1 v k xs) (hB : B ≤ W.heap.size) (hu : OneI B z u W) (hk : k ≤ 100000) :
    ∃ v' w', (Builtin.append_ #[33, 33] 33 #[v, u]).run Try.prog W = .ok v' w' ∧ GrowR B (xs ++ [.int .i64 z]) k W w' ∧ w'.ownsRow B 3 1 v' (k + 1) (xs ++ [.int .i64 z]) := by
  obtain ⟨i, hi, hz0, hz1, hz2⟩ := info_parts info_int
  obtain ⟨r, rfl, hr, hb⟩ := hu
  obtain ⟨v', w', k1, k2, k3, k4⟩ := run_appG (P := Try.prog) (w := W) B 33 33 3 i _ 1 8 Try.underlying33 hi hz0 hz1 hz2 rfl (by omega) v k xs h ⟨r, 0, none⟩ 1 1 [.int .i64 z] rfl (fun j u hj => by
    match j, hj with
    | 0, hj => injection hj with hj; subst hj; exact hb.cell 0) (fun u hu => by obtain rfl := List.mem_singleton.1 hu; rfl) (by omega) (by simp only [maxLen]; omega) (by omega) hB
  have hxl : xs.length = k := by have := h.1; omega
  refine ⟨v', w', k1, ?_, k2⟩
  rcases k4 with ⟨g, cap, rfl, rfl⟩ | ⟨_, h⟩
  · refine ⟨k3.os, k3.tape, k3.output, k3.size, fun j hj => ?_⟩
    by_cases hkg : j = g
    · subst hkg
      rcases h.2 with ⟨h, _⟩ | ⟨g1, c1, cs, q1, q2, q3, q4, q5, q6, q7⟩
      · cases h
      · rcases k2.2 with ⟨h, _⟩ | ⟨g2, c2, cs', r1, r2, r3, r4, r5, r6, r7⟩
        · cases h
        · injection q1 with q1 _ q1'
          injection r1 with r1 _ r1'
          injection q1 with q1
          injection r1 with r1
          injection q1 with q1
          injection r1 with r1
          subst q1 r1 q1' r1'
          have hF : (xs ++ [Value.int .i64 z]).length = k + 1 := by simp [hxl]
          refine .inr ⟨q2, by omega, cs, cs', _, q3, r3, by rw [r6, q6], ?_, ?_⟩
          · rw [Nat.mul_one] at q7
            rw [q7, List.take_left' hxl]
          · rw [hF]
            rwa [Nat.mul_one] at r7
    · exact .inl (k3.block j hj fun e => hkg (by have e : some g = some j := e.symm; injection e with e; exact e.symm))
  · exact .of_below h
/-- what places goes on with -/
structure PlAt (w0 w : World) (B : Nat) (l a d : Int) (fst : Int) (v : Value) (rs : List Run) (q : Nat) (o : Value) : Prop where
  own : w.ownsRow B 3 1 o q (placeC fst ((pos rs).take q))
  shape : Blk w w0.heap.size 64 #[.int .i64 l, .int .i64 a, .int .i64 d]
  runs : RunsM w w0.heap.size v rs
  below : Below w0.heap.size w0 w
  sz : w0.heap.size < B ∧ B ≤ w.heap.size
theorem PlAt.grow {w0 w w' : World} {B q : Nat} {l a d fst : Int} {v o : Value} {rs : List Run} (h : PlAt w0 w B l a d fst v rs q o) (hb : Below w.heap.size w w') : PlAt w0 w' B l a d fst v rs q o :=
  ⟨owned_keepN h.own fun k _ hl => hb.block k hl, h.shape.below hb h.shape.lt, h.runs.alike fun k hk => hb.block k (by have := h.sz; omega), h.below.next hb, h.sz.1, by have := h.sz.2; have := hb.size; omega⟩
def PlQ (K : Nat) (l a d n : Int) (rs : List Run) (w : World) (e : Ending) (w' : World) : Prop := Below w.heap.size w w' ∧
  ((suitsE K l a d n rs = 0 ∧ ∃ o, e = .returned (.tuple #[o, .bool true]) ∧ w'.ownsRow w.heap.size 3 1 o (pos rs).length (placeC (firstS l a d) (pos rs))) ∨ (suitsE K l a d n rs = 2 ∧ ∃ o, e = .returned (.tuple #[o, .bool false])))
set_option maxHeartbeats 4000000 in
theorem places_any {D : Dv} {F : Nat → Prop} {g : Nat} (l a d n : Int) (h64 : rightP l a d → d ≤ 64) (hn : -9223372036854775808 ≤ n ∧ n ≤ 9223372036854775807) (v : Value) (rs : List Run) (hlen : rs.length ≤ 1000000) (w : World) (hrs : RunsM w w.heap.size v rs) (hd : RefAt w F g D) :
    Calls Try.prog 132 #[.pointer (some ⟨g, 0, none⟩), .agg #[.int .i64 l, .int .i64 a, .int .i64 d], .int .i64 n, v] w (PlQ D.kept.length l a d n rs w) := by
  obtain ⟨Ar, cr, rfl, hrest⟩ := id hrs
  clear hrest
  have hb0 : Below w.heap.size w (w.alloc (.cells #[.int .i64 l, .int .i64 a, .int .i64 d] 64)) := (Below.refl _ w).alloc (Nat.le_refl _) _
  have hp0 : PlAt w (w.alloc (.cells #[.int .i64 l, .int .i64 a, .int .i64 d] 64)) (w.heap.size + 1) l a d (firstS l a d) (.slice Ar rs.length cr) rs 0 (.slice none 0 0) :=
    ⟨World.ownsRow_nil _ _ _ _, Blk.new _ _ _, hrs.alike fun k hk => hb0.block k hk, hb0, by omega, by rw [size_alloc]; omega⟩
  have HP := hide (And.intro hp0 (And.intro (hd.below hb0) (And.intro h64 hn)))
  have hK : D.kept.length ≤ 8192 := by obtain ⟨_, _, _, _, hr⟩ := hd; exact hr.ok.n2
  clear hrs hd h64 hn hp0 hb0
  generalize hKK : D.kept.length = K at hK ⊢
  have HKK := hide hKK
  clear hKK
  by_cases hap : apartP l a d rs
  · by_cases hn0 : 0 ≤ n
    · by_cases hsec : secs l a d ≤ (K : Int)
      · have hf : 0 ≤ firstS l a d ∧ firstS l a d ≤ 8192 := by
          have hR := hap.1
          have h1 := hR.1
          have h2 := hR.2.1
          have h3 := hR.2.2.1
          have h4 := hR.2.2.2
          rw [firstS, if_pos hR]
          unfold inW at h1 h2 h3
          omega
        have f1 := hf.1
        have f2 := hf.2
        clear hf
        have hd1 := apart_d hap
        have n1 : ¬ n < 0 := by omega
        have n2 : ¬ (K : Int) < secs l a d := by omega
        have hcnt := apart_count hap
        go_enter Try.func132, Try.ntmps132
        go_wp2_with fail
        refine wp_made 14 [] (by kernel_rfl) (by kernel_rfl) (by intro p hp; cases hp) List.nodup_nil (by intro t ht; cases ht) ?_
        simp only [List.take_succ_cons, List.take_zero, List.drop_succ_cons, List.drop_zero]
        refine made_val (.agg #[.int .i64 l, .int .i64 a, .int .i64 d]) (by kernel_rfl) (by kernel_rfl) (by kernel_rfl) (fun W hW => exec_load_blk (o := ⟨some 13, _, _, _, _, _⟩) 64 (.tmp 5) rfl w.heap.size rfl 64 _ _ W (HP.out.1.grow hW).shape Try.underlying64 rfl (by kernel_rfl)) ?_
        simp only [Act.put, List.setIfInBounds_toArray, List.set_cons_zero, List.set_cons_succ]
        refine made_val (.slice Ar rs.length cr) (by kernel_rfl) (by kernel_rfl) (by kernel_rfl) (fun _ _ => by kernel_rfl) ?_
        simp only [Act.put, List.setIfInBounds_toArray, List.set_cons_zero, List.set_cons_succ]
        refine made_call (.bool true) 77 #[.agg #[.int .i64 l, .int .i64 a, .int .i64 d], .slice Ar rs.length cr] (by kernel_rfl) (by kernel_rfl) (by kernel_rfl) (fun W => by kernel_rfl) (fun W hW => (rapart_any l a d (.slice Ar rs.length cr) rs hlen W ((HP.out.1.grow hW).runs.widen (HP.out.1.grow hW).below.size)).mono fun e w' ⟨h1, h2⟩ => ⟨by rw [h1, decide_eq_true hap], h2⟩) ?_
        simp only [Act.put, List.setIfInBounds_toArray, List.set_cons_zero, List.set_cons_succ]
        refine made_val (.bool false) (by kernel_rfl) (by kernel_rfl) (by kernel_rfl) (fun W hW => ?hs3) ?_
        case hs3 => go_simp
        simp only [Act.put, List.setIfInBounds_toArray, List.set_cons_zero, List.set_cons_succ]
        refine made_val (.bool false) (by kernel_rfl) (by kernel_rfl) (by kernel_rfl) (fun _ _ => by kernel_rfl) ?_
        simp only [Act.put, List.setIfInBounds_toArray, List.set_cons_zero, List.set_cons_succ]
        refine made_val (.int .i64 n) (by kernel_rfl) (by kernel_rfl) (by kernel_rfl) (fun _ _ => by kernel_rfl) ?_
        simp only [Act.put, List.setIfInBounds_toArray, List.set_cons_zero, List.set_cons_succ]
        refine made_val (.bool false) (by kernel_rfl) (by kernel_rfl) (by kernel_rfl) (fun W hW => ?hs4) ?_
        case hs4 => go_simp
        simp only [Act.put, List.setIfInBounds_toArray, List.set_cons_zero, List.set_cons_succ]
        refine made_val (.bool false) (by kernel_rfl) (by kernel_rfl) (by kernel_rfl) (fun _ _ => by kernel_rfl) ?_
        simp only [Act.put, List.setIfInBounds_toArray, List.set_cons_zero, List.set_cons_succ]
        refine made_val (.bool false) (by kernel_rfl) (by kernel_rfl) (by kernel_rfl) (fun _ _ => by kernel_rfl) ?_
        simp only [Act.put, List.setIfInBounds_toArray, List.set_cons_zero, List.set_cons_succ]
        refine made_val (.pointer (some ⟨g, 0, none⟩)) (by kernel_rfl) (by kernel_rfl) (by kernel_rfl) (fun _ _ => by kernel_rfl) ?_
        simp only [Act.put, List.setIfInBounds_toArray, List.set_cons_zero, List.set_cons_succ]
        refine made_call (.int .i64 (K : Int)) 165 #[.pointer (some ⟨g, 0, none⟩)] (by kernel_rfl) (by kernel_rfl) (by kernel_rfl) (fun W => by kernel_rfl) (fun W hW => (RefAt.sectors (HP.out.2.1.below hW)).mono fun e w' ⟨h1, h2⟩ => ⟨by rw [h1, HKK.out], h2⟩) ?_
        simp only [Act.put, List.setIfInBounds_toArray, List.set_cons_zero, List.set_cons_succ]
        refine made_val (.agg #[.int .i64 l, .int .i64 a, .int .i64 d]) (by kernel_rfl) (by kernel_rfl) (by kernel_rfl) (fun W hW => exec_load_blk (o := ⟨some 24, _, _, _, _, _⟩) 64 (.tmp 5) rfl w.heap.size rfl 64 _ _ W (HP.out.1.grow hW).shape Try.underlying64 rfl (by kernel_rfl)) ?_
        simp only [Act.put, List.setIfInBounds_toArray, List.set_cons_zero, List.set_cons_succ]
        refine made_call (.int .i64 (secs l a d)) 73 #[.agg #[.int .i64 l, .int .i64 a, .int .i64 d]] (by kernel_rfl) (by kernel_rfl) (by kernel_rfl) (fun W => by kernel_rfl) (fun W hW => rsecs_any l a d W) ?_
        simp only [Act.put, List.setIfInBounds_toArray, List.set_cons_zero, List.set_cons_succ]
        refine made_val (.bool false) (by kernel_rfl) (by kernel_rfl) (by kernel_rfl) (fun W hW => ?hs5) ?_
        case hs5 => go_simp
        simp only [Act.put, List.setIfInBounds_toArray, List.set_cons_zero, List.set_cons_succ]
        show ∀ w', _ → _
        intro w5 hb5
        simp only [ended]
        have hp5 := HP.out.1.grow hb5
        have hpl : PlAt w w5 w5.heap.size l a d (firstS l a d) (.slice Ar rs.length cr) rs 0 (.slice none 0 0) := ⟨World.ownsRow_nil _ _ _ _, hp5.shape, hp5.runs, hp5.below, by have := hp5.sz; omega, Nat.le_refl _⟩
        have HA := hide (And.intro hpl (And.intro hap hsec))
        clear hp5 hpl hb5 hap hsec
        go_wp2_with fail
        generalize w5.heap.size = B at HA
        go_loopw [10, 11] (fun o i wr => ∃ k : Nat, k ≤ rs.length ∧ i = .int .i64 (k : Int) ∧ PlAt w wr B l a d (firstS l a d) (.slice Ar rs.length cr) rs (pos (rs.take k)).length o) (fun _ i _ => rs.length - (intOf i).toNat)
        case atStart => exact ⟨0, by omega, rfl, HA.out.1⟩
        case round =>
          obtain ⟨k, hk, rfl, hp⟩ := hrel
          have HQ := hide hp
          have n3 : (0 : Int) ≤ (k : Int) := by omega
          clear hp
          by_cases hk2 : k < rs.length
          · obtain ⟨r, hrk⟩ : ∃ r, rs[k]? = some r := ⟨_, List.getElem?_eq_getElem hk2⟩
            obtain ⟨r1, r2, r3, r4⟩ := HA.out.2.1.2.1 r (List.mem_of_getElem? hrk)
            obtain ⟨⟨R1, hR1⟩, R2, hR2⟩ : (∃ R1 : Nat, r.1 = (R1 : Int)) ∧ ∃ R2 : Nat, r.2 = (R2 : Int) := ⟨⟨r.1.toNat, by omega⟩, r.2.toNat, by omega⟩
            have hc : ∃ bb off, Ar = some ⟨bb, off, none⟩ ∧ bb < w.heap.size ∧ ∀ W, RunsM W w.heap.size (.slice Ar rs.length cr) rs → W.cell? ⟨bb, off + k * 2, none⟩ = some (.int .i64 (R1 : Int)) ∧ W.cell? ⟨bb, off + k * 2 + 1, none⟩ = some (.int .i64 (R2 : Int)) := by
              obtain ⟨A', c', hv, _, _, hA, _⟩ := HQ.out.runs
              injection hv with e1 e2 e3
              subst e1 e3
              obtain ⟨bb, off, e1, e2, _⟩ := hA (by omega)
              refine ⟨bb, off, e1, e2, fun W hW => ?_⟩
              obtain ⟨A', c', hv, _, _, hA, _⟩ := hW
              injection hv with e3 _ _
              subst e3
              obtain ⟨b2, o2, e4, _, h⟩ := hA (by omega)
              rw [e1] at e4
              injection e4 with e4
              injection e4 with e4 e5
              subst e4 e5
              rw [← hR1, ← hR2]
              exact h k r hrk
            obtain ⟨bb, off, rfl, hbb, hcs⟩ := hc
            have hpt := pos_take rs k r hrk
            rw [hR2, Int.toNat_natCast] at hpt
            have n4 : (k : Int) < (rs.length : Int) := by omega
            have m1 : (R1 : Int) ≤ 8192 := by omega
            have m2 : (R2 : Int) ≤ 8192 := by omega
            have m3 : (0 : Int) ≤ (R1 : Int) := by omega
            obtain ⟨q, hq⟩ : ∃ q, q = (pos (rs.take k)).length := ⟨_, rfl⟩
            have hQ := HQ.out
            rw [← hq] at hQ hpt
            have HQ2 := hide hQ
            have HH := hide (And.intro hcs (And.intro hpt (And.intro hrk (And.intro hR1 (And.intro hR2 hq)))))
            clear hQ hcs hpt hq hR1 hR2 hrk r1 r2 r3 r4 HQ
            go_wp2_with fail
            go_loopw [10, 12] (fun o i wr => ∃ j : Nat, j ≤ R2 ∧ i = .int .i64 (j : Int) ∧ PlAt w wr B l a d (firstS l a d) (.slice (some ⟨bb, off, none⟩) rs.length cr) rs (q + j) o) (fun _ i _ => R2 - (intOf i).toNat)
            case atStart => exact ⟨0, by omega, rfl, HQ2.out⟩
            case round =>
              obtain ⟨j, hj, rfl, hp⟩ := hrel
              obtain ⟨c1, c2⟩ := HH.out.1 wr hp.runs
              have hltb : bb < wr.heap.size := by have := hp.sz; omega
              have HPJ := hide hp
              have n5 : (0 : Int) ≤ (j : Int) := by omega
              clear hp
              by_cases hj2 : j < R2
              · have n6 : (j : Int) < (R2 : Int) := by omega
                have n7 : (j : Int) ≤ 8192 := by omega
                have hqj : (pos rs)[q + j]? = some (R1 + j) := by
                  have h := pos_at rs k r j HH.out.2.2.1 (by rw [HH.out.2.2.2.2.1]; omega)
                  rwa [← HH.out.2.2.2.2.2, HH.out.2.2.2.1, Int.toNat_natCast] at h
                have htk : (pos rs).take (q + j + 1) = (pos rs).take (q + j) ++ [R1 + j] := by
                  rw [List.take_add_one, hqj]
                  rfl
                have hql : ((pos rs).take (q + j)).length = q + j := by
                  rw [List.length_take]
                  have := (List.getElem?_eq_some_iff.1 hqj).1
                  omega
                have hqs : q + j ≤ 100000 := by have := (List.getElem?_eq_some_iff.1 hqj).1; omega
                have HT := hide (And.intro htk hql)
                clear htk hql hqj
                go_wp2_with fail
                let G := placeC (firstS l a d) ((pos rs).take (q + j)) ++ [Value.int .i64 (firstS l a d + (R1 : Int) + (j : Int))]
                let V2 : Value → World → Prop := fun u W => W.ownsRow B 3 1 u (q + j + 1) G
                have hxl : (placeC (firstS l a d) ((pos rs).take (q + j))).length = q + j := by rw [placeC_len, HT.out.2]
                have hL : ∀ p ∈ ([(54, OneI B (firstS l a d + (R1 : Int) + (j : Int))), (55, V2)] : Fre.MadeL), Fre.MadeOk (GrowR B G (q + j)) p.2 := by
                  intro p hp
                  simp only [List.mem_cons, List.not_mem_nil, or_false] at hp
                  rcases hp with rfl | rfl
                  · exact ⟨fun u W W' h hx => OneI.stays hxl h hx⟩
                  · exact ⟨fun u W W' h hx => own_last h hx⟩
                refine Fre.wp_made (X := GrowR B G (q + j)) 13 [(54, OneI B (firstS l a d + (R1 : Int) + (j : Int))), (55, V2)] (by kernel_rfl) (by kernel_rfl) hL (by simp) (by simp) ?_
                simp only [List.take_succ_cons, List.take_zero, List.drop_succ_cons, List.drop_zero]
                refine Fre.made_val (u10) (by kernel_rfl) (by kernel_rfl) (by kernel_rfl) (fun _ _ => by kernel_rfl) ?_
                simp only [Act.put, List.setIfInBounds_toArray, List.set_cons_zero, List.set_cons_succ]
                refine Fre.made_val (.agg #[.int .i64 l, .int .i64 a, .int .i64 d]) (by kernel_rfl) (by kernel_rfl) (by kernel_rfl) (fun W hW => exec_load_blk (o := ⟨some 44, _, _, _, _, _⟩) 64 (.tmp 5) rfl w.heap.size rfl 64 _ _ W (grow_blk HPJ.out.shape HPJ.out.sz.1 hW) Try.underlying64 rfl (by kernel_rfl)) ?_
                simp only [Act.put, List.setIfInBounds_toArray, List.set_cons_zero, List.set_cons_succ]
                refine Fre.made_call (.int .i64 (firstS l a d)) 166 #[.agg #[.int .i64 l, .int .i64 a, .int .i64 d]] (by kernel_rfl) (by kernel_rfl) (by kernel_rfl) (fun W => by kernel_rfl) (fun W hW => (rfirst_any l a d W).mono fun e w' ⟨h1, h2⟩ => ⟨h1, GrowR.of_below h2⟩) ?_
                simp only [Act.put, List.setIfInBounds_toArray, List.set_cons_zero, List.set_cons_succ]
                refine Fre.made_val (.slice (some ⟨bb, off, none⟩) rs.length cr) (by kernel_rfl) (by kernel_rfl) (by kernel_rfl) (fun _ _ => by kernel_rfl) ?_
                simp only [Act.put, List.setIfInBounds_toArray, List.set_cons_zero, List.set_cons_succ]
                refine Fre.made_val (.int .i64 (k : Int)) (by kernel_rfl) (by kernel_rfl) (by kernel_rfl) (fun _ _ => by kernel_rfl) ?_
                simp only [Act.put, List.setIfInBounds_toArray, List.set_cons_zero, List.set_cons_succ]
                refine Fre.made_val (.pointer (some ⟨bb, off + (k : Int).toNat * 2, none⟩)) (by kernel_rfl) (by kernel_rfl) (by kernel_rfl) (fun W _ => exec_index_off (o := ⟨some 48, _, _, _, _, _⟩) 73 88 (.tmp 46) (.tmp 47) rfl bb off rs.length cr (k : Int) .i64 rfl rfl ⟨n3, n4⟩ 2 Try.underlying73 sz_run W) ?_
                simp only [Act.put, List.setIfInBounds_toArray, List.set_cons_zero, List.set_cons_succ]
                rw [show (k : Int).toNat = k from Int.toNat_natCast k]
                refine Fre.made_val (.pointer (some ⟨bb, off + k * 2, none⟩)) (by kernel_rfl) (by kernel_rfl) (by kernel_rfl) (fun _ _ => by kernel_rfl) ?_
                simp only [Act.put, List.setIfInBounds_toArray, List.set_cons_zero, List.set_cons_succ]
                refine Fre.made_val (.int .i64 (R1 : Int)) (by kernel_rfl) (by kernel_rfl) (by kernel_rfl) (fun W hW => exec_load_cell (o := ⟨some 50, _, _, _, _, _⟩) 3 (.tmp 49) rfl ⟨bb, off + k * 2, none⟩ rfl _ _ W Try.underlying3 rfl (HH.out.1 W (grow_runs HPJ.out.runs (by have := HPJ.out.sz; omega) (by have := HPJ.out.sz; omega) hW)).1) ?_
                simp only [Act.put, List.setIfInBounds_toArray, List.set_cons_zero, List.set_cons_succ]
                refine Fre.made_val (.int .i64 (firstS l a d + (R1 : Int))) (by kernel_rfl) (by kernel_rfl) (by kernel_rfl) (fun W hW => ?hs1) ?_
                case hs1 => (go_simp; exact i64_in _ (by omega) (by omega))
                simp only [Act.put, List.setIfInBounds_toArray, List.set_cons_zero, List.set_cons_succ]
                refine Fre.made_val (.int .i64 (j : Int)) (by kernel_rfl) (by kernel_rfl) (by kernel_rfl) (fun _ _ => by kernel_rfl) ?_
                simp only [Act.put, List.setIfInBounds_toArray, List.set_cons_zero, List.set_cons_succ]
                refine Fre.made_val (.int .i64 (firstS l a d + (R1 : Int) + (j : Int))) (by kernel_rfl) (by kernel_rfl) (by kernel_rfl) (fun W hW => ?hs2) ?_
                case hs2 => (go_simp; exact i64_in _ (by omega) (by omega))
                simp only [Act.put, List.setIfInBounds_toArray, List.set_cons_zero, List.set_cons_succ]
                refine Fre.made_new 54 (OneI B (firstS l a d + (R1 : Int) + (j : Int))) (by kernel_rfl) (by kernel_rfl) rfl rfl (fun W hW => ⟨.slice (some ⟨W.heap.size, 0, none⟩) 1 1, W.alloc (.cells #[.int .i64 (firstS l a d + (R1 : Int) + (j : Int))] 3), by kernel_rfl, GrowR.of_below ((Below.refl _ W).alloc (Nat.le_refl _) _), W.heap.size, rfl, Nat.le_trans HPJ.out.sz.2 (GrowR.size hW), Blk.new W _ _⟩) ?_
                simp only [Act.put, List.setIfInBounds_toArray, List.set_cons_zero, List.set_cons_succ]
                refine Fre.made_new1 54 (OneI B (firstS l a d + (R1 : Int) + (j : Int))) 55 V2 (by kernel_rfl) rfl (by kernel_rfl) rfl rfl (fun u W hW hu => ?hm55) ?_
                case hm55 =>
                  have hown := own_first (F := G) (N := q + j) HPJ.out.own (by simp only [G]; rw [List.take_left' hxl]) (by omega) hW
                  obtain ⟨v', w', h1, h2, h3⟩ := app_int hown (Nat.le_trans HPJ.out.sz.2 (GrowR.size hW)) hu hqs
                  exact ⟨v', w', exec_append (o := ⟨some 55, _, _, _, _, _⟩) (.tmp 43) (.tmp 54) 33 rfl u10 u _ _ _ (by kernel_rfl) (by kernel_rfl) h1, h2, h3⟩
                simp only [Act.put, List.setIfInBounds_toArray, List.set_cons_zero, List.set_cons_succ]
                show ∀ w', _ → _
                intro w6 hx6
                simp only [Fre.ended]
                intro x1 _ x2 h2
                simp only [Act.put, List.setIfInBounds_toArray, List.set_cons_zero, List.set_cons_succ]
                have HX := hide (And.intro hx6 h2)
                clear hx6 h2
                go_wp2_with fail
                refine ⟨⟨j + 1, by omega, by go_num, ?_⟩, by simp [intOf]; omega⟩
                obtain ⟨hx6, h2⟩ := HX.out
                have hp := HPJ.out
                rw [← Nat.add_assoc]
                refine ⟨?_, grow_blk hp.shape hp.sz.1 hx6, grow_runs hp.runs (by have := hp.sz; omega) (by have := hp.sz; omega) hx6, ?_, hp.sz.1, Nat.le_trans hp.sz.2 hx6.size⟩
                · rw [HT.out.1, placeC_app, show placeC (firstS l a d) [R1 + j] = [Value.int .i64 (firstS l a d + (R1 : Int) + (j : Int))] by simp [placeC, Int.add_assoc]]
                  exact h2
                · have hb := hp.below
                  have hs := hp.sz
                  refine ⟨hx6.os.trans hb.os, hx6.tape.trans hb.tape, hx6.output.trans hb.output, Nat.le_trans hb.size hx6.size, fun x hx => ?_⟩
                  have := hb.size
                  exact ((hx6.block x (by omega)).elim id fun h => absurd h.1 (by omega)).trans (hb.block x hx)
              · have n6 : ¬ (j : Int) < (R2 : Int) := by omega
                obtain rfl : j = R2 := by omega
                go_wp2_with fail
                have hpp := HPJ.out
                rw [← HH.out.2.1] at hpp
                exact ⟨⟨k + 1, by omega, by go_num, hpp⟩, by simp [intOf]; omega⟩
          · have n4 : ¬ (k : Int) < (rs.length : Int) := by omega
            obtain rfl : k = rs.length := by omega
            have hQ := HQ.out
            rw [List.take_length] at hQ
            have hol := hQ.own
            obtain ⟨Ao, co, rfl⟩ := owned_slice hol
            have HQ2 := hide hQ
            clear HQ hQ hol
            go_wp2_with fail
            refine (rneed_any n HP.out.2.2.2 _).mono ?_
            rintro e w7 ⟨rfl, rfl⟩
            dsimp only
            by_cases hne : ((pos rs).length : Int) = needP n
            · have hE : suitsE K l a d n rs = 0 := if_pos ⟨HA.out.2.1, hn0, hne, HA.out.2.2⟩
              go_wp2_with fail
              refine bodyPost_ret (v := .tuple #[.slice Ao (pos rs).length co, .bool true]) (by simp [results, Try.f132, go_sem]) rfl ⟨HQ2.out.below, .inl ⟨hE, _, rfl, ?_⟩⟩
              have := HQ2.out.own
              rw [List.take_length] at this
              exact owned_baseN this fun h hh => by have := (owned_ltN HQ2.out.own hh).1; have := HQ2.out.sz; omega
            · have hE : suitsE K l a d n rs = 2 := if_neg fun h => hne h.2.2.1
              go_wp2_with fail
              refine bodyPost_ret (v := .tuple #[.slice Ao (pos rs).length co, .bool false]) (by simp [results, Try.f132, go_sem, hne]) rfl ⟨HQ2.out.below, .inr ⟨hE, _, rfl⟩⟩
      · have hE : suitsE K l a d n rs = 2 := if_neg fun h => hsec h.2.2.2
        have n1 : ¬ n < 0 := by omega
        have n2 : (K : Int) < secs l a d := by omega
        go_enter Try.func132, Try.ntmps132
        go_wp2_with fail
        refine wp_made 14 [] (by kernel_rfl) (by kernel_rfl) (by intro p hp; cases hp) List.nodup_nil (by intro t ht; cases ht) ?_
        simp only [List.take_succ_cons, List.take_zero, List.drop_succ_cons, List.drop_zero]
        refine made_val (.agg #[.int .i64 l, .int .i64 a, .int .i64 d]) (by kernel_rfl) (by kernel_rfl) (by kernel_rfl) (fun W hW => exec_load_blk (o := ⟨some 13, _, _, _, _, _⟩) 64 (.tmp 5) rfl w.heap.size rfl 64 _ _ W (HP.out.1.grow hW).shape Try.underlying64 rfl (by kernel_rfl)) ?_
        simp only [Act.put, List.setIfInBounds_toArray, List.set_cons_zero, List.set_cons_succ]
        refine made_val (.slice Ar rs.length cr) (by kernel_rfl) (by kernel_rfl) (by kernel_rfl) (fun _ _ => by kernel_rfl) ?_
        simp only [Act.put, List.setIfInBounds_toArray, List.set_cons_zero, List.set_cons_succ]
        refine made_call (.bool true) 77 #[.agg #[.int .i64 l, .int .i64 a, .int .i64 d], .slice Ar rs.length cr] (by kernel_rfl) (by kernel_rfl) (by kernel_rfl) (fun W => by kernel_rfl) (fun W hW => (rapart_any l a d (.slice Ar rs.length cr) rs hlen W ((HP.out.1.grow hW).runs.widen (HP.out.1.grow hW).below.size)).mono fun e w' ⟨h1, h2⟩ => ⟨by rw [h1, decide_eq_true hap], h2⟩) ?_
        simp only [Act.put, List.setIfInBounds_toArray, List.set_cons_zero, List.set_cons_succ]
        refine made_val (.bool false) (by kernel_rfl) (by kernel_rfl) (by kernel_rfl) (fun W hW => ?hs6) ?_
        case hs6 => go_simp
        simp only [Act.put, List.setIfInBounds_toArray, List.set_cons_zero, List.set_cons_succ]
        refine made_val (.bool false) (by kernel_rfl) (by kernel_rfl) (by kernel_rfl) (fun _ _ => by kernel_rfl) ?_
        simp only [Act.put, List.setIfInBounds_toArray, List.set_cons_zero, List.set_cons_succ]
        refine made_val (.int .i64 n) (by kernel_rfl) (by kernel_rfl) (by kernel_rfl) (fun _ _ => by kernel_rfl) ?_
        simp only [Act.put, List.setIfInBounds_toArray, List.set_cons_zero, List.set_cons_succ]
        refine made_val (.bool false) (by kernel_rfl) (by kernel_rfl) (by kernel_rfl) (fun W hW => ?hs7) ?_
        case hs7 => go_simp
        simp only [Act.put, List.setIfInBounds_toArray, List.set_cons_zero, List.set_cons_succ]
        refine made_val (.bool false) (by kernel_rfl) (by kernel_rfl) (by kernel_rfl) (fun _ _ => by kernel_rfl) ?_
        simp only [Act.put, List.setIfInBounds_toArray, List.set_cons_zero, List.set_cons_succ]
        refine made_val (.bool false) (by kernel_rfl) (by kernel_rfl) (by kernel_rfl) (fun _ _ => by kernel_rfl) ?_
        simp only [Act.put, List.setIfInBounds_toArray, List.set_cons_zero, List.set_cons_succ]
        refine made_val (.pointer (some ⟨g, 0, none⟩)) (by kernel_rfl) (by kernel_rfl) (by kernel_rfl) (fun _ _ => by kernel_rfl) ?_
        simp only [Act.put, List.setIfInBounds_toArray, List.set_cons_zero, List.set_cons_succ]
        refine made_call (.int .i64 (K : Int)) 165 #[.pointer (some ⟨g, 0, none⟩)] (by kernel_rfl) (by kernel_rfl) (by kernel_rfl) (fun W => by kernel_rfl) (fun W hW => (RefAt.sectors (HP.out.2.1.below hW)).mono fun e w' ⟨h1, h2⟩ => ⟨by rw [h1, HKK.out], h2⟩) ?_
        simp only [Act.put, List.setIfInBounds_toArray, List.set_cons_zero, List.set_cons_succ]
        refine made_val (.agg #[.int .i64 l, .int .i64 a, .int .i64 d]) (by kernel_rfl) (by kernel_rfl) (by kernel_rfl) (fun W hW => exec_load_blk (o := ⟨some 24, _, _, _, _, _⟩) 64 (.tmp 5) rfl w.heap.size rfl 64 _ _ W (HP.out.1.grow hW).shape Try.underlying64 rfl (by kernel_rfl)) ?_
        simp only [Act.put, List.setIfInBounds_toArray, List.set_cons_zero, List.set_cons_succ]
        refine made_call (.int .i64 (secs l a d)) 73 #[.agg #[.int .i64 l, .int .i64 a, .int .i64 d]] (by kernel_rfl) (by kernel_rfl) (by kernel_rfl) (fun W => by kernel_rfl) (fun W hW => rsecs_any l a d W) ?_
        simp only [Act.put, List.setIfInBounds_toArray, List.set_cons_zero, List.set_cons_succ]
        refine made_val (.bool true) (by kernel_rfl) (by kernel_rfl) (by kernel_rfl) (fun W hW => ?hs8) ?_
        case hs8 => go_simp
        simp only [Act.put, List.setIfInBounds_toArray, List.set_cons_zero, List.set_cons_succ]
        show ∀ w', _ → _
        intro w5 hb5
        simp only [ended]
        have H5 := hide hb5
        clear hb5
        go_wp2_with fail
        refine bodyPost_ret (v := .tuple #[.slice none 0 0, .bool false]) (by simp [results, Try.f132, go_sem]) rfl ⟨HP.out.1.below.next H5.out, .inr ⟨hE, _, rfl⟩⟩
    · have hE : suitsE K l a d n rs = 2 := if_neg fun h => hn0 h.2.1
      have n1 : n < 0 := by omega
      go_enter Try.func132, Try.ntmps132
      go_wp2_with fail
      refine wp_made 14 [] (by kernel_rfl) (by kernel_rfl) (by intro p hp; cases hp) List.nodup_nil (by intro t ht; cases ht) ?_
      simp only [List.take_succ_cons, List.take_zero, List.drop_succ_cons, List.drop_zero]
      refine made_val (.agg #[.int .i64 l, .int .i64 a, .int .i64 d]) (by kernel_rfl) (by kernel_rfl) (by kernel_rfl) (fun W hW => exec_load_blk (o := ⟨some 13, _, _, _, _, _⟩) 64 (.tmp 5) rfl w.heap.size rfl 64 _ _ W (HP.out.1.grow hW).shape Try.underlying64 rfl (by kernel_rfl)) ?_
      simp only [Act.put, List.setIfInBounds_toArray, List.set_cons_zero, List.set_cons_succ]
      refine made_val (.slice Ar rs.length cr) (by kernel_rfl) (by kernel_rfl) (by kernel_rfl) (fun _ _ => by kernel_rfl) ?_
      simp only [Act.put, List.setIfInBounds_toArray, List.set_cons_zero, List.set_cons_succ]
      refine made_call (.bool true) 77 #[.agg #[.int .i64 l, .int .i64 a, .int .i64 d], .slice Ar rs.length cr] (by kernel_rfl) (by kernel_rfl) (by kernel_rfl) (fun W => by kernel_rfl) (fun W hW => (rapart_any l a d (.slice Ar rs.length cr) rs hlen W ((HP.out.1.grow hW).runs.widen (HP.out.1.grow hW).below.size)).mono fun e w' ⟨h1, h2⟩ => ⟨by rw [h1, decide_eq_true hap], h2⟩) ?_
      simp only [Act.put, List.setIfInBounds_toArray, List.set_cons_zero, List.set_cons_succ]
      refine made_val (.bool false) (by kernel_rfl) (by kernel_rfl) (by kernel_rfl) (fun W hW => ?hs9) ?_
      case hs9 => go_simp
      simp only [Act.put, List.setIfInBounds_toArray, List.set_cons_zero, List.set_cons_succ]
      refine made_val (.bool false) (by kernel_rfl) (by kernel_rfl) (by kernel_rfl) (fun _ _ => by kernel_rfl) ?_
      simp only [Act.put, List.setIfInBounds_toArray, List.set_cons_zero, List.set_cons_succ]
      refine made_val (.int .i64 n) (by kernel_rfl) (by kernel_rfl) (by kernel_rfl) (fun _ _ => by kernel_rfl) ?_
      simp only [Act.put, List.setIfInBounds_toArray, List.set_cons_zero, List.set_cons_succ]
      refine made_val (.bool true) (by kernel_rfl) (by kernel_rfl) (by kernel_rfl) (fun W hW => ?hs10) ?_
      case hs10 => go_simp
      simp only [Act.put, List.setIfInBounds_toArray, List.set_cons_zero, List.set_cons_succ]
      refine made_val (.bool true) (by kernel_rfl) (by kernel_rfl) (by kernel_rfl) (fun _ _ => by kernel_rfl) ?_
      simp only [Act.put, List.setIfInBounds_toArray, List.set_cons_zero, List.set_cons_succ]
      refine made_val (.bool true) (by kernel_rfl) (by kernel_rfl) (by kernel_rfl) (fun _ _ => by kernel_rfl) ?_
      simp only [Act.put, List.setIfInBounds_toArray, List.set_cons_zero, List.set_cons_succ]
      refine made_skip (by kernel_rfl) (by kernel_rfl) (by kernel_rfl) ?_
      simp only [Act.put, List.setIfInBounds_toArray, List.set_cons_zero, List.set_cons_succ]
      refine made_skip (by kernel_rfl) (by kernel_rfl) (by kernel_rfl) ?_
      simp only [Act.put, List.setIfInBounds_toArray, List.set_cons_zero, List.set_cons_succ]
      refine made_skip (by kernel_rfl) (by kernel_rfl) (by kernel_rfl) ?_
      simp only [Act.put, List.setIfInBounds_toArray, List.set_cons_zero, List.set_cons_succ]
      refine made_skip (by kernel_rfl) (by kernel_rfl) (by kernel_rfl) ?_
      simp only [Act.put, List.setIfInBounds_toArray, List.set_cons_zero, List.set_cons_succ]
      refine made_skip (by kernel_rfl) (by kernel_rfl) (by kernel_rfl) ?_
      simp only [Act.put, List.setIfInBounds_toArray, List.set_cons_zero, List.set_cons_succ]
      show ∀ w', _ → _
      intro w5 hb5
      simp only [ended]
      have H5 := hide hb5
      clear hb5
      go_wp2_with fail
      refine bodyPost_ret (v := .tuple #[.slice none 0 0, .bool false]) (by simp [results, Try.f132, go_sem]) rfl ⟨HP.out.1.below.next H5.out, .inr ⟨hE, _, rfl⟩⟩
  · have hE : suitsE K l a d n rs = 2 := if_neg fun h => hap h.1
    go_enter Try.func132, Try.ntmps132
    go_wp2_with fail
    refine wp_made 14 [] (by kernel_rfl) (by kernel_rfl) (by intro p hp; cases hp) List.nodup_nil (by intro t ht; cases ht) ?_
    simp only [List.take_succ_cons, List.take_zero, List.drop_succ_cons, List.drop_zero]
    refine made_val (.agg #[.int .i64 l, .int .i64 a, .int .i64 d]) (by kernel_rfl) (by kernel_rfl) (by kernel_rfl) (fun W hW => exec_load_blk (o := ⟨some 13, _, _, _, _, _⟩) 64 (.tmp 5) rfl w.heap.size rfl 64 _ _ W (HP.out.1.grow hW).shape Try.underlying64 rfl (by kernel_rfl)) ?_
    simp only [Act.put, List.setIfInBounds_toArray, List.set_cons_zero, List.set_cons_succ]
    refine made_val (.slice Ar rs.length cr) (by kernel_rfl) (by kernel_rfl) (by kernel_rfl) (fun _ _ => by kernel_rfl) ?_
    simp only [Act.put, List.setIfInBounds_toArray, List.set_cons_zero, List.set_cons_succ]
    refine made_call (.bool false) 77 #[.agg #[.int .i64 l, .int .i64 a, .int .i64 d], .slice Ar rs.length cr] (by kernel_rfl) (by kernel_rfl) (by kernel_rfl) (fun W => by kernel_rfl) (fun W hW => (rapart_any l a d (.slice Ar rs.length cr) rs hlen W ((HP.out.1.grow hW).runs.widen (HP.out.1.grow hW).below.size)).mono fun e w' ⟨h1, h2⟩ => ⟨by rw [h1, decide_eq_false hap], h2⟩) ?_
    simp only [Act.put, List.setIfInBounds_toArray, List.set_cons_zero, List.set_cons_succ]
    refine made_val (.bool true) (by kernel_rfl) (by kernel_rfl) (by kernel_rfl) (fun W hW => ?hs11) ?_
    case hs11 => go_simp
    simp only [Act.put, List.setIfInBounds_toArray, List.set_cons_zero, List.set_cons_succ]
    refine made_val (.bool true) (by kernel_rfl) (by kernel_rfl) (by kernel_rfl) (fun _ _ => by kernel_rfl) ?_
    simp only [Act.put, List.setIfInBounds_toArray, List.set_cons_zero, List.set_cons_succ]
    refine made_skip (by kernel_rfl) (by kernel_rfl) (by kernel_rfl) ?_
    simp only [Act.put, List.setIfInBounds_toArray, List.set_cons_zero, List.set_cons_succ]
    refine made_skip (by kernel_rfl) (by kernel_rfl) (by kernel_rfl) ?_
    simp only [Act.put, List.setIfInBounds_toArray, List.set_cons_zero, List.set_cons_succ]
    refine made_val (.bool true) (by kernel_rfl) (by kernel_rfl) (by kernel_rfl) (fun _ _ => by kernel_rfl) ?_
    simp only [Act.put, List.setIfInBounds_toArray, List.set_cons_zero, List.set_cons_succ]
    refine made_val (.bool true) (by kernel_rfl) (by kernel_rfl) (by kernel_rfl) (fun _ _ => by kernel_rfl) ?_
    simp only [Act.put, List.setIfInBounds_toArray, List.set_cons_zero, List.set_cons_succ]
    refine made_skip (by kernel_rfl) (by kernel_rfl) (by kernel_rfl) ?_
    simp only [Act.put, List.setIfInBounds_toArray, List.set_cons_zero, List.set_cons_succ]
    refine made_skip (by kernel_rfl) (by kernel_rfl) (by kernel_rfl) ?_
    simp only [Act.put, List.setIfInBounds_toArray, List.set_cons_zero, List.set_cons_succ]
    refine made_skip (by kernel_rfl) (by kernel_rfl) (by kernel_rfl) ?_
    simp only [Act.put, List.setIfInBounds_toArray, List.set_cons_zero, List.set_cons_succ]
    refine made_skip (by kernel_rfl) (by kernel_rfl) (by kernel_rfl) ?_
    simp only [Act.put, List.setIfInBounds_toArray, List.set_cons_zero, List.set_cons_succ]
    refine made_skip (by kernel_rfl) (by kernel_rfl) (by kernel_rfl) ?_
    simp only [Act.put, List.setIfInBounds_toArray, List.set_cons_zero, List.set_cons_succ]
    show ∀ w', _ → _
    intro w5 hb5
    simp only [ended]
    have H5 := hide hb5
    clear hb5
    go_wp2_with fail
    refine bodyPost_ret (v := .tuple #[.slice none 0 0, .bool false]) (by simp [results, Try.f132, go_sem]) rfl ⟨HP.out.1.below.next H5.out, .inr ⟨hE, _, rfl⟩⟩
end Go.Proofs.Ytfppddnfdinipaa
end
