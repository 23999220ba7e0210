/- package blob: Find. -/
import Derived.Test.YtajeohmmobgcjaaFieldC
import Derived.Test.YtajeohmmobgcjaaMid
namespace Go.Proofs.Ytajeohmmobgcjaa
open Go Go.RowKit
set_option maxRecDepth 100000
theorem lastR_ok {l : List Run} {k : Nat} {t : List Nat} (h : GOk l k t) : 0 ≤ (lastR l).1 ∧ 0 ≤ (lastR l).2 ∧ (lastR l).1 + (lastR l).2 ≤ (k : Int) := by
  rcases List.eq_nil_or_concat l with rfl | ⟨i, r, hl⟩
  · rw [lastR_nil]
    exact ⟨by simp, by simp, by simp⟩
  · rw [List.concat_eq_append] at hl
    subst hl
    rw [lastR_app]
    have := h.each r (by simp)
    omega
theorem Bits.has {x : Nat} {l : List Nat} (h : Bits x l) (k : Nat) (hk : k < 64) : x.testBit k = l.contains k := h.2 k hk
/-- what Find is in the loop -/
structure FindAt (w0 w : World) (B L g b : Nat) (D : Nat) (rs : List Run) (m : Option Nat) (n : Nat) (k : Nat) (M O : Value) : Prop where
  kd : k ≤ D
  len : (freeTo rs k).length ≤ n
  many : M = .int .i64 ((n : Int) - ((freeTo rs k).length : Int))
  own : OwnRuns B w O (grps (freeTo rs k))
  last : Blk w L 40 #[.int .i64 (lastR (grps (freeTo rs k))).1, .int .i64 (lastR (grps (freeTo rs k))).2]
  field : FieldAt w g b D (pos rs).length m
  sz : B ≤ w.heap.size
  lt : L < B ∧ g < L ∧ b < L
  below : Below w0.heap.size w0 w
  w0 : w0.heap.size ≤ L
theorem FindAt.next {w0 w W : World} {B L g b D n k : Nat} {rs : List Run} {m : Option Nat} {M O O' : Value} (h : FindAt w0 w B L g b D rs m n k M O) (hk : k < D) (hn : (freeTo rs k).length ≠ n) (hs : freeTo rs (k + 1) = freeTo rs k ++ [k])
    (own : OwnRuns B W O' (grp (grps (freeTo rs k)) k)) (last : Blk W L 40 #[.int .i64 (lastR (grp (grps (freeTo rs k)) k)).1, .int .i64 (lastR (grp (grps (freeTo rs k)) k)).2])
    (hg : W.heap[g]? = w.heap[g]?) (hb : W.heap[b]? = w.heap[b]?) (sz : B ≤ W.heap.size) (below : Below w0.heap.size w0 W) : FindAt w0 W B L g b D rs m n (k + 1) (.int .i64 ((n : Int) - ((freeTo rs k).length : Int) - 1)) O' := by
  have hl : (freeTo rs (k + 1)).length = (freeTo rs k).length + 1 := by rw [hs, List.length_append]; rfl
  have hgr : grps (freeTo rs (k + 1)) = grp (grps (freeTo rs k)) k := by rw [hs, grps_app]
  have := h.len
  exact ⟨by omega, by omega, by rw [hl]; congr 1; omega, by rw [hgr]; exact own, by rw [hgr]; exact last, h.field.up hg hb, sz, h.lt, below, h.w0⟩
set_option maxHeartbeats 2000000 in
theorem lfind_ok (l a d : Int) (h64 : d ≤ 64) (v : Value) (rs : List Run) (hlen : rs.length ≤ 1000000) (hap : apartP l a d rs) (n : Nat) (hn : n ≤ (freeTo rs d.toNat).length) (w : World) (hrs : RunsM w w.heap.size v rs) :
    Calls Try.prog 14 #[.agg #[.int .i64 l, .int .i64 a, .int .i64 d], .int .i64 (n : Int), v] w fun e w' => ∃ o, e = .returned (.tuple #[o, .int .i64 0]) ∧ OwnRuns w.heap.size w' o (findP rs d.toNat n) ∧ Below w.heap.size w w' := by
  obtain ⟨D, rfl⟩ : ∃ D : Nat, d = (D : Int) := ⟨d.toNat, by have := apart_d hap; omega⟩
  rw [Int.toNat_natCast] at hn ⊢
  have hal := hrs.below ((Below.refl _ w).alloc (Nat.le_refl _) (.cells #[.int .i64 l, .int .i64 a, .int .i64 (D : Int)] 23))
  have hcnt := apart_count hap
  have hdd := apart_d hap
  rw [Int.toNat_natCast] at hcnt
  clear hrs
  go_enter Try.func14, Try.ntmps14
  go_wp2_with fail
  refine (made_all l a D (fun _ => h64) v rs hlen _ hal).mono ?_
  rintro e w1 ⟨hb, h⟩
  have hb' : Below w.heap.size w w1 := ((Below.refl _ w).alloc (Nat.le_refl _) _).next hb
  rcases h with ⟨g, b, m, rfl, hg0, hb0, hF, hBt, hap⟩ | ⟨rfl, hno⟩
  · rw [Int.toNat_natCast] at hF
    have c1 := hF.blk.cell 1
    have c2 := hF.blk.cell 2
    have hlt := hF.blk.lt
    have n1 : (0 : Int) ≤ (D : Int) := by omega
    have n2 : (D : Int) ≤ 64 := by omega
    have n3 : (0 : Int) ≤ ((pos rs).length : Int) := by omega
    have n4 : ((pos rs).length : Int) ≤ 64 := by omega
    have n5 : ¬ ((D : Int) - ((pos rs).length : Int) < (n : Int)) := by omega
    have n6 : (0 : Int) ≤ (n : Int) := by omega
    have HB := hide hb'
    have HF := hide (And.intro hF (And.intro hBt (And.intro hap (And.intro hg0 hb0))))
    have HN := hide (And.intro hn (And.intro hcnt hdd))
    clear hb hb' hF hBt hap hcnt hdd hal hn hg0 hb0
    dsimp only
    go_wp2_with fail
    go_quiet (fail)
    go_wp2_with fail
    have hL : Blk ((w1.drewN nq).alloc (.cells #[.int .i64 0, .int .i64 0] 40)) w1.heap.size 40 #[.int .i64 0, .int .i64 0] := Blk.new _ _ _
    have hb1 : Below w1.heap.size w1 ((w1.drewN nq).alloc (.cells #[.int .i64 0, .int .i64 0] 40)) := (below_drewN (Below.refl _ w1) nq).alloc (Nat.le_refl _) _
    have hs1 : ((w1.drewN nq).alloc (.cells #[.int .i64 0, .int .i64 0] 40)).heap.size = w1.heap.size + 1 := size_alloc _ _
    have ho1 : OwnRuns (w1.heap.size + 1) ((w1.drewN nq).alloc (.cells #[.int .i64 0, .int .i64 0] 40)) (.slice none 0 0) [] := ⟨World.ownsRow_nil _ _ _ _, fun r hr => by cases hr⟩
    have hAt : FindAt w ((w1.drewN nq).alloc (.cells #[.int .i64 0, .int .i64 0] 40)) (w1.heap.size + 1) w1.heap.size g b D rs m n 0 (.int .i64 (n : Int)) (.slice none 0 0) :=
      ⟨by omega, by simp [freeTo_zero], by simp [freeTo_zero], ho1, hL, HF.out.1.below hb1, by rw [hs1]; omega, ⟨by omega, by have := HF.out.1.lt; omega, by have := HF.out.1.lt; omega⟩, HB.out.next hb1, HB.out.size⟩
    generalize (w1.drewN nq).alloc (.cells #[.int .i64 0, .int .i64 0] 40) = W1 at hAt ⊢
    generalize w1.heap.size = L at hAt ⊢
    have HA := hide hAt
    clear hAt hL hb1 hs1 ho1 c1 c2 hlt
    go_loopw [1, 6, 10] (fun M O i wr => ∃ k : Nat, i = .int .i64 (k : Int) ∧ FindAt w wr (L + 1) L g b D rs m n k M O) (fun _ _ i _ => D - (intOf i).toNat)
    case atStart => exact ⟨0, rfl, HA.out⟩
    case round =>
      obtain ⟨k, rfl, hat⟩ := hrel
      have hG := gok rs k
      have HG := hide hG
      obtain ⟨l1, l2, l3⟩ := lastR_ok hG
      have hM := hat.many
      subst hM
      have hF := hat.field
      have hlt := hF.blk.lt
      have cL0 := hat.last.cell 0
      have cL1 := hat.last.cell 1
      have fL0 := hat.last.frozen 0
      have fL1 := hat.last.frozen 1
      have ltL := hat.last.lt
      have hkd := hat.kd
      have hlen2 := hat.len
      have HR := hide hat
      clear hat hG
      by_cases hfull : (freeTo rs k).length = n
      · have e0 : (n : Int) - ((freeTo rs k).length : Int) = 0 := by omega
        rw [e0]
        go_wp2_with fail
        refine bodyPost_ret (v := .tuple #[u6, .int .i64 0]) (by simp [results, Try.f14, go_sem]) rfl ⟨u6, rfl, ?_, HR.out.below⟩
        rw [findP_at HR.out.kd hfull]
        exact ⟨owned_baseN HR.out.own.1 fun h hh => by have := (owned_ltN HR.out.own.1 hh).1; have := HR.out.w0; omega, HR.out.own.2⟩
      · have hkD : k < D := by
          rcases Nat.lt_or_ge k D with h | h
          · exact h
          · obtain rfl : k = D := by omega
            have := HN.out.1
            omega
        have q1 : (0 : Int) < (n : Int) - ((freeTo rs k).length : Int) := by omega
        have q2 : (n : Int) - ((freeTo rs k).length : Int) ≤ 64 := by have := HN.out; omega
        have q3 : (k : Int) < 64 := by omega
        have q4 : (0 : Int) ≤ (k : Int) := by omega
        generalize hrem : (n : Int) - ((freeTo rs k).length : Int) = rem at q1 q2 ⊢
        have HREM := hide hrem
        clear hrem
        go_wp2_with fail
        refine (fhas_any k (by omega) wr HR.out.field HF.out.2.1.1).mono ?_
        rintro e w2 ⟨rfl, rfl⟩
        rw [HF.out.2.1.has k (by omega)]
        have hsucc := freeTo_succ rs k
        cases hc : (pos rs).contains k with
        | true =>
          rw [hc, if_pos rfl, List.append_nil] at hsucc
          dsimp only
          go_wp2_with fail
          have hr := HR.out
          refine ⟨⟨k + 1, by go_num, by omega, by rw [hsucc]; exact hr.len, by rw [hsucc, HREM.out], by rw [hsucc]; exact hr.own, by rw [hsucc]; exact hr.last, hr.field, hr.sz, hr.lt, hr.below, hr.w0⟩, by simp [intOf]; omega⟩
        | false =>
          rw [hc, if_neg (by simp)] at hsucc
          have hstep := grps_app (freeTo rs k) k
          rw [← hsucc] at hstep
          have hlen3 : (freeTo rs (k + 1)).length = (freeTo rs k).length + 1 := by rw [hsucc, List.length_append]; rfl
          by_cases pp : 0 < (lastR (grps (freeTo rs k))).2 ∧ (lastR (grps (freeTo rs k))).1 + (lastR (grps (freeTo rs k))).2 = (k : Int)
          · obtain ⟨p1, p2⟩ := pp
            · rw [grp, if_pos ⟨p1, p2⟩] at hstep
              obtain ⟨ini, r, hini⟩ : ∃ ini r, grps (freeTo rs k) = ini ++ [r] := by
                rcases List.eq_nil_or_concat (grps (freeTo rs k)) with h | ⟨i, r, h⟩
                · rw [h, lastR_nil] at p1
                  exact absurd p1 (by simp)
                · exact ⟨i, r, by rw [h, List.concat_eq_append]⟩
              have hown := HR.out.own
              rw [hini] at hown hstep
              rw [hini, lastR_app] at p1 p2 cL0 cL1 l1 l2 l3
              rw [lastR_app, List.dropLast_concat] at hstep
              obtain ⟨h, cap, rfl⟩ := owned_placeN hown.1 (by simp)
              have hth := own_there hown.1 (ini.length * 2) 2 (by simp; omega)
              have hh := owned_ltN hown.1 (g := h) rfl
              have hrng := own_range hown.1 (ini.length * 2) 2 [.int .i64 r.1, .int .i64 r.2] (by rw [runCells_app, List.drop_left' (runCells_len _)]; rfl)
              have d0 := hrng 0 _ rfl
              have d1 := hrng 1 _ rfl
              have hll : (ini ++ [r]).length = ini.length + 1 := by simp
              have hne : h ≠ L := by omega
              have hne2 : L ≠ h := by omega
              have hgl := HG.out.len
              rw [hini, hll] at hgl
              have HOWN := hide hown
              clear hown
              simp only [hll]
              have i1 : (0 : Int) ≤ (ini.length : Int) := by omega
              have i2 : (ini.length : Int) ≤ 64 := by omega
              have i3 : r.2 ≤ 64 := by omega
              have z1 := hth 0 (by omega)
              have z2 := hth 1 (by omega)
              have z3 := z1.2
              have z4 := z2.2
              rw [Nat.add_zero] at z3 d0
              clear z1 z2 hth hrng
              go_wp2_with fail
              have hr := HR.out
              have hown := HOWN.out
              have ho1 : OwnRuns (L + 1) (w2.setCell ⟨L, 1, none⟩ (.int .i64 (r.2 + 1))) (.slice (some ⟨h, 0, none⟩) (ini ++ [r]).length cap) (ini ++ [r]) := by
                refine ⟨?_, hown.2⟩
                refine owned_keepN hown.1 fun j hj _ => Below.heap_setCell _ _ _ _ ?_
                have hj : some h = some j := hj
                injection hj with hj
                show j ≠ L
                omega
              have ho1' := ho1.1
              rw [hll] at ho1'
              have ho2 := own_setCells ho1' (ini.length * 2) [.int .i64 r.1, .int .i64 (r.2 + 1)] (by simp; omega)
              rw [runCells_app, List.take_left' (runCells_len _), List.drop_eq_nil_of_le (by rw [List.length_append, runCells_len, runCells_len]; simp), List.append_nil] at ho2
              refine ⟨⟨k + 1, by go_num, ?_⟩, by simp [intOf]; omega⟩
              have hgrp : grp (grps (freeTo rs k)) k = ini ++ [(r.1, r.2 + 1)] := by rw [← grps_app, ← hsucc]; exact hstep
              rw [← HREM.out]
              refine hr.next hkD hfull hsucc ?_ ?_ ?_ ?_ ?_ ?_
              · rw [hgrp]
                refine ⟨?_, ?_⟩
                · rw [runCells_app, List.length_append]
                  exact ho2
                · intro q hq
                  rcases List.mem_append.1 hq with hq | hq
                  · exact hown.2 q (by simp [hq])
                  · obtain rfl := List.mem_singleton.1 hq
                    show (_ ∧ _) ∧ (_ ∧ _)
                    omega
              · rw [hgrp, lastR_app]
                have hbl := hr.last
                rw [hini, lastR_app] at hbl
                exact ((hbl.set_ 1 (.int .i64 (r.2 + 1))).far (by show L ≠ h; omega) _).far (by show L ≠ h; omega) _
              · have := hr.lt
                exact (Below.heap_setCell _ _ _ _ (by show g ≠ h; omega)).trans ((Below.heap_setCell _ _ _ _ (by show g ≠ h; omega)).trans (Below.heap_setCell _ _ _ _ (by show g ≠ L; omega)))
              · have := hr.lt
                exact (Below.heap_setCell _ _ _ _ (by show b ≠ h; omega)).trans ((Below.heap_setCell _ _ _ _ (by show b ≠ h; omega)).trans (Below.heap_setCell _ _ _ _ (by show b ≠ L; omega)))
              · simpa using hr.sz
              · have := hr.w0
                exact ((hr.below.setCell (by show w.heap.size ≤ L; omega) _).setCell (by show w.heap.size ≤ h; omega) _).setCell (by show w.heap.size ≤ h; omega) _
          · have hgrp : grp (grps (freeTo rs k)) k = grps (freeTo rs k) ++ [((k : Int), 1)] := if_neg pp
            have hr := HR.out
            have own1 : OwnRuns (L + 1) ((w2.setCell ⟨L, 0, none⟩ (.int .i64 (k : Int))).setCell ⟨L, 1, none⟩ (.int .i64 1)) u6 (grps (freeTo rs k)) := by
              refine ⟨owned_keepN hr.own.1 fun j hj _ => ?_, hr.own.2⟩
              have := (owned_ltN hr.own.1 hj).1
              exact (Below.heap_setCell _ _ _ _ (by show j ≠ L; omega)).trans (Below.heap_setCell _ _ _ _ (by show j ≠ L; omega))
            have hbl1 := (hr.last.set_ 0 (.int .i64 (k : Int))).set_ 1 (.int .i64 1)
            have hsz1 : ((w2.setCell ⟨L, 0, none⟩ (.int .i64 (k : Int))).setCell ⟨L, 1, none⟩ (.int .i64 1)).heap.size = w2.heap.size := by simp
            have hbe1 := (hr.below.setCell (p := ⟨L, 0, none⟩) (by have := hr.w0; exact this) (.int .i64 (k : Int))).setCell (p := ⟨L, 1, none⟩) (by have := hr.w0; exact this) (.int .i64 1)
            have hoth : ∀ j, j ≠ L → ((w2.setCell ⟨L, 0, none⟩ (.int .i64 (k : Int))).setCell ⟨L, 1, none⟩ (.int .i64 1)).heap[j]? = w2.heap[j]? := fun j hj =>
              (Below.heap_setCell _ _ _ _ hj).trans (Below.heap_setCell _ _ _ _ hj)
            have hgl := HG.out.len
            have hcells : ∀ j r, [((k : Int), (1 : Int))][j]? = some r → (((w2.setCell ⟨L, 0, none⟩ (.int .i64 (k : Int))).setCell ⟨L, 1, none⟩ (.int .i64 1)).alloc (.cells #[.int .i64 (k : Int), .int .i64 1] 40)).cell? ⟨w2.heap.size, 0 + j * 2, none⟩ = some (.int .i64 r.1) ∧ (((w2.setCell ⟨L, 0, none⟩ (.int .i64 (k : Int))).setCell ⟨L, 1, none⟩ (.int .i64 1)).alloc (.cells #[.int .i64 (k : Int), .int .i64 1] 40)).cell? ⟨w2.heap.size, 0 + j * 2 + 1, none⟩ = some (.int .i64 r.2) := by
              intro j r hj
              have hb := Blk.new ((w2.setCell ⟨L, 0, none⟩ (.int .i64 (k : Int))).setCell ⟨L, 1, none⟩ (.int .i64 1)) 40 #[.int .i64 (k : Int), .int .i64 1]
              rw [hsz1] at hb
              cases j with
              | zero =>
                injection hj with hj
                subst hj
                exact ⟨hb.cell 0, hb.cell 1⟩
              | succ j => simp at hj
            obtain ⟨v', w', happ, hown', hgr', hbe'⟩ := own1.app (news := [((k : Int), 1)]) (by rw [hsz1]; exact hr.sz) ((Below.refl _ _).alloc (Nat.le_refl _) (.cells #[.int .i64 (k : Int), .int .i64 1] 40)) (by simp) (by simp; omega) w2.heap.size 0 hcells (by
              intro r hr'
              obtain rfl := List.mem_singleton.1 hr'
              show (_ ∧ _) ∧ (_ ∧ _)
              omega) 1
            have hfin : FindAt w w' (L + 1) L g b D rs m n (k + 1) (.int .i64 (rem - 1)) v' := by
              rw [← HREM.out]
              have := hr.lt
              refine hr.next hkD hfull hsucc ?_ ?_ ?_ ?_ ?_ ?_
              · rw [hgrp]
                exact hown'
              · rw [hgrp, lastR_app]
                exact (hbe'.block L (by omega)).trans hbl1
              · exact (hbe'.block g (by omega)).trans (hoth g (by omega))
              · exact (hbe'.block b (by omega)).trans (hoth b (by omega))
              · have := hbe'.size
                have := hr.sz
                omega
              · have := hr.w0
                exact hbe1.trans (hbe'.mono (by omega))
            have HFIN := hide (And.intro hfin happ)
            clear hfin happ hown' hgr' hbe' own1 hbl1 hsz1 hbe1 hoth hgl hcells hr hF hgrp hstep hlen3
            dsimp only
            by_cases p1 : 0 < (lastR (grps (freeTo rs k))).2
            · have p2 : ¬ (lastR (grps (freeTo rs k))).1 + (lastR (grps (freeTo rs k))).2 = (k : Int) := fun h => pp ⟨p1, h⟩
              clear pp
              go_wp2_with (at_builtin; refine wpList_value (o := ⟨some 67, _, _, _, _, _⟩) rfl v' w' (exec_append (o := ⟨some 67, _, _, _, _, _⟩) (.tmp 64) (.tmp 66) 24 rfl u6 (.slice (some ⟨w2.heap.size, 0, none⟩) 1 1) _ _ _ rfl rfl HFIN.out.2) ?_)
              exact ⟨⟨k + 1, by go_num, HFIN.out.1⟩, by simp [intOf]; omega⟩
            · clear pp
              go_wp2_with (at_builtin; refine wpList_value (o := ⟨some 67, _, _, _, _, _⟩) rfl v' w' (exec_append (o := ⟨some 67, _, _, _, _, _⟩) (.tmp 64) (.tmp 66) 24 rfl u6 (.slice (some ⟨w2.heap.size, 0, none⟩) 1 1) _ _ _ rfl rfl HFIN.out.2) ?_)
              exact ⟨⟨k + 1, by go_num, HFIN.out.1⟩, by simp [intOf]; omega⟩
  · exact absurd hap hno
def findE (l a d : Int) (rs : List Run) (n : Int) : Int := if apartP l a d rs ∧ 0 ≤ n then (if ((freeTo rs d.toNat).length : Int) < n then 7 else 0) else 2
def findR (l a d : Int) (rs : List Run) (n : Int) : List Run := if findE l a d rs n = 0 then findP rs d.toNat n.toNat else []
theorem ownRuns_nil (B : Nat) (w : World) : OwnRuns B w (.slice none 0 0) [] := ⟨World.ownsRow_nil _ _ _ _, fun r hr => by cases hr⟩
theorem lfind_any (l a d : Int) (h64 : rightP l a d → d ≤ 64) (v : Value) (rs : List Run) (hlen : rs.length ≤ 1000000) (n : Int) (w : World) (hrs : RunsM w w.heap.size v rs) :
    Calls Try.prog 14 #[.agg #[.int .i64 l, .int .i64 a, .int .i64 d], .int .i64 n, v] w fun e w' => ∃ o, e = .returned (.tuple #[o, .int .i64 (findE l a d rs n)]) ∧ OwnRuns w.heap.size w' o (findR l a d rs n) ∧ Below w.heap.size w w' := by
  by_cases hap : apartP l a d rs
  · by_cases hn : 0 ≤ n
    · by_cases hf : ((freeTo rs d.toNat).length : Int) < n
      · have hE : findE l a d rs n = 7 := by rw [findE, if_pos ⟨hap, hn⟩, if_pos hf]
        have hR : findR l a d rs n = [] := by rw [findR, hE]; rfl
        rw [hE, hR]
        have hal := hrs.below ((Below.refl _ w).alloc (Nat.le_refl _) (.cells #[.int .i64 l, .int .i64 a, .int .i64 d] 23))
        have hcnt := apart_count hap
        have hdd := apart_d hap
        clear hrs hE hR
        go_enter Try.func14, Try.ntmps14
        go_wp2_with fail
        refine (made_all l a d h64 v rs hlen _ hal).mono ?_
        rintro e w1 ⟨hb, h⟩
        have hb' : Below w.heap.size w w1 := ((Below.refl _ w).alloc (Nat.le_refl _) _).next hb
        rcases h with ⟨g, b, m, rfl, hg0, hb0, hF, hBt, _⟩ | ⟨rfl, hno⟩
        · have c1 := hF.blk.cell 1
          have c2 := hF.blk.cell 2
          have hlt := hF.blk.lt
          have n1 : (0 : Int) ≤ (d.toNat : Int) := by omega
          have n2 : (d.toNat : Int) ≤ 8192 := by omega
          have n3 : (0 : Int) ≤ ((pos rs).length : Int) := by omega
          have n4 : ((pos rs).length : Int) ≤ 8192 := by omega
          have n5 : (d.toNat : Int) - ((pos rs).length : Int) < n := by omega
          have HB := hide hb'
          generalize (d.toNat : Int) = D at c1 n1 n2 n5
          clear hb hb' hF hBt hap hcnt hdd hal hf hg0 hb0
          dsimp only
          go_wp2_with fail
          go_quiet (fail)
          go_wp2_with fail
          refine bodyPost_ret (v := .tuple #[.slice none 0 0, .int .i64 7]) (by simp [results, Try.f14, go_sem]) rfl ⟨_, rfl, ownRuns_nil _ _, below_drewN HB.out _⟩
        · exact absurd hap hno
      · have hE : findE l a d rs n = 0 := by rw [findE, if_pos ⟨hap, hn⟩, if_neg hf]
        have hR : findR l a d rs n = findP rs d.toNat n.toNat := by rw [findR, hE]; rfl
        rw [hE, hR]
        have h := lfind_ok l a d (h64 hap.1) v rs hlen hap n.toNat (by omega) w hrs
        rwa [Int.toNat_of_nonneg hn] at h
    · have hE : findE l a d rs n = 2 := by rw [findE, if_neg (fun h => hn h.2)]
      have hR : findR l a d rs n = [] := by rw [findR, hE]; rfl
      rw [hE, hR]
      have hal := hrs.below ((Below.refl _ w).alloc (Nat.le_refl _) (.cells #[.int .i64 l, .int .i64 a, .int .i64 d] 23))
      clear hrs hE hR
      go_enter Try.func14, Try.ntmps14
      go_wp2_with fail
      refine (made_all l a d h64 v rs hlen _ hal).mono ?_
      rintro e w1 ⟨hb, h⟩
      have HB : Hid (Below w.heap.size w w1) := hide (((Below.refl _ w).alloc (Nat.le_refl _) _).next hb)
      rcases h with ⟨g, b, m, rfl, _⟩ | ⟨rfl, hno⟩
      · clear hb hal hap
        dsimp only
        go_wp2_with fail
        refine bodyPost_ret (v := .tuple #[.slice none 0 0, .int .i64 2]) (by simp [results, Try.f14, go_sem]) rfl ⟨_, rfl, ownRuns_nil _ _, HB.out⟩
      · exact absurd hap hno
  · have hE : findE l a d rs n = 2 := by rw [findE, if_neg (fun h => hap h.1)]
    have hR : findR l a d rs n = [] := by rw [findR, hE]; rfl
    rw [hE, hR]
    have hal := hrs.below ((Below.refl _ w).alloc (Nat.le_refl _) (.cells #[.int .i64 l, .int .i64 a, .int .i64 d] 23))
    clear hrs hE hR
    go_enter Try.func14, Try.ntmps14
    go_wp2_with fail
    refine (made_all l a d h64 v rs hlen _ hal).mono ?_
    rintro e w1 ⟨hb, h⟩
    have HB : Hid (Below w.heap.size w w1) := hide (((Below.refl _ w).alloc (Nat.le_refl _) _).next hb)
    rcases h with ⟨g, b, m, rfl, _, _, _, _, h⟩ | ⟨rfl, hno⟩
    · exact absurd h hap
    · clear hb hal hap
      dsimp only
      go_wp2_with fail
      refine bodyPost_ret (v := .tuple #[.slice none 0 0, .int .i64 2]) (by simp [results, Try.f14, go_sem]) rfl ⟨_, rfl, ownRuns_nil _ _, HB.out⟩
end Go.Proofs.Ytajeohmmobgcjaa
