/- spencekit.flatBytes: rows of bytes that lie apart: the walk. -/
import Derived.Test.YtjmenaplgndnnaaApartC
import Derived.Test.YtjmenaplgndnnaaQuietTail
import Derived.Test.YtjmenaplgndnnaaHashOf
import Derived.BigQuiet
namespace Go.Proofs.Ytjmenaplgndnnaa
open Go Go.RowKit
set_option maxRecDepth 100000 in
set_option maxHeartbeats 4000000 in
theorem flatBytes_any (R q m cap : Nat) (us : Nat → Value) (ns : Nat → Nat) (L0 : Nat → List UInt8) (hm : m ≤ 1000) (w : World) (hR : R ≤ w.heap.size) (hq : q < w.heap.size) (hr0 : Rows8 w R q m us ns L0) (hp : Parted q m us ns) :
    Calls Try.prog 69 #[.slice (some ⟨q, 0, none⟩) m cap] w fun e w' => e = .returned (.bool true) ∧ Turned (RS m us) w w' := by
  obtain ⟨i8, hi, hz0, hz1, hz2'⟩ := info_parts info5
  obtain ⟨ir, hir, rz0, rz1, rz2⟩ := info_parts info_row
  have HR0 := hide hr0
  have HP := hide hp
  clear hr0 hp
  go_enter Try.func69, Try.ntmps69
  go_wp2_with fail
  go_loopw [3] (fun v wr => ∃ (k : Nat) (L : Nat → List UInt8), k ≤ m ∧ v = .int .i64 (k : Int) ∧ Rows8 wr R q m us ns L ∧ (∀ j, j < k → L j = mks j (ns j)) ∧ Turned (RS m us) w wr) (fun v _ => m - (intOf v).toNat)
  case atStart => exact ⟨0, L0, by omega, rfl, HR0.out, fun j hj => absurd hj (by omega), Turned.refl _ _⟩
  case round =>
    obtain ⟨k, L, hk, rfl, hrow, hdone, ht⟩ := hrel
    have HX := hide (And.intro hrow (And.intro hdone ht))
    clear hrow hdone ht
    by_cases hkm : k < m
    · have n1 : (0 : Int) ≤ (k : Int) := by omega
      have n2 : (k : Int) < (m : Int) := by omega
      obtain ⟨A, c, hu⟩ := owned_slice (HX.out.1.own k hkm)
      have cq := HX.out.1.cell k hkm
      rw [hu] at cq
      have HU := hide hu
      have hnk : ns k ≤ 1000000 := HP.out.small k hkm
      clear hu
      go_wp2_with fail
      clear cq
      go_loopw [4] (fun v wr2 => ∃ (i : Nat) (L' : Nat → List UInt8), i ≤ ns k ∧ v = .int .i64 (i : Int) ∧ Rows8 wr2 R q m us ns L' ∧ (∀ j, j < k → L' j = mks j (ns j)) ∧ (L' k).take i = mks k i ∧ Turned (RS m us) w wr2) (fun v _ => ns k - (intOf v).toNat)
      case atStart => exact ⟨0, L, by omega, rfl, HX.out.1, HX.out.2.1, by simp [mks], HX.out.2.2⟩
      case round =>
        obtain ⟨i, L', hi2, rfl, hrow, hdone, htk, ht⟩ := hrel
        have HY := hide (And.intro hrow (And.intro hdone (And.intro htk ht)))
        have cq := HY.out.1.cell k hkm
        rw [HU.out] at cq
        clear hrow hdone htk ht
        by_cases hin : i < ns k
        · obtain ⟨g, c2, hu2, hg2⟩ := own_place (HY.out.1.own k hkm) (by omega)
          obtain ⟨rfl, rfl⟩ : A = some ⟨g, 0, none⟩ ∧ c = c2 := by
            rw [HU.out] at hu2
            injection hu2 with e1 _ e3
            exact ⟨e1, e3⟩
          have hown := HY.out.1.own k hkm
          rw [HU.out] at hown
          have hlen := HY.out.1.len k hkm
          obtain ⟨cg, fg⟩ := own_cell hown i hin
          obtain ⟨u0, hu0⟩ : ∃ u, (bv (L' k))[i]? = some u := ⟨_, List.getElem?_eq_getElem (by rw [bvL]; omega)⟩
          rw [hu0] at cg
          have hlt := (owned_lt hown rfl).2
          have i1 : (0 : Int) ≤ (i : Int) := by omega
          have i2 : (i : Int) < (ns k : Int) := by omega
          have hib : i ≤ 1000000000 := by omega
          have hkb : k ≤ 1000000000 := by omega
          clear hown hg2 hu2 hu0
          go_wp2_with fail
          refine wp_quiet_tail_drewN 9 (by kernel_rfl) (by kernel_rfl) ?_
          simp only [List.take_succ_cons, List.take_zero, List.drop_succ_cons, List.drop_zero]
          repeat (go_big_quiet_step ((go_at_call 41; exact Calls.quiet_of_same (markByte_any k i hkb hib _))))
          refine wpQuiet_nil ?_
          intro nq
          go_wp2_with fail
          go_roundw
          case rel =>
            refine ⟨i + 1, (fun j => if j = k then (L' k).set i (mk k i) else L' j), by omega, by go_num, (HY.out.1.drewN nq).set HP.out hkm HU.out, fun j hj => ?_, ?_, (HY.out.2.2.2.drewN nq).setCell (fun _ => ⟨k, hkm, by rw [HU.out]; rfl⟩) _⟩
            · show (if j = k then _ else _) = _
              rw [if_neg (by omega)]
              exact HY.out.2.1 j hj
            · simp only [if_true]
              rw [mks_succ, ← HY.out.2.2.1, List.take_add_one, List.take_set_of_le (Nat.le_refl _)]
              rw [List.getElem?_set_self (by omega)]
              rfl
          case measure => simp [intOf]; omega
        · obtain rfl : i = ns k := by omega
          go_wp2_with fail
          go_roundw
          case rel =>
            refine ⟨k + 1, L', by omega, by go_num, HY.out.1, fun j hj => ?_, HY.out.2.2.2⟩
            by_cases hjk : j = k
            · subst hjk
              have h := HY.out.2.2.1
              rw [List.take_of_length_le (Nat.le_of_eq (HY.out.1.len _ hkm))] at h
              exact h
            · exact HY.out.2.1 j (by omega)
          case measure => simp [intOf]; omega
    · obtain rfl : m = k := by omega
      have hr1 : Rows8 wr R q m us ns (fun j => mks j (ns j)) := ⟨fun j hj => by have := HX.out.1.own j hj; rw [HX.out.2.1 j hj] at this; exact this, HX.out.1.cell⟩
      have ht1 := HX.out.2.2
      obtain ⟨r, hr⟩ : ∃ r, r = wr.heap.size := ⟨_, rfl⟩
      obtain ⟨w1, hw1⟩ : ∃ w1, w1 = wr.alloc (.cells (madeCells #[.slice none 0 0] m) 26) := ⟨_, rfl⟩
      have hsz1 : w1.heap.size = r + 1 := by rw [hw1, hr, size_alloc]
      have hst0 : St w w1 R q r m 0 (r + 1) us ns us (madeCells #[.slice none 0 0] m) (fun _ => []) := by
        have hal : Below wr.heap.size wr w1 := by rw [hw1]; exact (Below.refl _ _).alloc (Nat.le_refl _) _
        refine ⟨hr1.keep fun b hlt _ => hal.block b hlt, by rw [hw1, hr]; exact Blk.new _ _ _, by simp [madeCells], fun j hj => absurd hj (by omega), fun j hj => absurd hj (by omega), fun j hj => absurd hj (by omega), fun j hj => absurd hj (by omega), fun j hj => absurd hj (by omega), by rw [hw1]; exact ht1.alloc _, by omega, by omega⟩
      have he : Env w q r m us ns := ⟨HP.out, fun j hj g hg => by rw [hr]; exact (owned_lt (hr1.own j hj) hg).2, by have := ht1.size; omega, by have := ht1.size; omega⟩
      have HE := hide he
      have HS0 := hide hst0
      have HSZ := hide hsz1
      have HR := hide (And.intro hr hw1)
      clear HX hr1 ht1 HR0 he hst0 hsz1 hr hw1
      go_wp2_with (at_make; refine wpList_make_row _ rfl _ _ 48 rfl 26 ir (.slice none 0 0) Try.underlying48 hir rz0 rz1 rfl _ _ m rfl rfl ?e0 ?e1 ?_)
      case e0 => rw [rz2]; omega
      case e1 => omega
      rw [← HR.out.2, ← HR.out.1]
      go_wp2_with fail
      go_loopw [6] (fun v wr2 => ∃ (k : Nat) (Sk : Nat) (V : Nat → Value) (G : Array Value), k ≤ m ∧ v = .int .i64 (k : Int) ∧ St w wr2 R q r m k Sk us ns V G (fun j => mks j (ns j + 64))) (fun v _ => m - (intOf v).toNat)
      case atStart => exact ⟨0, r + 1, us, _, by omega, rfl, ⟨HS0.out.rows, HS0.out.gs, HS0.out.size, fun j hj => absurd hj (by omega), fun j hj => absurd hj (by omega), fun j hj => absurd hj (by omega), fun j hj => absurd hj (by omega), fun j hj => absurd hj (by omega), HS0.out.ht, HS0.out.hs, HS0.out.rs⟩⟩
      case round =>
        obtain ⟨k, Sk, V, G, hk, rfl, hst⟩ := hrel
        have HST := hide hst
        clear hst
        by_cases hkm : k < m
        · have n1 : (0 : Int) ≤ (k : Int) := by omega
          have n2 : (k : Int) < (m : Int) := by omega
          obtain ⟨A, c, hu⟩ := owned_slice (HST.out.rows.own k hkm)
          have cq := HST.out.rows.cell k hkm
          rw [hu] at cq
          have HU := hide hu
          have hnk : ns k ≤ 1000000 := HP.out.small k hkm
          clear hu HS0
          go_wp2_with fail
          clear cq
          go_loopw [7, 8] (fun g v wr3 => ∃ (i : Nat) (A' : Option Addr) (c' : Nat), i ≤ 64 ∧ v = .int .i64 (i : Int) ∧ g = .slice A' (ns k + i) c' ∧ wr3.ownsRow R 5 1 g (ns k + i) (bv (mks k (ns k + i))) ∧ ((A' = A ∧ c' = c) ∨ ∃ h, A' = some ⟨h, 0, none⟩ ∧ Sk ≤ h) ∧ St w wr3 R q r m k Sk us ns V G (fun j => mks j (ns j + 64))) (fun _ v _ => 64 - (intOf v).toNat)
          case atStart => exact ⟨0, A, c, by omega, rfl, rfl, by rw [← HU.out]; exact HST.out.rows.own k hkm, .inl ⟨rfl, rfl⟩, HST.out⟩
          case round =>
            obtain ⟨i, A', c', hi64, rfl, rfl, hown, hpl, hst3⟩ := hrel
            have cq := hst3.rows.cell k hkm
            rw [HU.out] at cq
            have HY := hide (And.intro hown (And.intro hpl hst3))
            clear hown hpl hst3
            by_cases h64 : i < 64
            · obtain ⟨z, hz⟩ : ∃ z : Nat, (ns k : Int) + (i : Int) = (z : Int) := ⟨ns k + i, by omega⟩
              have hz2 : z = ns k + i := by omega
              have HZ := hide hz2
              have hzb : z ≤ 1000000000 := by omega
              have hkb : k ≤ 1000000000 := by omega
              have hR3 : R ≤ wr.heap.size := by have := HY.out.2.2.ht.size; omega
              clear hz2
              go_wp2_with (first
                | (go_at_call 41; refine (markByte_any k z hkb hzb _).mono ?_; rintro e w' ⟨rfl, rfl⟩)
                | (at_builtin; (refine wpList_app2 (o := ⟨some 68, _, _, _, _, _⟩) rfl (.tmp 57) (.tmp 67) 26 rfl R 5 i8 (.int .u8 0) 1 Try.underlying26 hi hz0 hz1 hz2' rfl (.slice A' (ns k + i) c') (ns k + i) (bv (mks k (ns k + i))) (HY.out.1.alloc _) _ 1 1 [.int .u8 ((mk k z).toNat : Int)] (src_one _ _ _ rfl) ?hm ?h1 ?h2 ?h3 rfl rfl ?_)))
              case hm => omega
              case h1 => simp only [maxLen]; omega
              case h2 => omega
              case h3 => rw [size_alloc]; omega
              intro v5 w5 own5 gr5 grew5
              have hstA := HY.out.2.2.keep HE.out (HY.out.2.2.ht.alloc (.cells #[.int .u8 ((mk k z).toNat : Int)] 5)) (by rw [size_alloc]; omega) (fun b hlt _ => Below.heap_alloc _ _ b hlt)
              obtain ⟨hst5, A5, c5, rfl, hpl5⟩ := hstA.grow (ms := [mk k z]) HE.out hkm HU.out (mks_take k _ _ (by omega)) (by omega) (length_mks _ _) HY.out.2.1 own5 gr5 grew5
              have H5 := hide (And.intro own5 (And.intro hpl5 hst5))
              clear own5 gr5 grew5 hstA hst5 hpl5 cq
              go_wp2_with fail
              go_roundw
              case rel =>
                refine ⟨i + 1, A5, c5, by omega, by go_num, rfl, ?_, H5.out.2.1, H5.out.2.2⟩
                have h1 := H5.out.1
                rw [HZ.out] at h1
                rw [show ns k + (i + 1) = ns k + i + 1 from rfl, mks_succ, bvA]
                exact h1
              case measure => simp [intOf]; omega
            · obtain rfl : i = 64 := by omega
              obtain ⟨⟨u1, cr⟩, fr⟩ := HY.out.2.2.spot hkm
              have hrl := HY.out.2.2.gs.lt
              go_wp2_with fail
              go_roundw
              case rel =>
                have e : (fun j => if j = k then mks k (ns k + 64) else mks j (ns j + 64)) = (fun j => mks j (ns j + 64)) := by
                  funext j
                  by_cases hj : j = k
                  · rw [if_pos hj, hj]
                  · rw [if_neg hj]
                have h1 := HY.out.2.2.put HE.out hkm HU.out (mks_take k _ _ (by omega)) HY.out.1 HY.out.2.1
                rw [e] at h1
                exact ⟨k + 1, _, _, _, by omega, by go_num, h1⟩
              case measure => simp [intOf]; omega
        · obtain rfl : m = k := by omega
          clear HS0
          go_wp2_with fail
          go_loopw [9] (fun v wr3 => ∃ k : Nat, k ≤ m ∧ v = .int .i64 (k : Int) ∧ St w wr3 R q r m m Sk us ns V G (fun j => mks j (ns j + 64))) (fun v _ => m - (intOf v).toNat)
          case atStart => exact ⟨0, by omega, rfl, HST.out⟩
          case round =>
            obtain ⟨k, hk, rfl, hst3⟩ := hrel
            have H3 := hide hst3
            clear hst3 HST
            by_cases hkm : k < m
            · have n1 : (0 : Int) ≤ (k : Int) := by omega
              have n2 : (k : Int) < (m : Int) := by omega
              obtain ⟨A, c, hu⟩ := owned_slice (H3.out.rows.own k hkm)
              obtain ⟨g2, c2, hV, _⟩ := own_place (H3.out.own k hkm) (by omega)
              have hnk : ns k ≤ 1000000 := HP.out.small k hkm
              have HU := hide (And.intro hu hV)
              clear hu hV
              go_wp2_with fail
              go_loopw [10] (fun v wr3 => ∃ i : Nat, i ≤ ns k + 64 ∧ v = .int .i64 (i : Int) ∧ St w wr3 R q r m m Sk us ns V G (fun j => mks j (ns j + 64))) (fun v _ => ns k + 64 - (intOf v).toNat)
              case atStart => exact ⟨0, by omega, rfl, H3.out⟩
              case round =>
                obtain ⟨i, hi6, rfl, hst4⟩ := hrel
                have cq := hst4.rows.cell k hkm
                have cr := hst4.at_ hkm
                rw [HU.out.1] at cq
                rw [HU.out.2] at cr
                have H4 := hide hst4
                clear hst4
                by_cases hin : i < ns k + 64
                · have i1 : (0 : Int) ≤ (i : Int) := by omega
                  have i2 : (i : Int) < (ns k : Int) + 64 := by omega
                  have hib : i ≤ 1000000000 := by omega
                  have hkb : k ≤ 1000000000 := by omega
                  have cg : wr.cell? ⟨g2, i, none⟩ = some (.int .u8 ((mk k i).toNat : Int)) := by
                    have h1 := H4.out.own k hkm
                    rw [HU.out.2] at h1
                    exact (own_cell h1 i hin).1.trans (mks_get k _ i hin)
                  by_cases hil : i < ns k
                  · obtain ⟨g1, c1, hu1, _⟩ := own_place (H4.out.rows.own k hkm) (by omega)
                    have cu := row_at H4.out hkm hu1 hil
                    obtain ⟨rfl, rfl⟩ : A = some ⟨g1, 0, none⟩ ∧ c = c1 := by
                      rw [HU.out.1] at hu1
                      injection hu1 with e1 _ e3
                      exact ⟨e1, e3⟩
                    have i3 : (i : Int) < (ns k : Int) := by omega
                    have d1 : decide ((i : Int) < (ns k : Int)) = true := decide_eq_true i3
                    clear hu1
                    go_wp2_with fail
                    go_quiet ((go_at_call 41; exact Calls.quiet_of_same (markByte_any k i hkb hib _)))
                    go_wp2_with fail
                    go_roundw
                    case rel => exact ⟨i + 1, by omega, by go_num, H4.out.drewN HE.out _⟩
                    case measure => simp [intOf]; omega
                  · have i3 : ¬ (i : Int) < (ns k : Int) := by omega
                    have d1 : decide ((i : Int) < (ns k : Int)) = false := decide_eq_false i3
                    have d2 : decide (ns k ≤ i) = true := decide_eq_true (by omega)
                    have d3 : decide (i < ns k) = false := decide_eq_false (by omega)
                    go_wp2_with fail
                    go_quiet ((go_at_call 41; exact Calls.quiet_of_same (markByte_any k i hkb hib _)))
                    go_wp2_with fail
                    go_roundw
                    case rel => exact ⟨i + 1, by omega, by go_num, H4.out.drewN HE.out _⟩
                    case measure => simp [intOf]; omega
                · obtain rfl : i = ns k + 64 := by omega
                  have i2 : ¬ (((ns k + 64 : Nat)) : Int) < (ns k : Int) + 64 := by omega
                  go_wp2_with fail
                  go_roundw
                  case rel => exact ⟨k + 1, by omega, by go_num, H4.out⟩
                  case measure => simp [intOf]; omega
            · obtain rfl : m = k := by omega
              have H6 := hide H3.out.zero
              clear H3
              go_wp2_with fail
              go_loopw [11] (fun v wr3 => ∃ (k : Nat) (Sk : Nat) (V : Nat → Value) (G : Array Value) (C : Nat → List UInt8), k ≤ m ∧ v = .int .i64 (k : Int) ∧ St w wr3 R q r m k Sk us ns V G C) (fun v _ => m - (intOf v).toNat)
              case atStart => exact ⟨0, Sk, V, G, _, by omega, rfl, H6.out⟩
              case round =>
                obtain ⟨k, Sk, V, G, C, hk, rfl, hst7⟩ := hrel
                have H7 := hide hst7
                clear hst7 H6
                by_cases hkm : k < m
                · have n1 : (0 : Int) ≤ (k : Int) := by omega
                  have n2 : (k : Int) < (m : Int) := by omega
                  obtain ⟨A, c, hu⟩ := owned_slice (H7.out.rows.own k hkm)
                  have hnk : ns k ≤ 1000000 := HP.out.small k hkm
                  have HU := hide hu
                  obtain ⟨p, hp⟩ : ∃ p, p = wr.heap.size := ⟨_, rfl⟩
                  obtain ⟨w1, hw1⟩ : ∃ w1, w1 = wr.alloc (.cells (madeCells #[.int .u8 0] 64) 5) := ⟨_, rfl⟩
                  have hst8 : St w w1 R q r m k Sk us ns V G C := by
                    rw [hw1]
                    exact H7.out.keep HE.out (H7.out.ht.alloc _) (by rw [size_alloc]; omega) (fun b hlt _ => Below.heap_alloc _ _ b hlt)
                  have hbk : Blk w1 p 5 (bv (List.replicate 64 0)).toArray := by
                    rw [hw1, hp, ← made_bv]
                    exact Blk.new _ _ _
                  have hps : Sk ≤ p := by rw [hp]; exact H7.out.hs
                  have hpw : w.heap.size ≤ p := by rw [hp]; exact H7.out.ht.size
                  have H8 := hide (And.intro hst8 hbk)
                  have HN := hide (And.intro hp hw1)
                  clear hu hst8 hbk hp hw1
                  go_wp2_with (at_make; refine wpList_make_row _ rfl _ _ 26 rfl 5 i8 (.int .u8 0) Try.underlying26 hi hz0 hz1 rfl _ _ 64 rfl rfl ?e0 ?e1 ?_)
                  case e0 => rw [hz2']; omega
                  case e1 => omega
                  rw [← HN.out.2, ← HN.out.1]
                  clear HN H7
                  go_wp2_with fail
                  go_loopw [13] (fun v wr3 => ∃ (t : Nat) (l : List UInt8), t ≤ 64 ∧ v = .int .i64 (t : Int) ∧ l.length = 64 ∧ Blk wr3 p 5 (bv l).toArray ∧ St w wr3 R q r m k Sk us ns V G C) (fun v _ => 64 - (intOf v).toNat)
                  case atStart => exact ⟨0, _, by omega, rfl, List.length_replicate .., H8.out.2, H8.out.1⟩
                  case round =>
                    obtain ⟨t, l, ht6, rfl, hl, hbk, hst9⟩ := hrel
                    by_cases h64 : t < 64
                    · obtain ⟨z, hz⟩ : ∃ z : Nat, (k : Int) + (m : Int) = (z : Int) := ⟨k + m, by omega⟩
                      have hzb : z ≤ 1000000000 := by omega
                      have htb : t ≤ 1000000000 := by omega
                      have t1 : (0 : Int) ≤ (t : Int) := by omega
                      have cp := hbk.cell t
                      rw [List.getElem?_toArray, List.getElem?_eq_getElem (by rw [bvL]; omega)] at cp
                      have fp := hbk.frozen t
                      have hpl := hbk.lt
                      have H9 := hide (And.intro hbk hst9)
                      clear hbk hst9 H8
                      go_wp2_with (go_at_call 41; refine (markByte_any z t hzb htb _).mono ?_; rintro e w' ⟨rfl, rfl⟩)
                      go_roundw
                      case rel =>
                        refine ⟨t + 1, l.set t (mk z t), by omega, by go_num, by rw [List.length_set]; exact hl, ?_, ?_⟩
                        · have h1 := H9.out.1.set_ t (.int .u8 ((mk z t).toNat : Int))
                          rw [List.setIfInBounds_toArray, bv_set'] at h1
                          exact h1
                        · exact H9.out.2.keep HE.out (H9.out.2.ht.setCell (fun hlt => by change p < w.heap.size at hlt; omega) _) (by simp [World.setCell]) (fun b _ hb => Below.heap_setCell _ _ _ b (by show b ≠ p; omega))
                      case measure => simp [intOf]; omega
                    · obtain rfl : t = 64 := by omega
                      have cq := hst9.rows.cell k hkm
                      rw [HU.out] at cq
                      have hlt := hbk.lt
                      have hsrc := src_blk hbk hl
                      have hR3 : R ≤ wr.heap.size := by have := hst9.ht.size; omega
                      have H9 := hide (And.intro hbk (And.intro hst9 hsrc))
                      clear hbk hst9 hsrc H8
                      go_wp2_with (at_builtin; (refine wpList_app2 (o := ⟨some 150, _, _, _, _, _⟩) rfl (.tmp 148) (.tmp 149) 26 rfl R 5 i8 (.int .u8 0) 1 Try.underlying26 hi hz0 hz1 hz2' rfl (.slice A (ns k) c) (ns k) (bv (mks k (ns k))) (by rw [← HU.out]; exact H9.out.2.1.rows.own k hkm) (some ⟨p, 0, none⟩) 64 64 (bv l) H9.out.2.2 ?hm ?h1 ?h2 ?h3 rfl rfl ?_))
                      case hm => omega
                      case h1 => simp only [maxLen]; omega
                      case h2 => omega
                      case h3 => exact hR3
                      intro v5 w5 own5 gr5 grew5
                      obtain ⟨hst5, A5, c5, rfl, hpl5⟩ := H9.out.2.1.grow HE.out hkm HU.out (mks_take k _ _ (Nat.le_refl _)) (Nat.le_refl _) (length_mks _ _) (.inl ⟨rfl, rfl⟩) own5 gr5 grew5
                      obtain ⟨⟨u1, cr⟩, fr⟩ := hst5.spot hkm
                      have hrl := hst5.gs.lt
                      rw [← bvA] at own5
                      have H5 := hide (And.intro own5 (And.intro hpl5 hst5))
                      clear own5 gr5 grew5 hst5 hpl5 cq
                      go_wp2_with fail
                      go_roundw
                      case rel => exact ⟨k + 1, _, _, _, _, by omega, by go_num, H5.out.2.2.put HE.out hkm HU.out (by rw [List.take_append_of_le_length (by rw [length_mks]; omega), mks_take k _ _ (Nat.le_refl _)]) H5.out.1 H5.out.2.1⟩
                      case measure => simp [intOf]; omega
                · obtain rfl : m = k := by omega
                  go_wp2_with fail
                  go_loopw [14] (fun v wr3 => ∃ k : Nat, k ≤ m ∧ v = .int .i64 (k : Int) ∧ St w wr3 R q r m m Sk us ns V G C) (fun v _ => m - (intOf v).toNat)
                  case atStart => exact ⟨0, by omega, rfl, H7.out⟩
                  case round =>
                    obtain ⟨k, hk, rfl, hst3⟩ := hrel
                    have H3 := hide hst3
                    clear hst3 H7
                    by_cases hkm : k < m
                    · have n1 : (0 : Int) ≤ (k : Int) := by omega
                      have n2 : (k : Int) < (m : Int) := by omega
                      obtain ⟨A, c, hu⟩ := owned_slice (H3.out.rows.own k hkm)
                      obtain ⟨g2, c2, hV, _⟩ := own_place (H3.out.own k hkm) (by omega)
                      have hnk : ns k ≤ 1000000 := HP.out.small k hkm
                      have HU := hide (And.intro hu hV)
                      clear hu hV
                      go_wp2_with fail
                      go_loopw [15] (fun v wr3 => ∃ i : Nat, i ≤ ns k ∧ v = .int .i64 (i : Int) ∧ St w wr3 R q r m m Sk us ns V G C) (fun v _ => ns k - (intOf v).toNat)
                      case atStart => exact ⟨0, by omega, rfl, H3.out⟩
                      case round =>
                        obtain ⟨i, hi6, rfl, hst4⟩ := hrel
                        have cq := hst4.rows.cell k hkm
                        have cr := hst4.at_ hkm
                        rw [HU.out.1] at cq
                        rw [HU.out.2] at cr
                        have H4 := hide hst4
                        clear hst4
                        by_cases hin : i < ns k
                        · have i1 : (0 : Int) ≤ (i : Int) := by omega
                          have i2 : (i : Int) < (ns k : Int) + 64 := by omega
                          have i3 : (i : Int) < (ns k : Int) := by omega
                          have hib : i ≤ 1000000000 := by omega
                          have hkb : k ≤ 1000000000 := by omega
                          have cg : wr.cell? ⟨g2, i, none⟩ = some (.int .u8 ((mk k i).toNat : Int)) := by
                            have h1 := H4.out.own k hkm
                            rw [HU.out.2] at h1
                            exact (own_cell h1 i (by omega)).1.trans (mark_at (H4.out.take k hkm) hin)
                          obtain ⟨g1, c1, hu1, _⟩ := own_place (H4.out.rows.own k hkm) (by omega)
                          have cu := row_at H4.out hkm hu1 hin
                          obtain ⟨rfl, rfl⟩ : A = some ⟨g1, 0, none⟩ ∧ c = c1 := by
                            rw [HU.out.1] at hu1
                            injection hu1 with e1 _ e3
                            exact ⟨e1, e3⟩
                          clear hu1
                          go_wp2_with fail
                          go_quiet ((go_at_call 41; exact Calls.quiet_of_same (markByte_any k i hkb hib _)))
                          go_wp2_with fail
                          go_roundw
                          case rel => exact ⟨i + 1, by omega, by go_num, H4.out.drewN HE.out _⟩
                          case measure => simp [intOf]; omega
                        · obtain rfl : i = ns k := by omega
                          go_wp2_with fail
                          go_roundw
                          case rel => exact ⟨k + 1, by omega, by go_num, H4.out⟩
                          case measure => simp [intOf]; omega
                    · obtain rfl : m = k := by omega
                      go_wp2_with fail
                      go_ret
                      exact ⟨rfl, H3.out.ht⟩
end Go.Proofs.Ytjmenaplgndnnaa
