/- package dev: deeds, as a device's contracts; what is kept is told. -/
import Derived.Test.YtajeohmmobgcjaaMDevG
import Derived.Test.YtajeohmmobgcjaaMBytes
namespace Go.Proofs.Ytajeohmmobgcjaa
open Go Go.RowKit
theorem kept_bv (K : List (List UInt8)) : keptCells K = bv K.flatten := by
  simp [keptCells, bv, List.map_flatten]
  rfl
def Dv.new (n : Nat) : Dv := { de := 0, fu := 0, dn := false, kept := List.replicate n (List.replicate 64 0), pend := [] }
theorem made_zero (m N : Nat) (hm : 0 < m) : (madeCells (bv (List.replicate m 0)).toArray N).toList = List.replicate N (.int .u8 0) := by
  apply List.ext_getElem?
  intro j
  by_cases hj : j < N
  · have h64 : j % m < m := Nat.mod_lt _ hm
    simp [madeCells, hj, bv, h64]
  · simp [madeCells, hj]
theorem new_cells (n : Nat) : (madeCells (Value.agg (bv (List.replicate 64 0)).toArray).cells (n * 64)).toList = keptCells (List.replicate n (List.replicate 64 0)) := by
  rw [kept_bv, List.flatten_replicate_replicate]
  rw [show (Value.agg (bv (List.replicate 64 0)).toArray).cells = (bv (List.replicate 64 0)).toArray from rfl, made_zero 64 _ (by omega)]
  unfold bv
  rw [List.map_replicate]
  rfl
theorem newDev_any (n : Nat) (hn : 1 ≤ n ∧ n ≤ 8192) (w : World) : Calls Try.prog 26 #[.int .i64 (n : Int)] w fun e w' => ∃ g F, e = .returned (.tuple #[.pointer (some ⟨g, 0, none⟩), .int .i64 0]) ∧ DevAt w' F g (Dv.new n) ∧ Below w.heap.size w w' ∧ ∀ k, F k → w.heap.size ≤ k := by
  refine (new_any n hn w).mono ?_
  rintro e w' ⟨g, r, rfl, h1, h2, h3, h4, h5⟩
  rw [new_cells] at h4
  have el : (Dv.new n).kept.length = n := by simp [Dv.new]
  refine ⟨g, Foot g r (.slice none 0 0), rfl, ⟨r, n, _, rfl, by rw [el]; exact h3, by rw [el]; exact owned_baseN h4 (fun _ _ => Nat.zero_le _), ⟨rfl, .inl ⟨rfl, rfl⟩⟩, ?_⟩, h5, ?_⟩
  · refine ⟨by rw [el]; exact hn.1, by rw [el]; exact hn.2, fun b hb => ?_, by simp [Dv.new], by simp [Dv.new], by simp [Dv.new]⟩
    rw [List.eq_of_mem_replicate hb]
    simp
  · rintro k (rfl | rfl | h)
    · omega
    · exact h1
    · cases h
def Dv.crash (D : Dv) : Int × Dv := if D.dn then (10, D) else (0, { D with dn := true })
def Dv.fuse (D : Dv) (x : Int) : Int × Dv := if D.dn then (10, D) else (0, { D with fu := max x 0 })
section
variable {D : Dv} {F : Nat → Prop} {g : Nat}
set_option maxRecDepth 100000
theorem crashDev_any (w : World) (h : DevAt w F g D) : Calls Try.prog 32 #[.pointer (some ⟨g, 0, none⟩)] w fun e w' => e = .returned (.int .i64 D.crash.1) ∧ Left w F g D.crash.2 w' := by
  have h0 := h
  obtain ⟨rk, c, vp, rfl, hb, hk, hp, hok⟩ := h
  cases hdn : D.dn with
  | true =>
    rw [show D.crash = (10, D) by simp [Dv.crash, hdn]]
    have H := hide (And.intro hb h0)
    clear hb h0 hk hp hok
    go_enter Try.func32, Try.ntmps32
    go_wp2_with fail
    refine (able_any _ H.out.1).mono ?_
    rintro e w' ⟨rfl, rfl⟩
    rw [hdn, if_pos rfl]
    dsimp only
    go_wp2_with fail
    go_ret
    exact ⟨rfl, .same H.out.2⟩
  | false =>
    rw [show D.crash = (0, { D with dn := true }) by simp [Dv.crash, hdn]]
    have Hb := hb
    rw [hdn] at Hb
    refine (crash_any w Hb).mono ?_
    rintro e w' ⟨rfl, h1, h2⟩
    exact ⟨rfl, left_own Hb hk hp h1 h2 rfl rfl ⟨hok.n1, hok.n2, hok.k64, hok.p64, hok.de, hok.fu⟩⟩
theorem fuseDev_any (x : Int) (hx : x ≤ 9223372036854775807) (w : World) (h : DevAt w F g D) : Calls Try.prog 35 #[.pointer (some ⟨g, 0, none⟩), .int .i64 x] w fun e w' => e = .returned (.int .i64 (D.fuse x).1) ∧ Left w F g (D.fuse x).2 w' := by
  have h0 := h
  obtain ⟨rk, c, vp, rfl, hb, hk, hp, hok⟩ := h
  cases hdn : D.dn with
  | true =>
    rw [show D.fuse x = (10, D) by simp [Dv.fuse, hdn]]
    have H := hide (And.intro hb h0)
    clear hb h0 hk hp hok
    go_enter Try.func35, Try.ntmps35
    go_wp2_with fail
    refine (able_any _ H.out.1).mono ?_
    rintro e w' ⟨rfl, rfl⟩
    rw [hdn, if_pos rfl]
    dsimp only
    go_wp2_with fail
    go_ret
    exact ⟨rfl, .same H.out.2⟩
  | false =>
    rw [show D.fuse x = (0, { D with fu := max x 0 }) by simp [Dv.fuse, hdn]]
    have Hb := hb
    rw [hdn] at Hb
    refine (fuse_any x w Hb).mono ?_
    rintro e w' ⟨rfl, h1, h2⟩
    refine ⟨rfl, left_own (D' := { D with fu := max x 0 }) Hb hk hp (by rw [hdn]; exact h1) h2 rfl rfl ⟨hok.n1, hok.n2, hok.k64, hok.p64, hok.de, ?_⟩⟩
    show 0 ≤ max x 0 ∧ max x 0 ≤ _
    omega
theorem statDev_any (w : World) (h : DevAt w F g D) : Calls Try.prog 36 #[.pointer (some ⟨g, 0, none⟩)] w fun e w' => e = .returned (.agg #[.int .i64 (D.kept.length : Int), .int .i64 (D.pend.length : Int), .int .i64 D.de, .bool D.dn]) ∧ Below w.heap.size w w' := by
  obtain ⟨rk, c, vp, rfl, hb, hk, hp, hok⟩ := h
  obtain ⟨A, cp, rfl⟩ : ∃ A cp, vp = .slice A D.pend.length cp := by
    rcases owned_formN hp with ⟨h, h0, _⟩ | ⟨r, cap, _, h, _⟩
    · exact ⟨none, 0, by rw [h, h0]⟩
    · exact ⟨_, cap, h⟩
  exact stat_any w hb
end
theorem info_b8 : (Try.prog.info? 5).map (fun i => (i.zero, i.size, i.bytes)) = some (some (.int .u8 0), 1, 1) := by kernel_rfl
theorem take_flat (K : List (List UInt8)) (k : Nat) (b : List UInt8) (h : K[k]? = some b) : (K.take (k + 1)).flatten = (K.take k).flatten ++ b := by
  rw [List.take_add_one, h]
  simp
theorem flat_tl (K : List (List UInt8)) (h : ∀ b ∈ K, b.length = 64) (k : Nat) (hk : k ≤ K.length) : (K.take k).flatten.length = k * 64 := by
  rw [flat_len (s := 64) _ (fun b hb => h b (List.mem_of_mem_take hb)), List.length_take, Nat.min_eq_left hk]
set_option maxRecDepth 100000 in
set_option maxHeartbeats 1000000 in
theorem kept_any {g rk n c : Nat} {vp : Value} {de fu : Int} {dn : Bool} (K : List (List UInt8)) (w : World) (hn : n ≤ 8192) (hKn : K.length = n) (hK : ∀ b ∈ K, b.length = 64)
    (hb : Blk w g 107 (dv de fu dn (.slice (some ⟨rk, 0, none⟩) n c) vp)) (hk : w.ownsRow 0 109 64 (.slice (some ⟨rk, 0, none⟩) n c) n (keptCells K)) :
    Calls Try.prog 30 #[.pointer (some ⟨g, 0, none⟩)] w fun e w' => ∃ v, e = .returned v ∧ w'.ownsRow w.heap.size 5 1 v (n * 64) (bv K.flatten) ∧ Below w.heap.size w w' := by
  obtain ⟨i, hi, hz0, hz1, hz2⟩ := info_parts info_b8
  have c3 := (hb.cell 3).trans (dv3 ..)
  have hlt := hb.lt
  have H := hide (And.intro hb hk)
  have HK := hide hK
  have HN := hide hKn
  clear hb hk hK hKn
  go_enter Try.func30, Try.ntmps30
  go_wp2_with fail
  refine (dnone_any _ H.out.1).mono ?_
  rintro e w' ⟨rfl, rfl⟩
  dsimp only
  go_wp2_with fail
  go_loopw [2, 11] (fun v i wr => ∃ k : Nat, k ≤ n ∧ i = .int .i64 (k : Int) ∧ wr.ownsRow w'.heap.size 5 1 v (k * 64) (bv (K.take k).flatten) ∧ Below w'.heap.size w' wr) (fun _ i _ => n - (intOf i).toNat)
  case atStart => exact ⟨0, by omega, rfl, ⟨rfl, .inl ⟨rfl, rfl⟩⟩, Below.refl _ _⟩
  case round =>
    obtain ⟨k, hkn, rfl, ho, hbel⟩ := hrel
    have hg : Blk wr g 107 (dv de fu dn (.slice (some ⟨rk, 0, none⟩) n c) vp) := H.out.1.below hbel hlt
    by_cases hkm : k < n
    · have n1 : (0 : Int) ≤ (k : Int) := by omega
      have n2 : (k : Int) < (n : Int) := by omega
      obtain ⟨b, hkb⟩ : ∃ b, K[k]? = some b := ⟨K[k]'(by have := HN.out; omega), List.getElem?_eq_getElem _⟩
      have hb64 : b.length = 64 := HK.out b (List.mem_of_getElem? hkb)
      have hbl : (bv b).length = 64 := by rw [bvL, hb64]
      have hkr : wr.ownsRow 0 109 64 (.slice (some ⟨rk, 0, none⟩) n c) n (keptCells K) := owned_keepN H.out.2 fun j _ hl => hbel.block j hl
      have hsrc : Src wr (some ⟨rk, k * 64, none⟩) 64 64 (bv b) := ⟨hbl, (fun h => (by cases h)), bv1 b, fun ad had j u hu => by
        injection had with had
        subst had
        rw [Addr.add_mid]
        exact own_range hkr (k * 64) 64 _ (kept_at K k b HK.out hkb) j u hu⟩
      have c3r := (hg.cell 3).trans (dv3 ..)
      have hltr := hg.lt
      have hsz := hbel.size
      have HR := hide (And.intro ho (And.intro hbel hsrc))
      have HB := hide (take_flat K k b hkb)
      clear ho hbel hsrc hkr hkb c3
      go_wp2_with (first | (at_builtin; (refine wpList_app2 (o := ⟨some 22, _, _, _, _, _⟩) rfl (.tmp 14) (.tmp 21) 48 rfl w'.heap.size 5 i _ 1 Try.underlying48 hi hz0 hz1 hz2 rfl _ (k * 64) _ HR.out.1 _ 64 64 (bv b) HR.out.2.2 (by omega) (by simp only [maxLen]; omega) (by omega) hsz ?_ ?_ ?_); rfl; rfl; intro v1 w1 ho1 hg1 hx1; have H1 := hide (And.intro ho1 hg1); clear ho1 hg1 hx1; dsimp only [Act.put, List.setIfInBounds_toArray, List.set_cons_zero, List.set_cons_succ]))
      go_roundw
      case rel =>
        refine ⟨k + 1, by omega, by go_num, ?_, HR.out.2.1.grown H1.out.2 hsz (fun j hj => (owned_ltN HR.out.1 hj).1)⟩
        rw [HB.out, bvA, Nat.add_mul]
        exact H1.out.1
      case measure => simp [intOf]; omega
    · obtain rfl : k = n := by omega
      have HR := hide (And.intro ho hbel)
      clear ho hbel
      go_wp2_with fail
      go_ret
      have h := HR.out
      rw [show K.take k = K by rw [← HN.out]; exact List.take_length] at h
      exact ⟨_, rfl, h.1, h.2⟩
theorem keptDev_any {D : Dv} {F : Nat → Prop} {g : Nat} (w : World) (h : DevAt w F g D) : Calls Try.prog 30 #[.pointer (some ⟨g, 0, none⟩)] w fun e w' => ∃ v, e = .returned v ∧ w'.ownsRow w.heap.size 5 1 v (D.kept.length * 64) (bv D.kept.flatten) ∧ Below w.heap.size w w' := by
  obtain ⟨rk, c, vp, rfl, hb, hk, hp, hok⟩ := h
  exact kept_any D.kept w hok.n2 rfl hok.k64 hb hk
end Go.Proofs.Ytajeohmmobgcjaa
