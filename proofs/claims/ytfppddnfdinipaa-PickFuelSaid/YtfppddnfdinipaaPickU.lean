/- package pick: Free. -/
import Derived.Test.YtfppddnfdinipaaPickT
namespace Go.Proofs.Ytfppddnfdinipaa
open Go Go.RowKit Go.Maps
set_option maxRecDepth 100000
/-- a row of numbers in memory -/
def intLay : Lay (List Int) := Lay.slice 33 (Lay.int 3 .i64)
theorem intLay_opens : intLay.Opens Try.prog := opens_slice (opens_int Try.underlying3 (by kernel_rfl)) (by decide) Try.underlying33 (by kernel_rfl)
theorem intLay_at {w : World} {B : Nat} {v : Value} {ks : List Int} (h : intLay.At w B [v] ks) : ∃ A cap, v = .slice A ks.length cap ∧ ∀ i k, ks[i]? = some k → (∃ b off, A = some ⟨b, off, none⟩ ∧ b < B ∧ w.cell? ⟨b, off + i, none⟩ = some (.int .i64 k)) ∧ -9223372036854775808 ≤ k ∧ k ≤ 9223372036854775807 := by
  obtain ⟨A, cap, rfl, _, _, _, hA⟩ := slice_open h
  refine ⟨A, cap, rfl, fun i k hi => ?_⟩
  obtain ⟨b, off, rfl, hb, hE⟩ := hA (by have := (List.getElem?_eq_some_iff.1 hi).1; omega)
  obtain ⟨cs, hr, rfl, hw⟩ := hE i k hi
  have h9 : w.cell? ⟨b, off + i * 1 + 0, none⟩ = some (.int .i64 k) := hr 0 _ rfl
  rw [Nat.mul_one, Nat.add_zero] at h9
  refine ⟨⟨b, off, rfl, hb, h9⟩, ?_⟩
  simp [Lit.wf, IntKind.min, IntKind.max, IntKind.signed, IntKind.bits] at hw
  omega
/-- numbers that lie in memory -/
def IntsAt (w : World) (B : Nat) (v : Value) (zs : List Int) : Prop := ∃ A cap, v = .slice A zs.length cap ∧ ∀ i k, zs[i]? = some k → ∃ b off, A = some ⟨b, off, none⟩ ∧ b < B ∧ w.cell? ⟨b, off + i, none⟩ = some (.int .i64 k)
theorem IntsAt.alike {w w' : World} {B : Nat} {v : Value} {zs : List Int} (h : IntsAt w B v zs) (ha : Alike B w w') : IntsAt w' B v zs := by
  obtain ⟨A, cap, e, hA⟩ := h
  refine ⟨A, cap, e, fun i k hk => ?_⟩
  obtain ⟨b, off, h1, h2, h3⟩ := hA i k hk
  exact ⟨b, off, h1, h2, (ha.cell (p := ⟨b, off + i, none⟩) h2).trans h3⟩
theorem IntsAt.widen {w : World} {B B' : Nat} {v : Value} {zs : List Int} (h : IntsAt w B v zs) (hB : B ≤ B') : IntsAt w B' v zs := by
  obtain ⟨A, cap, e, hA⟩ := h
  refine ⟨A, cap, e, fun i k hk => ?_⟩
  obtain ⟨b, off, h1, h2, h3⟩ := hA i k hk
  exact ⟨b, off, h1, by omega, h3⟩
theorem intLay_ints {w : World} {B : Nat} {v : Value} {ks : List Int} (h : intLay.At w B [v] ks) : IntsAt w B v ks := by
  obtain ⟨A, cap, e, hA⟩ := intLay_at h
  exact ⟨A, cap, e, fun i k hk => (hA i k hk).1⟩
theorem OwnI.ints {N : Nat} {w : World} {v : Value} {l : List Nat} (h : OwnI N w v l) : IntsAt w w.heap.size v (l.map fun k => ((k : Nat) : Int)) := by
  rcases owned_formN h with ⟨e, h0, _⟩ | ⟨g, cap, cur, e, _, _, _, hb, hs, ht, hlt⟩
  · obtain rfl := List.eq_nil_of_length_eq_zero h0
    exact ⟨none, 0, e, fun i k hk => by simp at hk⟩
  · refine ⟨_, cap, by rw [List.length_map]; exact e, fun i k hk => ⟨g, 0, rfl, hlt, ?_⟩⟩
    rw [List.getElem?_map] at hk
    cases e2 : l[i]? with
    | none => rw [e2] at hk; cases hk
    | some j =>
      rw [e2] at hk
      injection hk with hk
      subst hk
      have hil := (List.getElem?_eq_some_iff.1 e2).1
      have h3 : (iv l)[i]? = some (.int .i64 ((j : Nat) : Int)) := by unfold iv; rw [List.getElem?_map, e2]; rfl
      rw [← ht, List.getElem?_take_of_lt (by omega)] at h3
      rw [hb.cell, ← Array.getElem?_toList, Nat.zero_add]
      exact h3
theorem foldT_nil (rows : List (Hsh × List Opt)) (ps : List Pth) (of : List Mde) : foldT rows [] ps of = (ps, of) := by
  cases rows with
  | nil => unfold foldT; rfl
  | cons r rows => obtain ⟨h, os⟩ := r; unfold foldT; rfl
theorem foldT_snoc : ∀ (rows : List (Hsh × List Opt)) (l : List Nat) (ps : List Pth) (of : List Mde) (h : Hsh) (os : List Opt) (k : Nat) (x : Opt), rows[l.length]? = some (h, os) → os[k]? = some x → (∀ (i : Nat) r j, rows[i]? = some r → l[i]? = some j → j < r.2.length) →
    foldT rows (l ++ [k]) ps of = ((foldT rows l ps of).1 ++ x.1 :: x.2, (foldT rows l ps of).2 ++ [(h, x.1)])
  | [], l, ps, of, h, os, k, x, hr, _, _ => by simp at hr
  | (h0, os0) :: rows, [], ps, of, h, os, k, x, hr, hx, _ => by
    simp only [List.length_nil, List.getElem?_cons_zero, Option.some.injEq, Prod.mk.injEq] at hr
    obtain ⟨rfl, rfl⟩ := hr
    rw [foldT_nil]
    show foldT ((h0, os0) :: rows) [k] ps of = _
    conv => lhs; unfold foldT
    rw [hx]
    dsimp only
    rw [foldT_nil]
  | (h0, os0) :: rows, k0 :: l, ps, of, h, os, k, x, hr, hx, hin => by
    have h0l : k0 < os0.length := hin 0 (h0, os0) k0 rfl rfl
    have e : os0[k0]? = some os0[k0] := List.getElem?_eq_getElem h0l
    have ih := foldT_snoc rows l (ps ++ os0[k0].1 :: os0[k0].2) (of ++ [(h0, os0[k0].1)]) h os k x (by simpa using hr) hx (fun i r j h1 h2 => hin (i + 1) r j (by simpa using h1) (by simpa using h2))
    show foldT ((h0, os0) :: rows) (k0 :: (l ++ [k])) ps of = _
    have e1 : ∀ m, foldT ((h0, os0) :: rows) (k0 :: m) ps of = foldT rows m (ps ++ os0[k0].1 :: os0[k0].2) (of ++ [(h0, os0[k0].1)]) := fun m => by
      conv => lhs; unfold foldT
      rw [e]
    rw [e1, e1]
    exact ih
theorem inRange_iff {opts : List (List Opt)} {ks : List Int} : inRange opts ks = true ↔ ∀ (i : Nat) os k, opts[i]? = some os → ks[i]? = some k → 0 ≤ k ∧ k < (os.length : Int) := by
  unfold inRange
  rw [List.all_eq_true]
  constructor
  · intro h i os k h1 h2
    have := h (os, k) (List.mem_of_getElem? (i := i) (by rw [List.getElem?_zip_eq_some]; exact ⟨h1, h2⟩))
    simpa using this
  · rintro h ⟨os, k⟩ hm
    obtain ⟨i, hi⟩ := List.getElem?_of_mem hm
    rw [List.getElem?_zip_eq_some] at hi
    simpa using h i os k hi.1 hi.2
/-- the first places are in range -/
def InR (opts : List (List Opt)) (ks : List Int) (n : Nat) : Prop := ∀ (i : Nat) os k, i < n → opts[i]? = some os → ks[i]? = some k → 0 ≤ k ∧ k < (os.length : Int)
/-- what is there by the first n places -/
def thereN (c : CaseP) (ks : List Int) (n : Nat) : List Pth × List Mde := foldT (c.cls.zip c.opts) ((ks.map Int.toNat).take n) c.fixed c.of
theorem thereN_next {c : CaseP} {ks : List Int} {n : Nat} {h : Hsh} {os : List Opt} {k : Int} {x : Opt} (hn : InR c.opts ks n) (hc : c.cls[n]? = some h) (ho : c.opts[n]? = some os) (hk : ks[n]? = some k) (hx : os[k.toNat]? = some x) :
    thereN c ks (n + 1) = ((thereN c ks n).1 ++ x.1 :: x.2, (thereN c ks n).2 ++ [(h, x.1)]) := by
  have hnl := (List.getElem?_eq_some_iff.1 hk).1
  have hl : ((ks.map Int.toNat).take n).length = n := by
    rw [List.length_take, List.length_map]
    omega
  unfold thereN
  rw [List.take_add_one, List.getElem?_map, hk]
  refine foldT_snoc _ _ _ _ h os k.toNat x ?_ hx ?_
  · rw [hl, List.getElem?_zip_eq_some]
    exact ⟨hc, ho⟩
  · intro i r j h1 h2
    obtain ⟨r1, r2⟩ := r
    rw [List.getElem?_zip_eq_some] at h1
    have hi : i < n := by
      have := (List.getElem?_eq_some_iff.1 h2).1
      omega
    rw [List.getElem?_take_of_lt hi, List.getElem?_map] at h2
    cases e : ks[i]? with
    | none => rw [e] at h2; cases h2
    | some z =>
      rw [e] at h2
      injection h2 with h2
      have := hn i r2 z hi h1.2 e
      dsimp only
      omega
theorem thereN_all (c : CaseP) (ks : List Int) (n : Nat) (h : ks.length ≤ n) : thereN c ks n = foldT (c.cls.zip c.opts) (ks.map Int.toNat) c.fixed c.of := by
  unfold thereN
  rw [List.take_of_length_le (by rw [List.length_map]; exact h)]
theorem thereN_zero (c : CaseP) (ks : List Int) : thereN c ks 0 = (c.fixed, c.of) := by
  unfold thereN
  rw [List.take_zero, foldT_nil]
set_option maxHeartbeats 4000000 in
theorem free_any (w : World) (v : Cvs) (c : CaseP) (hc : c.size ≤ 120) (hC : CaseAt w.heap.size w v c) (ks : List Int) (hkl : ks.length ≤ 1000000) (vk : Value) (hK : IntsAt w w.heap.size vk ks) :
    Calls Try.prog 20 #[.agg (caseC v).toArray, vk] w fun e w' => e = .returned (.bool (freeB c ks)) ∧ Below w.heap.size w w' := by
  obtain ⟨b1, b2, b3, b4, b5, b6, b7⟩ := CaseP.bounds hc
  have hUl : c.U.length ≤ 100000 ∧ ∀ h ∈ c.U, okH h := ⟨by omega, hC.okU⟩
  have hVl : c.V.length ≤ 100000 := by omega
  obtain ⟨w1, hw1⟩ : ∃ w1, w1 = w.alloc (.cells (caseC v).toArray 29) := ⟨_, rfl⟩
  have hb1 : Below w.heap.size w w1 := by rw [hw1]; exact (Below.refl _ w).alloc (Nat.le_refl _) _
  have hk1 : Blk w1 w.heap.size 29 (caseC v).toArray := by rw [hw1]; exact Blk.new _ _ _
  have hz1 : w1.heap.size = w.heap.size + 1 := by rw [hw1, size_alloc]
  have hC1 : CaseAt w.heap.size w1 v c := hC.alike fun k hk => hb1.block k hk
  have hK1 : IntsAt w1 w.heap.size vk ks := hK.alike fun k hk => hb1.block k hk
  have ho : okH v.own := by rw [hC.own]; exact hC.okO
  obtain ⟨Ao, capo, hvo, _, _, _, hAo⟩ := slice_open hC1.atO
  obtain ⟨Ac, capc, hvc, _, _, _, _⟩ := slice_open hC1.atC
  obtain ⟨Ak, capk, rfl, hKs⟩ := hK1
  have hcells := case_cells ho hk1
  rw [hvo, hvc] at hcells
  have H1 := hide (And.intro hb1 (And.intro hk1 (And.intro hC1 (And.intro hcells (And.intro hvo (And.intro hvc (And.intro hKs hAo)))))))
  have HW := hide hw1
  clear hb1 hk1 hC1 hC hvo hvc hcells hw1 hK hKs hAo
  have o9 : (c.opts.length : Int) ≤ 120 := by omega
  have c9 : (c.cls.length : Int) ≤ 120 := by omega
  have k9 : (ks.length : Int) ≤ 1000000 := by omega
  have c22 : w1.cell? ⟨w.heap.size, 22, none⟩ = some (.slice Ao c.opts.length capo) := H1.out.2.2.2.1.2.2.1
  by_cases hne : c.opts.length = c.cls.length
  · have c21 : w1.cell? ⟨w.heap.size, 21, none⟩ = some (.slice Ac c.opts.length capc) := by rw [hne]; exact H1.out.2.2.2.1.2.1
    have HNE := hide hne
    clear hne
    by_cases hkn : ks.length = c.opts.length
    · rw [hkn]
      have HKN := hide hkn
      clear hkn
      go_enter Try.func20, Try.ntmps20
      go_wp2_with (first | (refine wpList_value (o := ⟨some 9, _, _, _, _, _⟩) rfl (.slice Ao c.opts.length capo) w1 (by rw [← HW.out]; exact exec_load_cell (o := ⟨some 9, _, _, _, _, _⟩) 26 (.tmp 8) rfl ⟨w.heap.size, 22, none⟩ rfl _ _ w1 Try.underlying26 rfl H1.out.2.2.2.1.2.2.1) ?_) | (refine wpList_value (o := ⟨some 23, _, _, _, _, _⟩) rfl (.agg (caseC v).toArray) w1 (exec_load_blk (o := ⟨some 23, _, _, _, _, _⟩) 29 (.tmp 2) rfl w.heap.size rfl 29 _ _ w1 H1.out.2.1 Try.underlying29 rfl (csz ho)) ?_))
      refine (over_any w1 v c hc (H1.out.2.2.1.widen (by omega)) 0 (by omega)).mono ?_
      rintro e w3 ⟨B, s, cb, tb, hb, S, rfl, hB, hb3, hs3, hi3, hst, hfu⟩
      have hC3 : CaseAt B w3 v c := (H1.out.2.2.1.alike fun k hk => hb3.block k (by omega)).widen (by omega)
      have hk3 : Blk w3 w.heap.size 29 (caseC v).toArray := (hb3.block _ (by omega)).trans H1.out.2.1
      have H3 := hide (And.intro hB (And.intro hb3 (And.intro hs3 (And.intro hi3 (And.intro hC3 hk3)))))
      clear hB hb3 hs3 hi3 hst hfu hC3 hk3
      dsimp only
      go_wp2_with fail
      go_loopw [27] (fun x wr => ∃ k S1 cnt M, k ≤ c.opts.length ∧ x = .int .i64 ((k : Nat) : Int) ∧ SLeft B w3 s cb tb hb v S S1 wr ∧ InvP v.own c.U c.V S1 cnt M (there cnt M) ∧ Say cnt M (thereN c ks k).1 (thereN c ks k).2 ∧ InR c.opts ks k ∧ ∀ q, cnt q ≤ 120 + 200 * k) (fun x _ => c.opts.length - (intOf x).toNat)
      case atStart => exact ⟨0, S, _, _, by omega, rfl, .refl H3.out.2.2.1, H3.out.2.2.2.1, by rw [thereN_zero]; exact say_first _ _, (fun i _ _ hi => absurd hi (by omega)), fun q => by rw [cnt0_eq]; have := pcnt_len c.fixed q; omega⟩
      case round =>
        obtain ⟨wo, rfl⟩ : ∃ wo, wo = wr := ⟨_, rfl⟩
        obtain ⟨k, S1, cnt, M, hk, rfl, hl1, hi1, hsay, hin, hcq⟩ := hrel
        have hal := SLeft.alike H3.out.2.2.1 hl1
        have hC4 := H3.out.2.2.2.2.1.alike hal
        have hcells := case_cells ho ((hal w.heap.size (by have := H3.out.1; omega)).trans H3.out.2.2.2.2.2)
        rw [H1.out.2.2.2.2.1, H1.out.2.2.2.2.2.1] at hcells
        have hbw := SLeft.belowB H3.out.2.2.1 hl1
        have H4 := hide (And.intro hl1 (And.intro hi1 (And.intro hsay (And.intro hin (And.intro hcq (And.intro hC4 (And.intro hcells hbw)))))))
        clear hl1 hi1 hsay hin hcq hC4 hcells hal hbw
        have k0 : (0 : Int) ≤ (k : Int) := by omega
        by_cases hk2 : k < c.opts.length
        · have k1 : (k : Int) < (c.opts.length : Int) := by omega
          obtain ⟨z, hz⟩ : ∃ z, ks[k]? = some z := ⟨_, List.getElem?_eq_getElem (by have := HKN.out; omega)⟩
          obtain ⟨os, hos⟩ : ∃ os, c.opts[k]? = some os := ⟨_, List.getElem?_eq_getElem hk2⟩
          obtain ⟨h, hh⟩ : ∃ h, c.cls[k]? = some h := ⟨_, List.getElem?_eq_getElem (by have := HNE.out; omega)⟩
          obtain ⟨bk, offk, rfl, hbk, hzc⟩ := H1.out.2.2.2.2.2.2.1 k z hz
          obtain ⟨bo, offo, rfl, hlo, hEo⟩ := H1.out.2.2.2.2.2.2.2 (by omega)
          obtain ⟨cs1, hr1, hat1⟩ := hEo k os hos
          obtain ⟨vr, rfl, hat1⟩ := rowLay_at hat1
          obtain ⟨Ar, capr, rfl, _, _, _, hAr⟩ := slice_open hat1
          have hsame : ∀ b, b < w.heap.size → wo.heap[b]? = w1.heap[b]? := fun b hb9 => (H4.out.2.2.2.2.2.2.2.block b (by have := H3.out.1; omega)).trans (H3.out.2.1.block b (by omega))
          have hzc4 : wo.cell? ⟨bk, offk + k, none⟩ = some (.int .i64 z) := (World.cell?_of_block (hsame bk hbk)).trans hzc
          have hr4 : wo.cell? ⟨bo, offo + k, none⟩ = some (.slice Ar os.length capr) := by
            have h9 : w1.cell? ⟨bo, offo + k * 1 + 0, none⟩ = some (.slice Ar os.length capr) := hr1 0 _ rfl
            rw [Nat.mul_one, Nat.add_zero] at h9
            exact (World.cell?_of_block (hsame bo hlo)).trans h9
          have c22o : wo.cell? ⟨w.heap.size, 22, none⟩ = some (.slice (some ⟨bo, offo, none⟩) c.opts.length capo) := H4.out.2.2.2.2.2.2.1.2.2.1
          have os9 : (os.length : Int) ≤ 120 := by have := (b7 os (List.mem_of_getElem? hos)).1; omega
          have H5 := hide (And.intro hz (And.intro hos (And.intro hh (And.intro hAr hsame))))
          clear hz hos hh hAr hsame hzc hEo hr1 hat1
          by_cases hz0 : z < 0
          · go_wp2_with (first | (refine wpList_value (o := ⟨some 30, _, _, _, _, _⟩) rfl (.pointer (some ⟨bk, offk + (k : Int).toNat * 1, none⟩)) wo (exec_index_off (o := ⟨some 30, _, _, _, _, _⟩) 33 3 (.tmp 25) (.tmp 27) rfl bk offk c.opts.length capk (k : Int) .i64 rfl rfl ⟨k0, k1⟩ 1 Try.underlying33 (by kernel_rfl) wo) ?_; rw [show offk + (k : Int).toNat * 1 = offk + k by omega]))
            go_ret
            have e : freeB c ks = false := by
              have hir : inRange c.opts ks = false := by
                cases h9 : inRange c.opts ks with
                | false => rfl
                | true =>
                  have := (inRange_iff.1 h9 k os z H5.out.2.1 H5.out.1).1
                  omega
              unfold freeB
              rw [hir]
              simp
            rw [e]
            exact ⟨rfl, H1.out.1.trans (Below.mono (H3.out.2.1.trans (Below.mono H4.out.2.2.2.2.2.2.2 H3.out.1)) (by omega))⟩
          · have hz1' : 0 ≤ z := by omega
            by_cases hzl : z < (os.length : Int)
            · obtain ⟨j, rfl⟩ : ∃ j : Nat, z = (j : Int) := ⟨z.toNat, by omega⟩
              have hjl : j < os.length := by omega
              obtain ⟨x, hx⟩ : ∃ x, os[j]? = some x := ⟨_, List.getElem?_eq_getElem hjl⟩
              obtain ⟨br, offr, rfl, hlr, hEr⟩ := H5.out.2.2.2.1 (by omega)
              obtain ⟨cs2, hr2, hat2⟩ := hEr j x hx
              obtain ⟨vx, rfl, hpx, hvx⟩ := optLay_at hat2
              have hr2o : wo.rangeAt br (offr + j * 22) (oC x.1 vx) := rangeAt_same hr2 (H5.out.2.2.2.2 br hlr)
              have hvxo : pathsLay.At wo B [vx] x.2 := pathsLay.widen (pathsLay.alike hvx fun b hb9 => H5.out.2.2.2.2 b hb9) (by have := H3.out.1; omega)
              have HX := hide (And.intro hx (And.intro hr2o hvxo))
              have hxV : x.1 ∈ c.V ∧ (∀ q ∈ x.2, q ∈ c.V) := by
                have := (H4.out.2.2.2.2.2.1.ok hc HNE.out).opt os (List.mem_of_getElem? H5.out.2.1)
                exact ⟨(this.2 x (List.mem_of_getElem? hx)).1, (this.2 x (List.mem_of_getElem? hx)).2.2⟩
              have hhU : h ∈ c.U := mem_dd.2 (List.mem_append_left _ (List.mem_of_getElem? H5.out.2.2.1))
              have hx9 := (b7 os (List.mem_of_getElem? H5.out.2.1)).2 x (List.mem_of_getElem? hx)
              have hxo : (Try.prog.info? 55).map (·.size) = some (oC x.1 vx).length := by rw [sz_opt]; simp [pC_len hpx]
              clear hx hEr hr2 hat2 hr2o hvx hvxo
              go_wp2_with (first | (refine wpList_value (o := ⟨some 30, _, _, _, _, _⟩) rfl (.pointer (some ⟨bk, offk + (k : Int).toNat * 1, none⟩)) wo (exec_index_off (o := ⟨some 30, _, _, _, _, _⟩) 33 3 (.tmp 25) (.tmp 27) rfl bk offk c.opts.length capk (k : Int) .i64 rfl rfl ⟨k0, k1⟩ 1 Try.underlying33 (by kernel_rfl) wo) ?_; rw [show offk + (k : Int).toNat * 1 = offk + k by omega]) | (refine wpList_value (o := ⟨some 52, _, _, _, _, _⟩) rfl (.pointer (some ⟨br, offr + (j : Int).toNat * 22, none⟩)) wo (exec_index_off (o := ⟨some 52, _, _, _, _, _⟩) 57 55 (.tmp 50) (.tmp 51) rfl br offr os.length capr (j : Int) .i64 rfl rfl ⟨hz1', hzl⟩ 22 Try.underlying57 sz_opt wo) ?_; rw [show offr + (j : Int).toNat * 22 = offr + j * 22 by omega]) | (refine wpList_value (o := ⟨some 53, _, _, _, _, _⟩) rfl (.agg (oC x.1 vx).toArray) wo (exec_load_mid (o := ⟨some 53, _, _, _, _, _⟩) 55 (.tmp 52) rfl br (offr + j * 22) rfl (oC x.1 vx) _ wo HX.out.2.1 Try.underlying55 rfl hxo) ?_; simp only [Act.put, List.setIfInBounds_toArray, List.set_cons_zero, List.set_cons_succ]))
              refine (choose_any hUl hVl c.cls (by omega) H4.out.2.2.2.2.2.1.atC k h H5.out.2.2.1 hhU x.1 hpx hxV.1 x.2 (by omega) hxV.2 vx HX.out.2.2 (fun q => by have := H4.out.2.2.2.2.1 q; omega) H4.out.1.1 H4.out.2.1).mono ?_
              rintro e w5 ⟨_, _, _, _, S5, rfl, hl5, hi5, _, _⟩
              have H6 := hide (And.intro hl5 hi5)
              clear hl5 hi5
              dsimp only
              go_wp2_with fail
              go_roundw
              case rel =>
                refine ⟨k + 1, S5, _, _, by omega, by go_num, H4.out.1.trans H6.out.1, H6.out.2, ?_, ?_, fun q => ?_⟩
                · rw [thereN_next H4.out.2.2.2.1 H5.out.2.2.1 H5.out.2.1 H5.out.1 (x := x) (by rw [Int.toNat_natCast]; exact HX.out.1)]
                  exact H4.out.2.2.1.choose h x
                · intro i os' z' hi h1 h2
                  by_cases hik : i < k
                  · exact H4.out.2.2.2.1 i os' z' hik h1 h2
                  · obtain rfl : i = k := by omega
                    rw [H5.out.2.1] at h1
                    rw [H5.out.1] at h2
                    injection h1 with h1
                    injection h2 with h2
                    subst h1 h2
                    exact ⟨hz1', hzl⟩
                · rw [cntC_eq]
                  have := H4.out.2.2.2.2.1 q
                  have := pcnt_len [x.1] q
                  have := pcnt_len x.2 q
                  simp at *
                  omega
              case measure => simp [intOf]; omega
            · go_wp2_with (first | (refine wpList_value (o := ⟨some 30, _, _, _, _, _⟩) rfl (.pointer (some ⟨bk, offk + (k : Int).toNat * 1, none⟩)) wo (exec_index_off (o := ⟨some 30, _, _, _, _, _⟩) 33 3 (.tmp 25) (.tmp 27) rfl bk offk c.opts.length capk (k : Int) .i64 rfl rfl ⟨k0, k1⟩ 1 Try.underlying33 (by kernel_rfl) wo) ?_; rw [show offk + (k : Int).toNat * 1 = offk + k by omega]))
              go_ret
              have e : freeB c ks = false := by
                have hir : inRange c.opts ks = false := by
                  cases h9 : inRange c.opts ks with
                  | false => rfl
                  | true =>
                    have := (inRange_iff.1 h9 k os z H5.out.2.1 H5.out.1).2
                    omega
                unfold freeB
                rw [hir]
                simp
              rw [e]
              exact ⟨rfl, H1.out.1.trans (Below.mono (H3.out.2.1.trans (Below.mono H4.out.2.2.2.2.2.2.2 H3.out.1)) (by omega))⟩
        · obtain rfl : k = c.opts.length := by omega
          obtain ⟨bd, hbd⟩ : ∃ bd, bd = S1.bad := ⟨_, rfl⟩
          have c27 : wo.cell? ⟨s, 27, none⟩ = some (.int .i64 bd) := by rw [hbd]; exact H4.out.1.1.cells.2.2.2.2.2.2.2.2.1
          have hres : decide (bd = 0) = freeB c ks := by
            have h1 := (H4.out.2.1.lens hUl.1 hVl).2.2
            have h2 := (inv_bad H4.out.2.1).trans (confl_iff H4.out.2.2.1)
            rw [thereN_all c ks _ (by have := HKN.out; omega)] at h2
            have h3 : inRange c.opts ks = true := inRange_iff.2 fun i os z h1 h2 => H4.out.2.2.2.1 i os z (List.getElem?_eq_some_iff.1 h1).1 h1 h2
            rw [H1.out.2.2.1.own] at h2
            unfold freeB
            rw [h3, decide_eq_true HNE.out, decide_eq_true HKN.out, Bool.true_and, Bool.true_and, Bool.true_and]
            cases hcl : cleanB c.own (foldT (c.cls.zip c.opts) (ks.map Int.toNat) c.fixed c.of).1 (foldT (c.cls.zip c.opts) (ks.map Int.toNat) c.fixed c.of).2 with
            | true =>
              have : ¬ 0 < S1.bad := fun h => by rw [h2.1 h] at hcl; cases hcl
              exact decide_eq_true (by omega)
            | false =>
              have := h2.2 hcl
              exact decide_eq_false (by omega)
          have HR := hide hres
          clear hres
          go_wp2_with fail
          go_ret
          refine ⟨?_, H1.out.1.trans (Below.mono (H3.out.2.1.trans (Below.mono H4.out.2.2.2.2.2.2.2 H3.out.1)) (by omega))⟩
          rw [← HR.out, hbd]
          have hq : (S1.bad == 0) = decide (S1.bad = 0) := by by_cases h : S1.bad = 0 <;> simp [h]
          rw [← hq]
          rfl
    · have hki : ¬ (ks.length : Int) = (c.opts.length : Int) := by omega
      go_enter Try.func20, Try.ntmps20
      go_wp2_with (first | (refine wpList_value (o := ⟨some 9, _, _, _, _, _⟩) rfl (.slice Ao c.opts.length capo) w1 (by rw [← HW.out]; exact exec_load_cell (o := ⟨some 9, _, _, _, _, _⟩) 26 (.tmp 8) rfl ⟨w.heap.size, 22, none⟩ rfl _ _ w1 Try.underlying26 rfl H1.out.2.2.2.1.2.2.1) ?_))
      go_ret
      have e : freeB c ks = false := by
        unfold freeB
        rw [decide_eq_false hkn]
        simp
      rw [e]
      exact ⟨rfl, H1.out.1⟩
  · have c21 : w1.cell? ⟨w.heap.size, 21, none⟩ = some (.slice Ac c.cls.length capc) := H1.out.2.2.2.1.2.1
    have hni : ¬ (c.opts.length : Int) = (c.cls.length : Int) := by omega
    go_enter Try.func20, Try.ntmps20
    go_wp2_with (first | (refine wpList_value (o := ⟨some 9, _, _, _, _, _⟩) rfl (.slice Ao c.opts.length capo) w1 (by rw [← HW.out]; exact exec_load_cell (o := ⟨some 9, _, _, _, _, _⟩) 26 (.tmp 8) rfl ⟨w.heap.size, 22, none⟩ rfl _ _ w1 Try.underlying26 rfl H1.out.2.2.2.1.2.2.1) ?_))
    go_ret
    have e : freeB c ks = false := by
      unfold freeB
      rw [decide_eq_false hne]
      simp
    rw [e]
    exact ⟨rfl, H1.out.1⟩
end Go.Proofs.Ytfppddnfdinipaa
