/- spencelaw18.DrvUsers. spencelaw18.DrvUsers is true of every input, and leaves all as it was. No condition. -/
import Derived.Test.YtkiaofmngnmdhaaMU3
section
namespace Go.Proofs.Ytkiaofmngnmdhaa
open Go Go.RowKit Go.Maps
set_option maxRecDepth 100000
theorem itms_ok {w : World} {B : Nat} {v : Value} {l : List Itm} (h : itmsLay.At w B [v] l) : ∀ x ∈ l, okH x.1 := fun x hx => by
  obtain ⟨j, hj⟩ := List.getElem?_of_mem hx
  obtain ⟨A, cap, rfl, _, _, _, hA⟩ := slice_open h
  obtain ⟨b, off, rfl, _, hE⟩ := hA (by have := (List.getElem?_eq_some_iff.1 hj).1; omega)
  obtain ⟨cs, _, hat⟩ := hE j x hj
  obtain ⟨_, _, _, ho, _⟩ := itmLay_at.1 hat
  exact ho
theorem itms_take {w : World} {B : Nat} {A : Option Addr} {cap : Nat} {l : List Itm} (h : itmsLay.At w B [.slice A l.length cap] l) (i : Nat) : itmsLay.At w B [.slice A (l.take i).length cap] (l.take i) := by
  obtain ⟨A', cap', e, h1, h2, h3, hA⟩ := slice_open h
  injection e with e1 e2 e3
  subst e1 e3
  have hle : (l.take i).length ≤ l.length := by rw [List.length_take]; omega
  refine ⟨A, cap, rfl, by omega, h2, h3, fun h0 => ?_⟩
  obtain ⟨b, off, e, hb, hE⟩ := hA (by omega)
  refine ⟨b, off, e, hb, fun j x hj => hE j x ?_⟩
  rw [List.getElem?_take] at hj
  split at hj
  · exact hj
  · cases hj
theorem needs_css {H : Type} [DecidableEq H] {l : List (Dr.It H)} {c h : H} (hm : h ∈ Dr.needsP l c) : h ∈ Dr.css l := (Dr.outA_sub _ _).subset hm
theorem css_mem {l : List Itm} {h : Hsh} (hm : h ∈ Dr.css (l.map itP)) : ∃ x ∈ l, x.1 = h := by
  unfold Dr.css at hm
  obtain ⟨y, hy, rfl⟩ := List.mem_map.1 hm
  obtain ⟨x, hx, rfl⟩ := List.mem_map.1 hy
  exact ⟨x, hx, rfl⟩
theorem css_known {l : List Itm} {h : Hsh} (hm : h ∈ Dr.css (l.map itP)) : (mget (kmap l) h).isSome = true := by
  cases e : (mget (kmap l) h).isSome with
  | true => rfl
  | false => exact absurd hm (known_not e)
theorem needs_known {l : List Itm} (hr : Dr.rightP (l.map itP) = true) {h : Hsh} (hm : h ∈ Dr.css (l.map itP)) : needsE l h = 0 ∧ needsL l h = Dr.needsP (l.map itP) h := by
  unfold needsE needsL
  rw [hr, css_known hm]
  exact ⟨rfl, rfl⟩
theorem find_some {l : List Itm} (hr : Dr.Right (l.map itP)) {x : Itm} (hx : x ∈ l) : (l.find? fun y => decide (y.1 = x.1)) = some x := by
  obtain ⟨j, hj⟩ := List.getElem?_of_mem hx
  refine find_first hj rfl fun y hy e => ?_
  obtain ⟨i, hi⟩ := List.getElem?_of_mem hy
  have hij : i < j := by
    have := (List.getElem?_eq_some_iff.1 hi).1
    rw [List.length_take] at this
    omega
  rw [List.getElem?_take_of_lt hij] at hi
  have h1 := Dr.idx_at hr (n := i) (x := itP y) (by rw [List.getElem?_map, hi]; rfl)
  have h2 := Dr.idx_at hr (n := j) (x := itP x) (by rw [List.getElem?_map, hj]; rfl)
  have e2 : (itP y).cls = (itP x).cls := e
  rw [e2, h2] at h1
  omega
theorem findD_at {l : List Itm} (hr : Dr.Right (l.map itP)) {x : Itm} (hx : x ∈ l) : findD l x.1 = x.2 := by
  unfold findD
  rw [find_some hr hx]
  rfl
theorem right_take9 {l : List Itm} (hr : Dr.Right (l.map itP)) (j : Nat) : Dr.rightP ((l.take j).map itP) = true := by
  rw [List.map_take]
  exact (Dr.rightP_iff _).2 (Dr.right_take hr j)
/-- what is so of each one that uses a class -/
structure UserOk (l : List Itm) (c z : Hsh) : Prop where
  ok : okH z
  is : (l.find? fun y => decide (y.1 = z)).isSome = true
  has : c ∈ clsP (findD l z).2.1
  e : needsE l z = 0
  needs : c ∈ needsL l z
  ne : z ≠ c
theorem user_ok {l : List Itm} (hr : Dr.rightP (l.map itP) = true) (hok : ∀ x ∈ l, okH x.1) {c z : Hsh} (hz : z ∈ Dr.usersP (l.map itP) c) : UserOk l c z := by
  have hR := (Dr.rightP_iff _).1 hr
  obtain ⟨y, hy, h1, h2⟩ := Dr.mem_users.1 hz
  obtain ⟨x, hx, rfl⟩ := List.mem_map.1 hy
  have hzx : x.1 = z := h2
  subst hzx
  have hcs : x.1 ∈ Dr.css (l.map itP) := List.mem_map.2 ⟨itP x, hy, rfl⟩
  have hn := needs_known hr hcs
  have hu := Dr.users_need hR hy h1
  exact ⟨hok x hx, by rw [find_some hR hx]; rfl, by rw [findD_at hR hx]; exact h1, hn.1, by rw [hn.2]; exact hu.1, hu.2⟩
theorem needsL_ok {l : List Itm} (hok : ∀ x ∈ l, okH x.1) (z : Hsh) : ∀ h ∈ needsL l z, okH h := fun h hm => by
  unfold needsL at hm
  split at hm
  · split at hm
    · obtain ⟨x, hx, rfl⟩ := css_mem (needs_css hm)
      exact hok x hx
    · cases hm
  · cases hm
theorem usersP_ok {l : List Itm} (hok : ∀ x ∈ l, okH x.1) (c : Hsh) : ∀ h ∈ Dr.usersP (l.map itP) c, okH h := fun h hm => by
  obtain ⟨y, hy, _, h2⟩ := Dr.mem_users.1 hm
  obtain ⟨x, hx, rfl⟩ := List.mem_map.1 hy
  rw [← h2]
  exact hok x hx
theorem users_same {l : List Itm} (hr : Dr.Right (l.map itP)) (c : Hsh) {j : Nat} {x : Itm} (hx : l[j]? = some x) : x.1 ∈ Dr.usersP (l.map itP) c ↔ c ∈ clsP x.2.2.1 :=
  Dr.users_iff hr (x := itP x) (List.mem_map.2 ⟨x, List.mem_of_getElem? hx, rfl⟩) c
theorem needsP_le {H : Type} [DecidableEq H] (l : List (Dr.It H)) (c : H) : (Dr.needsP l c).length ≤ l.length := by
  have h : (Dr.needsP l c).length ≤ (Dr.css l).length := (Dr.outA_sub _ _).length_le
  simpa [Dr.css] using h
theorem needsL_len {l : List Itm} (z : Hsh) : (needsL l z).length ≤ l.length := by
  unfold needsL
  split
  · split
    · have := needsP_le (l.map itP) z
      rwa [List.length_map] at this
    · exact Nat.zero_le _
  · exact Nat.zero_le _
set_option maxHeartbeats 8000000 in
theorem drvUsers_any (w : World) (l : List Itm) (A : Option Addr) (cap : Nat) (h : itmsLay.At w w.heap.size [.slice A l.length cap] l) (hl9 : ∀ x ∈ l, LightD x.2) (c : Hsh) (hc : okH c) :
    Calls Try.prog 4 #[.slice A l.length cap, .agg (bv c).toArray] w fun e w' => e = .returned (.bool true) ∧ Below w.heap.size w w' := by
  obtain ⟨A', cap', e, hcl, hcm9, _, hA⟩ := slice_open h
  injection e with e1 e2 e3
  subst e1 e3
  have k9 : (l.length : Int) ≤ 9223372036854775807 := by simp only [maxLen] at hcm9; omega
  have hszc2 := hszD hc
  have hszc : (Try.prog.info? 24).map (·.size) = some (bv c).length := by simpa using hszc2
  have HA := hide (And.intro hA hcl)
  have HL := hide h
  have HOK := hide (itms_ok h)
  have HL9 := hide hl9
  clear hA hcl hcm9 e2 h hl9
  go_enter Try.func4, Try.ntmps4
  go_wp2_with (first | ((with_reducible refine at_slot 3 ?_); (refine wpList_boxA (o := ⟨some 3, _, _, _, _, _⟩) rfl 24 (.tmp 1) rfl (bv c).toArray rfl ?_); intro w1 hn; have H1 := hide hn; clear hn; simp only [Act.put, List.setIfInBounds_toArray, List.set_cons_zero, List.set_cons_succ]))
  refine (awake_any w1).mono ?_
  rintro e w2 ⟨rfl, hb⟩
  dsimp only
  have H2 := hide (And.intro (H1.out.blk.below hb H1.out.blk.lt) (H1.out.below.trans (Below.mono hb H1.out.below.size)))
  clear hb
  go_wp2_with fail
  refine (great_any w2 l A cap (itms_alike HL.out H2.out.2) HL9.out).mono ?_
  rintro e w3 ⟨rfl, hb⟩
  dsimp only
  have H3 := hide (And.intro (H2.out.1.below hb H2.out.1.lt) (H2.out.2.trans (Below.mono hb H2.out.2.size)))
  clear hb
  cases hgr : greatP l
  · have hsm := great_small hgr
    have hlen : l.length ≤ 3000 := hsm.1
    have hl : ∀ x ∈ l, x.2.2.1.length ≤ 1000000 := fun x hx => by have := (hsm.2 x hx).1; omega
    have hl2 : ∀ x ∈ l, x.2.2.1.length ≤ 1000000 ∧ x.2.2.2.length ≤ 1000000 := fun x hx => by have := hsm.2 x hx; omega
    have HSM := hide (And.intro hl hl2)
    clear hgr hsm hl hl2
    go_wp2_with fail
    refine (right_any w3 l A cap (itms_alike HL.out H3.out.2) HSM.out.1).mono ?_
    rintro e w4 ⟨rfl, hb⟩
    dsimp only
    have H4 := hide (And.intro (H3.out.1.below hb H3.out.1.lt) (H3.out.2.trans (Below.mono hb H3.out.2.size)))
    clear hb
    cases hrt : Dr.rightP (l.map itP)
    · clear hrt
      go_wp2_with fail
      go_ret
      exact ⟨rfl, H4.out.2⟩
    · have HR := hide (And.intro hrt ((Dr.rightP_iff _).1 hrt))
      clear hrt
      go_wp2_with (first | ((with_reducible refine at_slot 22 ?_); (refine wpList_value (o := ⟨some 22, _, _, _, _, _⟩) rfl (.agg ((bv c).toArray)) w4 (exec_load_blk (o := ⟨some 22, _, _, _, _, _⟩) 24 (.tmp 3) rfl w.heap.size rfl 24 _ _ w4 H4.out.1 Try.underlying24 rfl hszc2) ?_)))
      refine (users_any w4 l A cap (itms_alike HL.out H4.out.2) HSM.out.1 (by omega) c hc).mono ?_
      rintro e w5 ⟨u, rfl, ho, hb⟩
      obtain ⟨Au, cu, rfl⟩ := own_form9 ho
      dsimp only
      obtain ⟨us, hus⟩ : ∃ us, us = Dr.usersP (l.map itP) c := ⟨_, rfl⟩
      rw [← hus] at ho ⊢
      have hun : us.length ≤ 3000 := by rw [hus]; exact Nat.le_trans (usersP_le _ _) (by rw [List.length_map]; exact hlen)
      have hun9 : (us.length : Int) ≤ 3000 := by omega
      have H5 := hide (And.intro (H4.out.1.below hb H4.out.1.lt) (And.intro ho (H4.out.2.trans (Below.mono hb H4.out.2.size))))
      have HUS := hide hus
      clear hb ho hus
      go_wp2_with fail
      go_loopw [6] (fun x6 wr => ∃ k : Nat, k ≤ us.length ∧ x6 = .int .i64 (k : Int) ∧ Blk wr w.heap.size 24 (bv c).toArray ∧ wr.ownsRow w4.heap.size 24 20 (.slice Au us.length cu) us.length (us.flatMap bv) ∧ Below w.heap.size w wr ∧ w5.heap.size ≤ wr.heap.size) (fun x6 _ => us.length - (intOf x6).toNat)
      case atStart => exact ⟨0, by omega, rfl, H5.out.1, H5.out.2.1, H5.out.2.2, Nat.le_refl _⟩
      case round =>
        obtain ⟨wo, rfl⟩ : ∃ wo, wo = wr := ⟨_, rfl⟩
        obtain ⟨k, hk, rfl, hkc, hown, hb, hsz⟩ := hrel
        have HB := hide (And.intro hkc (And.intro hown (And.intro hb hsz)))
        clear hkc hown hb hsz
        have k0 : (0 : Int) ≤ (k : Int) := by omega
        by_cases hk2 : k < us.length
        · have k1 : (k : Int) < (us.length : Int) := by omega
          obtain ⟨z, hz⟩ : ∃ z, us[k]? = some z := ⟨_, List.getElem?_eq_getElem hk2⟩
          have hzm : z ∈ Dr.usersP (l.map itP) c := by rw [← HUS.out]; exact List.mem_of_getElem? hz
          have hzu := user_ok HR.out.1 HOK.out hzm
          have hzo := hzu.ok
          obtain ⟨g, cap5, he5⟩ := owned_placeN HB.out.2.1 (by omega)
          injection he5 with he51 _ he53
          subst he51 he53
          have hgl := (owned_ltN HB.out.2.1 rfl).2
          have hrz : wo.rangeAt g (k * 20) (bv z) := own_range HB.out.2.1 (k * 20) 20 _ (flat_hash (by rw [HUS.out]; exact usersP_ok HOK.out c) hz)
          have HRZ := hide hrz
          have HZU := hide hzu
          have hszz2 := hszD hzo
          have hszz : (Try.prog.info? 24).map (·.size) = some (bv z).length := by simpa using hszz2
          clear hz hzm hzu hrz
          go_wp2_with (first | ((with_reducible refine at_slot 34 ?_); (refine wpList_value (o := ⟨some 34, _, _, _, _, _⟩) rfl (.pointer (some ⟨g, k * 20, none⟩)) wo (exec_idx0 33 24 (.tmp 32) (.tmp 33) rfl g us.length cu k rfl rfl hk2 20 Try.underlying33 sz_hash wo) ?_)) | ((with_reducible refine at_slot 35 ?_); (refine wpList_value (o := ⟨some 35, _, _, _, _, _⟩) rfl (.agg (bv z).toArray) wo (exec_load_mid (o := ⟨some 35, _, _, _, _, _⟩) 24 (.tmp 34) rfl g (k * 20) rfl (bv z) _ wo HRZ.out Try.underlying24 rfl hszz) ?_)))
          refine (find_any wo l _ (itms_alike HL.out HB.out.2.2.1) z hzo HSM.out.2).mono ?_
          rintro e w6 ⟨u1, u2, rfl, hod, hb⟩
          obtain ⟨d, hd⟩ : ∃ d, d = findD l z := ⟨_, rfl⟩
          have hdl := findD_len hd HSM.out.1
          change OwnDrv w6 wo.heap.size (findD l z) u1 u2 at hod
          rw [← hd] at hod
          dsimp only
          rw [show ((l.find? fun x => decide (x.1 = z)).map (·.2)).getD (⟨#[]⟩, [], []) = d from hd.symm, HZU.out.is]
          have hhas : c ∈ clsP d.2.1 := by rw [hd]; exact HZU.out.has
          obtain ⟨p, hp, _⟩ := placeH_mem hhas
          have HP := hide hp
          have p0 : (0 : Int) ≤ (p : Int) := by omega
          have H6 := hide (And.intro hod (And.intro (HB.out.1.below hb HB.out.1.lt) (And.intro (owned_keepN HB.out.2.1 fun g _ hl9 => hb.block g hl9) (And.intro (HB.out.2.2.1.trans (Below.mono hb HB.out.2.2.1.size)) (rangeAt_same HRZ.out (hb.block g hgl))))))
          have HZS := hide (And.intro hgl (And.intro hb.size HB.out.2.2.2))
          clear hod hb hd hhas hp hgl
          go_wp2_with (first | ((with_reducible refine at_slot 7 ?_); (refine wpList_newZ (o := ⟨some 7, _, _, _, _, _⟩) rfl 28 zcD (by kernel_rfl) ?_); intro w7 hn; have H7 := hide hn; clear hn; simp only [Act.put, List.setIfInBounds_toArray, List.set_cons_zero, List.set_cons_succ]) | ((with_reducible refine at_store 7 37 ?_); (with_reducible refine wpList_store_blkA (o := ⟨none, _, _, _, _, _⟩) rfl 28 (.tmp 7) (.tmp 37) rfl w6.heap.size zcD (dC d u1 u2).toArray 28 H7.out.blk ?_ ?_ ?_ ?_ ?_ ?_); kernel_rfl; rfl; (exact dC_one H6.out.1); rfl; rfl; intro w8 hk8 hg8; have h8 := H7.out.below.grown hg8 (by have := H7.out.size; omega) (fun b hb => (by have := Option.some.inj hb; omega)); have H8 := hide (And.intro hk8 (And.intro (H6.out.1.keep fun g hg hl9 => h8.block g hl9) (And.intro (H6.out.2.1.below h8 H6.out.2.1.lt) (And.intro (owned_keepN H6.out.2.2.1 fun g _ hl9 => h8.block g hl9) (And.intro (H6.out.2.2.2.1.trans (Below.mono h8 H6.out.2.2.2.1.size)) (rangeAt_same H6.out.2.2.2.2 (h8.block g (by have := HZS.out; omega)))))))); have HZ8 := hide h8.size; clear hk8 hg8 h8; simp only [Act.put, List.setIfInBounds_toArray, List.set_cons_zero, List.set_cons_succ]) | ((with_reducible refine at_slot 43 ?_); (refine wpList_value (o := ⟨some 43, _, _, _, _, _⟩) rfl (.pointer (some ⟨g, k * 20, none⟩)) w8 (exec_idx0 33 24 (.tmp 41) (.tmp 42) rfl g us.length cu k rfl rfl hk2 20 Try.underlying33 sz_hash w8) ?_)) | ((with_reducible refine at_slot 44 ?_); (refine wpList_value (o := ⟨some 44, _, _, _, _, _⟩) rfl (.agg (bv z).toArray) w8 (exec_load_mid (o := ⟨some 44, _, _, _, _, _⟩) 24 (.tmp 43) rfl g (k * 20) rfl (bv z) _ w8 H8.out.2.2.2.2.2 Try.underlying24 rfl hszz) ?_)))
          refine (needs_any w8 l A cap (itms_alike HL.out H8.out.2.2.2.2.1) HSM.out.1 (by omega) z hzo).mono ?_
          rintro e w9 ⟨un, rfl, hon, hb⟩
          obtain ⟨ns, hns⟩ : ∃ ns, ns = needsL l z := ⟨_, rfl⟩
          have hnc : c ∈ ns := by rw [hns]; exact HZU.out.needs
          have hnok : ∀ h ∈ ns, okH h := by rw [hns]; exact needsL_ok HOK.out z
          rw [← hns] at hon
          obtain ⟨q, hq, _⟩ := placeH_mem hnc
          have HQ := hide hq
          have q0 : (0 : Int) ≤ (q : Int) := by omega
          obtain ⟨An, cn, rfl⟩ := own_form9 hon
          dsimp only
          rw [HZU.out.e]
          have H9 := hide (And.intro (H8.out.1.below hb H8.out.1.lt) (And.intro (H8.out.2.1.keep fun g hg hl9 => hb.block g hl9) (And.intro (H8.out.2.2.1.below hb H8.out.2.2.1.lt) (And.intro (owned_keepN H8.out.2.2.2.1 fun g _ hl9 => hb.block g hl9) (And.intro (H8.out.2.2.2.2.1.trans (Below.mono hb H8.out.2.2.2.2.1.size)) (And.intro (rangeAt_same H8.out.2.2.2.2.2 (hb.block g (by have := HZS.out; have := HZ8.out; omega))) hon))))))
          have HNO := hide (And.intro hnok (And.intro (show g < w9.heap.size by have := HZS.out; have := HZ8.out; have := hb.size; omega) (show w5.heap.size ≤ w9.heap.size by have := HZS.out; have := HZ8.out; have := hb.size; omega)))
          clear hb hon hns hnc hnok hq
          have hd2 := decide_eq_false HZU.out.ne
          have HD := hide hd2
          clear hd2
          go_wp2_with fail
          refine Fre.wp_made (X := Bel) 26 [(52, OwnHs (clsP d.2.1))] (by kernel_rfl) (by kernel_rfl) (by intro p hp; rw [List.mem_singleton.1 hp]; exact ownHs_ok _) (by simp) (by simp) ?_
          simp only [List.take_succ_cons, List.take_zero, List.drop_succ_cons, List.drop_zero]
          refine Fre.made_val (.bool true) (by kernel_rfl) (by kernel_rfl) (by kernel_rfl) (fun _ _ => by kernel_rfl) ?_
          simp only [Act.put, List.setIfInBounds_toArray, List.set_cons_zero, List.set_cons_succ]
          refine Fre.made_val (.bool false) (by kernel_rfl) (by kernel_rfl) (by kernel_rfl) (fun _ _ => by kernel_rfl) ?_
          simp only [Act.put, List.setIfInBounds_toArray, List.set_cons_zero, List.set_cons_succ]
          refine Fre.made_val (.bool false) (by kernel_rfl) (by kernel_rfl) (by kernel_rfl) (fun _ _ => by kernel_rfl) ?_
          simp only [Act.put, List.setIfInBounds_toArray, List.set_cons_zero, List.set_cons_succ]
          refine Fre.made_val (.agg (dC d u1 u2).toArray) (by kernel_rfl) (by kernel_rfl) (by kernel_rfl) (fun W9 hW9 => exec_load_blk (o := ⟨some 51, _, _, _, _, _⟩) 28 (.tmp 7) rfl w6.heap.size rfl 28 _ _ W9 (H9.out.1.below hW9 H9.out.1.lt) Try.underlying28 rfl (by kernel_rfl)) ?_
          simp only [Act.put, List.setIfInBounds_toArray, List.set_cons_zero, List.set_cons_succ]
          refine Fre.made_newcall 52 _ 11 #[.agg (dC d u1 u2).toArray] (by kernel_rfl) (by kernel_rfl) rfl rfl (fun W => by kernel_rfl) (fun W hW => (classes_any W d u1 u2 ((H9.out.2.1.keep fun g _ hl9 => Below.block hW g hl9).at_ (Nat.le_refl _)) hdl).mono (fun e w' ⟨u, h1, h2, h3⟩ => ⟨u, h1, h3, _, h2⟩)) ?_
          simp only [Act.put, List.setIfInBounds_toArray, List.set_cons_zero, List.set_cons_succ]
          refine Fre.made_val (.agg (bv c).toArray) (by kernel_rfl) (by kernel_rfl) (by kernel_rfl) (fun W9 hW9 => exec_load_blk (o := ⟨some 53, _, _, _, _, _⟩) 24 (.tmp 3) rfl w.heap.size rfl 24 _ _ W9 (H9.out.2.2.1.below hW9 H9.out.2.2.1.lt) Try.underlying24 rfl hszc2) ?_
          simp only [Act.put, List.setIfInBounds_toArray, List.set_cons_zero, List.set_cons_succ]
          refine Fre.made_call1 52 _ (.int .i64 (p : Int)) 12 (fun u => #[u, .agg (bv c).toArray]) (by kernel_rfl) rfl (by kernel_rfl) (by kernel_rfl) (fun u W => by kernel_rfl) (fun u W hW hu => ?hc54) ?_
          case hc54 =>
            have h := place_any W _ u (hu.at_ (cls_ok H9.out.2.1.okn)) c hc
            rw [HP.out] at h
            exact h
          simp only [Act.put, List.setIfInBounds_toArray, List.set_cons_zero, List.set_cons_succ]
          refine Fre.made_val (.bool false) (by kernel_rfl) (by kernel_rfl) (by kernel_rfl) (fun W9 hW9 => ?hs1) ?_
          case hs1 =>
            go_simp
          simp only [Act.put, List.setIfInBounds_toArray, List.set_cons_zero, List.set_cons_succ]
          refine Fre.made_val (.bool false) (by kernel_rfl) (by kernel_rfl) (by kernel_rfl) (fun _ _ => by kernel_rfl) ?_
          simp only [Act.put, List.setIfInBounds_toArray, List.set_cons_zero, List.set_cons_succ]
          refine Fre.made_val (.bool false) (by kernel_rfl) (by kernel_rfl) (by kernel_rfl) (fun _ _ => by kernel_rfl) ?_
          simp only [Act.put, List.setIfInBounds_toArray, List.set_cons_zero, List.set_cons_succ]
          refine Fre.made_val (.int .i64 0) (by kernel_rfl) (by kernel_rfl) (by kernel_rfl) (fun _ _ => by kernel_rfl) ?_
          simp only [Act.put, List.setIfInBounds_toArray, List.set_cons_zero, List.set_cons_succ]
          refine Fre.made_val (.bool false) (by kernel_rfl) (by kernel_rfl) (by kernel_rfl) (fun _ _ => by kernel_rfl) ?_
          simp only [Act.put, List.setIfInBounds_toArray, List.set_cons_zero, List.set_cons_succ]
          refine Fre.made_val (.bool false) (by kernel_rfl) (by kernel_rfl) (by kernel_rfl) (fun _ _ => by kernel_rfl) ?_
          simp only [Act.put, List.setIfInBounds_toArray, List.set_cons_zero, List.set_cons_succ]
          refine Fre.made_val (.bool false) (by kernel_rfl) (by kernel_rfl) (by kernel_rfl) (fun _ _ => by kernel_rfl) ?_
          simp only [Act.put, List.setIfInBounds_toArray, List.set_cons_zero, List.set_cons_succ]
          refine Fre.made_val (.slice An ns.length cn) (by kernel_rfl) (by kernel_rfl) (by kernel_rfl) (fun _ _ => by kernel_rfl) ?_
          simp only [Act.put, List.setIfInBounds_toArray, List.set_cons_zero, List.set_cons_succ]
          refine Fre.made_val (.agg (bv c).toArray) (by kernel_rfl) (by kernel_rfl) (by kernel_rfl) (fun W9 hW9 => exec_load_blk (o := ⟨some 63, _, _, _, _, _⟩) 24 (.tmp 3) rfl w.heap.size rfl 24 _ _ W9 (H9.out.2.2.1.below hW9 H9.out.2.2.1.lt) Try.underlying24 rfl hszc2) ?_
          simp only [Act.put, List.setIfInBounds_toArray, List.set_cons_zero, List.set_cons_succ]
          refine Fre.made_call (.int .i64 (q : Int)) 12 #[.slice An ns.length cn, .agg (bv c).toArray] (by kernel_rfl) (by kernel_rfl) (by kernel_rfl) (fun W => by kernel_rfl) (fun W hW => ?hc64) ?_
          case hc64 =>
            have hu : OwnHs ns (.slice An ns.length cn) W := ⟨_, owned_keepN H9.out.2.2.2.2.2.2 fun g _ hl9 => Below.block hW g hl9⟩
            have h := place_any W _ _ (hu.at_ HNO.out.1) c hc
            rw [HQ.out] at h
            exact h
          simp only [Act.put, List.setIfInBounds_toArray, List.set_cons_zero, List.set_cons_succ]
          refine Fre.made_val (.bool false) (by kernel_rfl) (by kernel_rfl) (by kernel_rfl) (fun W9 hW9 => ?hs2) ?_
          case hs2 =>
            go_simp
          simp only [Act.put, List.setIfInBounds_toArray, List.set_cons_zero, List.set_cons_succ]
          refine Fre.made_val (.bool false) (by kernel_rfl) (by kernel_rfl) (by kernel_rfl) (fun _ _ => by kernel_rfl) ?_
          simp only [Act.put, List.setIfInBounds_toArray, List.set_cons_zero, List.set_cons_succ]
          refine Fre.made_val (.bool false) (by kernel_rfl) (by kernel_rfl) (by kernel_rfl) (fun _ _ => by kernel_rfl) ?_
          simp only [Act.put, List.setIfInBounds_toArray, List.set_cons_zero, List.set_cons_succ]
          refine Fre.made_val (.slice (some ⟨g, 0, none⟩) us.length cu) (by kernel_rfl) (by kernel_rfl) (by kernel_rfl) (fun _ _ => by kernel_rfl) ?_
          simp only [Act.put, List.setIfInBounds_toArray, List.set_cons_zero, List.set_cons_succ]
          refine Fre.made_val (.int .i64 (k : Int)) (by kernel_rfl) (by kernel_rfl) (by kernel_rfl) (fun _ _ => by kernel_rfl) ?_
          simp only [Act.put, List.setIfInBounds_toArray, List.set_cons_zero, List.set_cons_succ]
          refine Fre.made_val (.pointer (some ⟨g, k * 20, none⟩)) (by kernel_rfl) (by kernel_rfl) (by kernel_rfl) (fun W9 hW9 => exec_idx0 (o := ⟨some 70, _, _, _, _, _⟩) 33 24 (.tmp 68) (.tmp 69) rfl g us.length cu k rfl rfl hk2 20 Try.underlying33 sz_hash W9) ?_
          simp only [Act.put, List.setIfInBounds_toArray, List.set_cons_zero, List.set_cons_succ]
          refine Fre.made_val (.agg (bv z).toArray) (by kernel_rfl) (by kernel_rfl) (by kernel_rfl) (fun W9 hW9 => exec_load_mid (o := ⟨some 71, _, _, _, _, _⟩) 24 (.tmp 70) rfl g (k * 20) rfl (bv z) _ W9 (rangeAt_same H9.out.2.2.2.2.2.1 (Below.block hW9 _ HNO.out.2.1)) Try.underlying24 rfl hszz) ?_
          simp only [Act.put, List.setIfInBounds_toArray, List.set_cons_zero, List.set_cons_succ]
          refine Fre.made_val (.agg (bv c).toArray) (by kernel_rfl) (by kernel_rfl) (by kernel_rfl) (fun W9 hW9 => exec_load_blk (o := ⟨some 72, _, _, _, _, _⟩) 24 (.tmp 3) rfl w.heap.size rfl 24 _ _ W9 (H9.out.2.2.1.below hW9 H9.out.2.2.1.lt) Try.underlying24 rfl hszc2) ?_
          simp only [Act.put, List.setIfInBounds_toArray, List.set_cons_zero, List.set_cons_succ]
          refine Fre.made_val (.bool false) (by kernel_rfl) (by kernel_rfl) (by kernel_rfl) (fun W9 hW9 => exec_binop_agg (o := ⟨some 73, _, _, _, _, _⟩) .eql 24 (.tmp 71) (.tmp 72) _ rfl (bv z).toArray (bv c).toArray rfl rfl (by kernel_rfl) _ (fun W => by have h := bin_eq_hash z c hzo hc W; rw [HD.out] at h; exact h) W9) ?_
          simp only [Act.put, List.setIfInBounds_toArray, List.set_cons_zero, List.set_cons_succ]
          intro wx hx
          have HX := hide (And.intro (H9.out.2.2.1.below hx H9.out.2.2.1.lt) (And.intro (owned_keepN H9.out.2.2.2.1 fun g _ hl9 => Below.block hx g hl9) (And.intro (H9.out.2.2.2.2.1.trans (Below.mono hx H9.out.2.2.2.2.1.size)) (Nat.le_trans HNO.out.2.2 (Below.size hx)))))
          clear hx
          dsimp only [Fre.ended, List.drop]
          rintro u52 _
          go_wp2_with fail
          go_roundw
          case rel => exact ⟨k + 1, by omega, by go_num, HX.out⟩
          case measure => simp [intOf]; omega
        · obtain rfl : k = us.length := by omega
          go_wp2_with fail
          go_loopw [11] (fun x11 wr => ∃ j : Nat, j ≤ l.length ∧ x11 = .int .i64 (j : Int) ∧ Blk wr w.heap.size 24 (bv c).toArray ∧ wr.ownsRow w4.heap.size 24 20 (.slice Au us.length cu) us.length (us.flatMap bv) ∧ Below w.heap.size w wr) (fun x11 _ => l.length - (intOf x11).toNat)
          case atStart => exact ⟨0, by omega, rfl, HB.out.1, HB.out.2.1, HB.out.2.2.1⟩
          case round =>
            obtain ⟨wi, rfl⟩ : ∃ wi, wi = wr := ⟨_, rfl⟩
            obtain ⟨j, hj, rfl, hkc, hown, hb⟩ := hrel
            have HC := hide (And.intro hkc (And.intro hown hb))
            clear hkc hown hb
            have j0 : (0 : Int) ≤ (j : Int) := by omega
            by_cases hj2 : j < l.length
            · have j1 : (j : Int) < (l.length : Int) := by omega
              obtain ⟨x, hx⟩ : ∃ x, l[j]? = some x := ⟨_, List.getElem?_eq_getElem hj2⟩
              obtain ⟨b, off, rfl, hlb, hE⟩ := HA.out.1 (by omega)
              obtain ⟨cs, hr, hatx⟩ := hE j x hx
              obtain ⟨q1, q2, rfl, hxo, hxd⟩ := itmLay_at.1 hatx
              obtain ⟨B1, k1, rfl, _⟩ := slice_open hxd.ins
              obtain ⟨B2, k2, rfl, _⟩ := slice_open hxd.rcp
              obtain ⟨q1, hq1⟩ : ∃ q1, q1 = Value.slice B1 x.2.2.1.length k1 := ⟨_, rfl⟩
              obtain ⟨q2, hq2⟩ : ∃ q2, q2 = Value.slice B2 x.2.2.2.length k2 := ⟨_, rfl⟩
              have hone1 : q1.oneCell' = true ∧ q2.oneCell' = true := by rw [hq1, hq2]; exact ⟨rfl, rfl⟩
              rw [← hq1, ← hq2] at hr hatx
              rw [← hq1, ← hq2] at hxd
              have HX := hide (And.intro (rangeAt_same hr (HC.out.2.2.block b (by omega))) (And.intro hxo hxd))
              have HXX := hide hx
              have hszt2 : (Try.prog.info? 30).map (·.size) = some (tC x q1 q2).toArray.size := by rw [show (tC x q1 q2).toArray.size = 23 by rw [List.size_toArray]; exact tC_len hxo]; kernel_rfl
              have hszt : (Try.prog.info? 30).map (·.size) = some (tC x q1 q2).length := by simpa using hszt2
              have hszzt : zcT.size = (tC x q1 q2).toArray.size := by rw [show (tC x q1 q2).toArray.size = 23 by rw [List.size_toArray]; exact tC_len hxo]; kernel_rfl
              have honet : (tC x q1 q2).toArray.all (·.oneCell') = true := all_oneCell_toArray (tC_one x hone1.1 hone1.2)
              have hszx : (Try.prog.info? 24).map (·.size) = some (bv x.1).length := by have := hszD hxo; simpa using this
              have hszx2 := hszD hxo
              clear hx hE hr hatx hxd hq1 hq2
              have hdl := HSM.out.1 x (List.mem_of_getElem? HXX.out)
              have hbw : b < wi.heap.size := Nat.lt_of_lt_of_le hlb HC.out.2.2.size
              have htl : (l.take j).length = j := by rw [List.length_take]; omega
              have HTL := hide htl
              have hjc : j ≤ cap := Nat.le_trans hj HA.out.2
              clear htl
              go_wp2_with fail
              have hus := users_same HR.out.2 c HXX.out
              rw [← HUS.out] at hus
              have HUX := hide hus
              have HXO := hide (show okH x.1 from HX.out.2.1)
              clear hus
              by_cases hm : c ∈ clsP x.2.2.1
              · obtain ⟨p, hp, _⟩ := placeH_mem hm
                obtain ⟨q, hq, _⟩ := placeH_mem (HUX.out.2 hm)
                have HP := hide hp
                have HQ := hide hq
                have p0 : (0 : Int) ≤ (p : Int) := by omega
                have q0 : (0 : Int) ≤ (q : Int) := by omega
                clear hp hq hm
                refine Fre.wp_made (X := Bel) 24 [(92, OwnHs (clsP x.2.2.1))] (by kernel_rfl) (by kernel_rfl) (by intro p hp; rw [List.mem_singleton.1 hp]; exact ownHs_ok _) (by simp) (by simp) ?_
                simp only [List.take_succ_cons, List.take_zero, List.drop_succ_cons, List.drop_zero]
                refine Fre.made_val (.slice (some ⟨b, off, none⟩) l.length cap) (by kernel_rfl) (by kernel_rfl) (by kernel_rfl) (fun _ _ => by kernel_rfl) ?_
                simp only [Act.put, List.setIfInBounds_toArray, List.set_cons_zero, List.set_cons_succ]
                refine Fre.made_val (.int .i64 (j : Int)) (by kernel_rfl) (by kernel_rfl) (by kernel_rfl) (fun _ _ => by kernel_rfl) ?_
                simp only [Act.put, List.setIfInBounds_toArray, List.set_cons_zero, List.set_cons_succ]
                refine Fre.made_val (.slice (some ⟨b, off, none⟩) j cap) (by kernel_rfl) (by kernel_rfl) (by kernel_rfl) (fun W9 hW9 => exec_sliceTo (o := ⟨some 83, _, _, _, _, _⟩) 22 30 23 (.tmp 81) (.tmp 82) rfl (some ⟨b, off, none⟩) l.length cap j rfl rfl Try.underlying22 sz_itm hjc W9) ?_
                simp only [Act.put, List.setIfInBounds_toArray, List.set_cons_zero, List.set_cons_succ]
                refine Fre.made_call (.bool true) 7 #[.slice (some ⟨b, off, none⟩) j cap] (by kernel_rfl) (by kernel_rfl) (by kernel_rfl) (fun W => by kernel_rfl) (fun W hW => ?hc84) ?_
                case hc84 =>
                  have h := right_any W (l.take j) (some ⟨b, off, none⟩) cap (itms_take (itms_alike HL.out (HC.out.2.2.trans (Below.mono hW HC.out.2.2.size))) j) (fun x hx => HSM.out.1 x (List.mem_of_mem_take hx))
                  rw [right_take9 HR.out.2 j, HTL.out] at h
                  exact h
                simp only [Act.put, List.setIfInBounds_toArray, List.set_cons_zero, List.set_cons_succ]
                refine Fre.made_val (.bool false) (by kernel_rfl) (by kernel_rfl) (by kernel_rfl) (fun _ _ => by kernel_rfl) ?_
                simp only [Act.put, List.setIfInBounds_toArray, List.set_cons_zero, List.set_cons_succ]
                refine Fre.made_val (.bool false) (by kernel_rfl) (by kernel_rfl) (by kernel_rfl) (fun _ _ => by kernel_rfl) ?_
                simp only [Act.put, List.setIfInBounds_toArray, List.set_cons_zero, List.set_cons_succ]
                refine Fre.made_val (.slice (some ⟨b, off, none⟩) l.length cap) (by kernel_rfl) (by kernel_rfl) (by kernel_rfl) (fun _ _ => by kernel_rfl) ?_
                simp only [Act.put, List.setIfInBounds_toArray, List.set_cons_zero, List.set_cons_succ]
                refine Fre.made_val (.int .i64 (j : Int)) (by kernel_rfl) (by kernel_rfl) (by kernel_rfl) (fun _ _ => by kernel_rfl) ?_
                simp only [Act.put, List.setIfInBounds_toArray, List.set_cons_zero, List.set_cons_succ]
                refine Fre.made_val (.pointer (some ⟨b, off + j * 23, none⟩)) (by kernel_rfl) (by kernel_rfl) (by kernel_rfl) (fun W9 hW9 => exec_idxO (o := ⟨some 89, _, _, _, _, _⟩) 22 30 (.tmp 87) (.tmp 88) rfl b off l.length cap j rfl rfl hj2 23 Try.underlying22 sz_itm W9) ?_
                simp only [Act.put, List.setIfInBounds_toArray, List.set_cons_zero, List.set_cons_succ]
                refine Fre.made_val (.pointer (some ⟨b, off + j * 23 + 20, none⟩)) (by kernel_rfl) (by kernel_rfl) (by kernel_rfl) (fun _ _ => by kernel_rfl) ?_
                simp only [Act.put, List.setIfInBounds_toArray, List.set_cons_zero, List.set_cons_succ]
                refine Fre.made_val (.agg (dC x.2 q1 q2).toArray) (by kernel_rfl) (by kernel_rfl) (by kernel_rfl) (fun W9 hW9 => exec_load_mid (o := ⟨some 91, _, _, _, _, _⟩) 28 (.tmp 90) rfl b (off + j * 23 + 20) rfl (dC x.2 q1 q2) _ W9 (rangeAt_same (item_drv9 HX.out.2.1 HX.out.1) (Below.block hW9 _ hbw)) Try.underlying28 rfl (by kernel_rfl)) ?_
                simp only [Act.put, List.setIfInBounds_toArray, List.set_cons_zero, List.set_cons_succ]
                refine Fre.made_newcall 92 _ 11 #[.agg (dC x.2 q1 q2).toArray] (by kernel_rfl) (by kernel_rfl) rfl rfl (fun W => by kernel_rfl) (fun W hW => (classes_any W x.2 q1 q2 (HX.out.2.2.alike9 (HC.out.2.2.trans (Below.mono hW HC.out.2.2.size))) hdl).mono (fun e w' ⟨u, h1, h2, h3⟩ => ⟨u, h1, h3, _, h2⟩)) ?_
                simp only [Act.put, List.setIfInBounds_toArray, List.set_cons_zero, List.set_cons_succ]
                refine Fre.made_val (.agg (bv c).toArray) (by kernel_rfl) (by kernel_rfl) (by kernel_rfl) (fun W9 hW9 => exec_load_blk (o := ⟨some 93, _, _, _, _, _⟩) 24 (.tmp 3) rfl w.heap.size rfl 24 _ _ W9 (HC.out.1.below hW9 HC.out.1.lt) Try.underlying24 rfl hszc2) ?_
                simp only [Act.put, List.setIfInBounds_toArray, List.set_cons_zero, List.set_cons_succ]
                refine Fre.made_call1 92 _ (.int .i64 (p : Int)) 12 (fun u => #[u, .agg (bv c).toArray]) (by kernel_rfl) rfl (by kernel_rfl) (by kernel_rfl) (fun u W => by kernel_rfl) (fun u W hW hu => ?hc94) ?_
                case hc94 =>
                  have h := place_any W _ u (hu.at_ (cls_ok HX.out.2.2.okn)) c hc
                  rw [HP.out] at h
                  exact h
                simp only [Act.put, List.setIfInBounds_toArray, List.set_cons_zero, List.set_cons_succ]
                refine Fre.made_val (.bool true) (by kernel_rfl) (by kernel_rfl) (by kernel_rfl) (fun W9 hW9 => ?hs3) ?_
                case hs3 =>
                  go_simp
                simp only [Act.put, List.setIfInBounds_toArray, List.set_cons_zero, List.set_cons_succ]
                refine Fre.made_val (.slice Au us.length cu) (by kernel_rfl) (by kernel_rfl) (by kernel_rfl) (fun _ _ => by kernel_rfl) ?_
                simp only [Act.put, List.setIfInBounds_toArray, List.set_cons_zero, List.set_cons_succ]
                refine Fre.made_val (.slice (some ⟨b, off, none⟩) l.length cap) (by kernel_rfl) (by kernel_rfl) (by kernel_rfl) (fun _ _ => by kernel_rfl) ?_
                simp only [Act.put, List.setIfInBounds_toArray, List.set_cons_zero, List.set_cons_succ]
                refine Fre.made_val (.int .i64 (j : Int)) (by kernel_rfl) (by kernel_rfl) (by kernel_rfl) (fun _ _ => by kernel_rfl) ?_
                simp only [Act.put, List.setIfInBounds_toArray, List.set_cons_zero, List.set_cons_succ]
                refine Fre.made_val (.pointer (some ⟨b, off + j * 23, none⟩)) (by kernel_rfl) (by kernel_rfl) (by kernel_rfl) (fun W9 hW9 => exec_idxO (o := ⟨some 99, _, _, _, _, _⟩) 22 30 (.tmp 97) (.tmp 98) rfl b off l.length cap j rfl rfl hj2 23 Try.underlying22 sz_itm W9) ?_
                simp only [Act.put, List.setIfInBounds_toArray, List.set_cons_zero, List.set_cons_succ]
                refine Fre.made_val (.pointer (some ⟨b, off + j * 23, none⟩)) (by kernel_rfl) (by kernel_rfl) (by kernel_rfl) (fun _ _ => by kernel_rfl) ?_
                simp only [Act.put, List.setIfInBounds_toArray, List.set_cons_zero, List.set_cons_succ]
                refine Fre.made_val (.agg (bv x.1).toArray) (by kernel_rfl) (by kernel_rfl) (by kernel_rfl) (fun W9 hW9 => exec_load_mid (o := ⟨some 101, _, _, _, _, _⟩) 24 (.tmp 100) rfl b (off + j * 23) rfl (bv x.1) _ W9 (rangeAt_same (item_cls9 HX.out.1) (Below.block hW9 _ hbw)) Try.underlying24 rfl hszx) ?_
                simp only [Act.put, List.setIfInBounds_toArray, List.set_cons_zero, List.set_cons_succ]
                refine Fre.made_call (.int .i64 (q : Int)) 12 #[.slice Au us.length cu, .agg (bv x.1).toArray] (by kernel_rfl) (by kernel_rfl) (by kernel_rfl) (fun W => by kernel_rfl) (fun W hW => ?hc102) ?_
                case hc102 =>
                  have hu : OwnHs us (.slice Au us.length cu) W := ⟨_, owned_keepN HC.out.2.1 fun g _ hl9 => Below.block hW g hl9⟩
                  have h := place_any W _ _ (hu.at_ (by rw [HUS.out]; exact usersP_ok HOK.out c)) x.1 HXO.out
                  rw [HQ.out] at h
                  exact h
                simp only [Act.put, List.setIfInBounds_toArray, List.set_cons_zero, List.set_cons_succ]
                refine Fre.made_val (.bool true) (by kernel_rfl) (by kernel_rfl) (by kernel_rfl) (fun W9 hW9 => ?hs4) ?_
                case hs4 =>
                  go_simp
                simp only [Act.put, List.setIfInBounds_toArray, List.set_cons_zero, List.set_cons_succ]
                refine Fre.made_val (.bool false) (by kernel_rfl) (by kernel_rfl) (by kernel_rfl) (fun _ _ => by kernel_rfl) ?_
                simp only [Act.put, List.setIfInBounds_toArray, List.set_cons_zero, List.set_cons_succ]
                intro wx hx
                have HY := hide (And.intro (HC.out.1.below hx HC.out.1.lt) (And.intro (owned_keepN HC.out.2.1 fun g _ hl9 => Below.block hx g hl9) (HC.out.2.2.trans (Below.mono hx HC.out.2.2.size))))
                clear hx
                dsimp only [Fre.ended, List.drop]
                rintro u92 _
                go_wp2_with fail
                go_roundw
                case rel => exact ⟨j + 1, by omega, by go_num, HY.out⟩
                case measure => simp [intOf]; omega
              · have HP := hide (placeH_not hm)
                have HQ := hide (placeH_not fun h => hm (HUX.out.1 h))
                clear hm
                refine Fre.wp_made (X := Bel) 24 [(92, OwnHs (clsP x.2.2.1))] (by kernel_rfl) (by kernel_rfl) (by intro p hp; rw [List.mem_singleton.1 hp]; exact ownHs_ok _) (by simp) (by simp) ?_
                simp only [List.take_succ_cons, List.take_zero, List.drop_succ_cons, List.drop_zero]
                refine Fre.made_val (.slice (some ⟨b, off, none⟩) l.length cap) (by kernel_rfl) (by kernel_rfl) (by kernel_rfl) (fun _ _ => by kernel_rfl) ?_
                simp only [Act.put, List.setIfInBounds_toArray, List.set_cons_zero, List.set_cons_succ]
                refine Fre.made_val (.int .i64 (j : Int)) (by kernel_rfl) (by kernel_rfl) (by kernel_rfl) (fun _ _ => by kernel_rfl) ?_
                simp only [Act.put, List.setIfInBounds_toArray, List.set_cons_zero, List.set_cons_succ]
                refine Fre.made_val (.slice (some ⟨b, off, none⟩) j cap) (by kernel_rfl) (by kernel_rfl) (by kernel_rfl) (fun W9 hW9 => exec_sliceTo (o := ⟨some 83, _, _, _, _, _⟩) 22 30 23 (.tmp 81) (.tmp 82) rfl (some ⟨b, off, none⟩) l.length cap j rfl rfl Try.underlying22 sz_itm hjc W9) ?_
                simp only [Act.put, List.setIfInBounds_toArray, List.set_cons_zero, List.set_cons_succ]
                refine Fre.made_call (.bool true) 7 #[.slice (some ⟨b, off, none⟩) j cap] (by kernel_rfl) (by kernel_rfl) (by kernel_rfl) (fun W => by kernel_rfl) (fun W hW => ?hc84) ?_
                case hc84 =>
                  have h := right_any W (l.take j) (some ⟨b, off, none⟩) cap (itms_take (itms_alike HL.out (HC.out.2.2.trans (Below.mono hW HC.out.2.2.size))) j) (fun x hx => HSM.out.1 x (List.mem_of_mem_take hx))
                  rw [right_take9 HR.out.2 j, HTL.out] at h
                  exact h
                simp only [Act.put, List.setIfInBounds_toArray, List.set_cons_zero, List.set_cons_succ]
                refine Fre.made_val (.bool false) (by kernel_rfl) (by kernel_rfl) (by kernel_rfl) (fun _ _ => by kernel_rfl) ?_
                simp only [Act.put, List.setIfInBounds_toArray, List.set_cons_zero, List.set_cons_succ]
                refine Fre.made_val (.bool false) (by kernel_rfl) (by kernel_rfl) (by kernel_rfl) (fun _ _ => by kernel_rfl) ?_
                simp only [Act.put, List.setIfInBounds_toArray, List.set_cons_zero, List.set_cons_succ]
                refine Fre.made_val (.slice (some ⟨b, off, none⟩) l.length cap) (by kernel_rfl) (by kernel_rfl) (by kernel_rfl) (fun _ _ => by kernel_rfl) ?_
                simp only [Act.put, List.setIfInBounds_toArray, List.set_cons_zero, List.set_cons_succ]
                refine Fre.made_val (.int .i64 (j : Int)) (by kernel_rfl) (by kernel_rfl) (by kernel_rfl) (fun _ _ => by kernel_rfl) ?_
                simp only [Act.put, List.setIfInBounds_toArray, List.set_cons_zero, List.set_cons_succ]
                refine Fre.made_val (.pointer (some ⟨b, off + j * 23, none⟩)) (by kernel_rfl) (by kernel_rfl) (by kernel_rfl) (fun W9 hW9 => exec_idxO (o := ⟨some 89, _, _, _, _, _⟩) 22 30 (.tmp 87) (.tmp 88) rfl b off l.length cap j rfl rfl hj2 23 Try.underlying22 sz_itm W9) ?_
                simp only [Act.put, List.setIfInBounds_toArray, List.set_cons_zero, List.set_cons_succ]
                refine Fre.made_val (.pointer (some ⟨b, off + j * 23 + 20, none⟩)) (by kernel_rfl) (by kernel_rfl) (by kernel_rfl) (fun _ _ => by kernel_rfl) ?_
                simp only [Act.put, List.setIfInBounds_toArray, List.set_cons_zero, List.set_cons_succ]
                refine Fre.made_val (.agg (dC x.2 q1 q2).toArray) (by kernel_rfl) (by kernel_rfl) (by kernel_rfl) (fun W9 hW9 => exec_load_mid (o := ⟨some 91, _, _, _, _, _⟩) 28 (.tmp 90) rfl b (off + j * 23 + 20) rfl (dC x.2 q1 q2) _ W9 (rangeAt_same (item_drv9 HX.out.2.1 HX.out.1) (Below.block hW9 _ hbw)) Try.underlying28 rfl (by kernel_rfl)) ?_
                simp only [Act.put, List.setIfInBounds_toArray, List.set_cons_zero, List.set_cons_succ]
                refine Fre.made_newcall 92 _ 11 #[.agg (dC x.2 q1 q2).toArray] (by kernel_rfl) (by kernel_rfl) rfl rfl (fun W => by kernel_rfl) (fun W hW => (classes_any W x.2 q1 q2 (HX.out.2.2.alike9 (HC.out.2.2.trans (Below.mono hW HC.out.2.2.size))) hdl).mono (fun e w' ⟨u, h1, h2, h3⟩ => ⟨u, h1, h3, _, h2⟩)) ?_
                simp only [Act.put, List.setIfInBounds_toArray, List.set_cons_zero, List.set_cons_succ]
                refine Fre.made_val (.agg (bv c).toArray) (by kernel_rfl) (by kernel_rfl) (by kernel_rfl) (fun W9 hW9 => exec_load_blk (o := ⟨some 93, _, _, _, _, _⟩) 24 (.tmp 3) rfl w.heap.size rfl 24 _ _ W9 (HC.out.1.below hW9 HC.out.1.lt) Try.underlying24 rfl hszc2) ?_
                simp only [Act.put, List.setIfInBounds_toArray, List.set_cons_zero, List.set_cons_succ]
                refine Fre.made_call1 92 _ (.int .i64 (-1)) 12 (fun u => #[u, .agg (bv c).toArray]) (by kernel_rfl) rfl (by kernel_rfl) (by kernel_rfl) (fun u W => by kernel_rfl) (fun u W hW hu => ?hc94) ?_
                case hc94 =>
                  have h := place_any W _ u (hu.at_ (cls_ok HX.out.2.2.okn)) c hc
                  rw [HP.out] at h
                  exact h
                simp only [Act.put, List.setIfInBounds_toArray, List.set_cons_zero, List.set_cons_succ]
                refine Fre.made_val (.bool false) (by kernel_rfl) (by kernel_rfl) (by kernel_rfl) (fun W9 hW9 => ?hs5) ?_
                case hs5 =>
                  go_simp
                simp only [Act.put, List.setIfInBounds_toArray, List.set_cons_zero, List.set_cons_succ]
                refine Fre.made_val (.slice Au us.length cu) (by kernel_rfl) (by kernel_rfl) (by kernel_rfl) (fun _ _ => by kernel_rfl) ?_
                simp only [Act.put, List.setIfInBounds_toArray, List.set_cons_zero, List.set_cons_succ]
                refine Fre.made_val (.slice (some ⟨b, off, none⟩) l.length cap) (by kernel_rfl) (by kernel_rfl) (by kernel_rfl) (fun _ _ => by kernel_rfl) ?_
                simp only [Act.put, List.setIfInBounds_toArray, List.set_cons_zero, List.set_cons_succ]
                refine Fre.made_val (.int .i64 (j : Int)) (by kernel_rfl) (by kernel_rfl) (by kernel_rfl) (fun _ _ => by kernel_rfl) ?_
                simp only [Act.put, List.setIfInBounds_toArray, List.set_cons_zero, List.set_cons_succ]
                refine Fre.made_val (.pointer (some ⟨b, off + j * 23, none⟩)) (by kernel_rfl) (by kernel_rfl) (by kernel_rfl) (fun W9 hW9 => exec_idxO (o := ⟨some 99, _, _, _, _, _⟩) 22 30 (.tmp 97) (.tmp 98) rfl b off l.length cap j rfl rfl hj2 23 Try.underlying22 sz_itm W9) ?_
                simp only [Act.put, List.setIfInBounds_toArray, List.set_cons_zero, List.set_cons_succ]
                refine Fre.made_val (.pointer (some ⟨b, off + j * 23, none⟩)) (by kernel_rfl) (by kernel_rfl) (by kernel_rfl) (fun _ _ => by kernel_rfl) ?_
                simp only [Act.put, List.setIfInBounds_toArray, List.set_cons_zero, List.set_cons_succ]
                refine Fre.made_val (.agg (bv x.1).toArray) (by kernel_rfl) (by kernel_rfl) (by kernel_rfl) (fun W9 hW9 => exec_load_mid (o := ⟨some 101, _, _, _, _, _⟩) 24 (.tmp 100) rfl b (off + j * 23) rfl (bv x.1) _ W9 (rangeAt_same (item_cls9 HX.out.1) (Below.block hW9 _ hbw)) Try.underlying24 rfl hszx) ?_
                simp only [Act.put, List.setIfInBounds_toArray, List.set_cons_zero, List.set_cons_succ]
                refine Fre.made_call (.int .i64 (-1)) 12 #[.slice Au us.length cu, .agg (bv x.1).toArray] (by kernel_rfl) (by kernel_rfl) (by kernel_rfl) (fun W => by kernel_rfl) (fun W hW => ?hc102) ?_
                case hc102 =>
                  have hu : OwnHs us (.slice Au us.length cu) W := ⟨_, owned_keepN HC.out.2.1 fun g _ hl9 => Below.block hW g hl9⟩
                  have h := place_any W _ _ (hu.at_ (by rw [HUS.out]; exact usersP_ok HOK.out c)) x.1 HXO.out
                  rw [HQ.out] at h
                  exact h
                simp only [Act.put, List.setIfInBounds_toArray, List.set_cons_zero, List.set_cons_succ]
                refine Fre.made_val (.bool false) (by kernel_rfl) (by kernel_rfl) (by kernel_rfl) (fun W9 hW9 => ?hs6) ?_
                case hs6 =>
                  go_simp
                simp only [Act.put, List.setIfInBounds_toArray, List.set_cons_zero, List.set_cons_succ]
                refine Fre.made_val (.bool false) (by kernel_rfl) (by kernel_rfl) (by kernel_rfl) (fun _ _ => by kernel_rfl) ?_
                simp only [Act.put, List.setIfInBounds_toArray, List.set_cons_zero, List.set_cons_succ]
                intro wx hx
                have HY := hide (And.intro (HC.out.1.below hx HC.out.1.lt) (And.intro (owned_keepN HC.out.2.1 fun g _ hl9 => Below.block hx g hl9) (HC.out.2.2.trans (Below.mono hx HC.out.2.2.size))))
                clear hx
                dsimp only [Fre.ended, List.drop]
                rintro u92 _
                go_wp2_with fail
                go_roundw
                case rel => exact ⟨j + 1, by omega, by go_num, HY.out⟩
                case measure => simp [intOf]; omega
            · obtain rfl : j = l.length := by omega
              go_wp2_with fail
              go_ret
              exact ⟨rfl, HC.out.2.2⟩
  · clear hgr
    go_wp2_with fail
    go_ret
    exact ⟨rfl, H3.out.2⟩
end Go.Proofs.Ytkiaofmngnmdhaa
end
section
namespace Go.Proofs.Ytkiaofmngnmdhaa
open Go Go.ChangeShapes Go.WideShapes Go.ChangeAt Go.RowKit
set_option maxRecDepth 100000
theorem drvUsers_lifted (os : Os) (started : os.Started) (H : Type) (enc : TypeId × Value → H) :
    ReturnsInHanded {} Try.checked os 4 .any (Rows.drvUsersSpec.pre6 enc Try.prog Try.f4 Rows.drvUsersRow.domain false) (Rows.drvUsersSpec.post enc Try.prog Try.f4 false true false false) := by
  refine returnsInHanded_of_change_sized (C := Try.checked) Try.ownPF started (by kernel_rfl) Try.func4
    (ChangeSpec.witness6 (enc := enc) (C := Try.checked) false ⟨#[], #[.slice none 0 0, .agg zcH], []⟩ 8 (by kernel_rfl) (by kernel_rfl) (by kernel_rfl) (by kernel_rfl)) ?_
  intro W base args ds gs before hval0 hW _ hsz0 _
  have hval : ∀ (j : Nat) t v, Try.f4.params[j]? = some t → args[j]? = some v → Value.okWide Try.prog W .any base t v := hval0
  have hsz : (DataW.weightsEach Try.prog (Try.f4.params.toList ++ []) (ds ++ gs)).all (· ≤ reachBytes) = true := hsz0
  have hW' := hW
  obtain ⟨p, q, hA0, hV, rfl, hfz, hnd⟩ := hW
  have hA : DataW.TrodAll enc Try.prog W 0 (fun _ => true) true Try.f4.params.toList args.toList ds p := hA0
  rw [Try.params4] at hA hval hsz
  obtain ⟨v0, v1, d0, d1, p0, p1, rfl, rfl, rfl, h0, h1⟩ := trodAll_two hA
  obtain ⟨rfl, rfl⟩ := trodVars_none hV
  have hs0 : ∀ n ∈ d0.weights Try.prog 22, n ≤ reachBytes := fun n hn => by
    have h := List.all_eq_true.1 hsz n (DataW.weights_mem_each (j := 0) (t := 22) (d := d0) rfl rfl n hn)
    simpa using h
  obtain ⟨l, A, cap, rfl, hat, hl⟩ := open_items (hval 0 22 v0 rfl rfl) h0 hs0
  obtain ⟨c, rfl, hc⟩ := open_hash (hval 1 24 v1 rfl rfl) h1
  have fin : ∀ e W', e = Ending.returned (.bool true) ∧ Below W.heap.size W W' → ∃ x, e = .returned x ∧ Rows.drvUsersSpec.post enc Try.prog Try.f4 false true false false W #[.slice A l.length cap, .agg (bv c).toArray] x W' := by
    rintro e W' ⟨rfl, hb⟩
    exact ⟨_, rfl, law_end laidOut hW' rfl rfl (by kernel_rfl) Try.underlying4 (by kernel_rfl) hb⟩
  exact (drvUsers_any W l A cap hat hl c hc).mono fin
theorem drvUsers_holds : Rows.DrvUsersSaid :=
  OpenClaim.holds_of_wide 4 Try.f4 rfl rfl rfl rfl rfl rfl rfl ⟨rfl, rfl, rfl, rfl, rfl⟩ rfl rfl rfl rfl rfl (by kernel_rfl) Try.func4 (by kernel_rfl)
    (of_decide_eq_true (by kernel_rfl)) (by unfold Func.isWrapper; first | (rw [if_pos (by decide +kernel)]; kernel_rfl) | (rw [if_neg (by decide +kernel)]; exact ⟨rfl, rfl⟩))
    (fun os started H enc _ => drvUsers_lifted os started H enc)
#print axioms drvUsers_holds
end Go.Proofs.Ytkiaofmngnmdhaa
end
