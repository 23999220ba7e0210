/- spencelaw18.DrvUsers. spencelaw18.DrvNeeds: the plain law; one item more at the end. spencelaw18.DrvNeeds. spencelaw18.DrvNeeds is true of every input, and leaves all as it was. No condition. -/
import Derived.Test.YtkiaofmngnmdhaaMV3
import Derived.Test.YtkiaofmngnmdhaaGrow
import Derived.Test.YtkiaofmngnmdhaaAt
section
namespace Go.Proofs.Ytkiaofmngnmdhaa
open Go Go.RowKit Go.Maps
set_option maxRecDepth 100000
theorem itms_ok {w : World} {B : Nat} {v : Value} {l : List Itm} (h : itmsLay.At w B [v] l) : ∀ x ∈ l, okH x.1 := fun x hx => by
  obtain ⟨j, hj⟩ := List.getElem?_of_mem hx
  obtain ⟨A, cap, rfl, _, _, _, hA⟩ := slice_open h
  obtain ⟨b, off, rfl, _, hE⟩ := hA (by have := (List.getElem?_eq_some_iff.1 hj).1; omega)
  obtain ⟨cs, _, hat⟩ := hE j x hj
  obtain ⟨_, _, _, ho, _⟩ := itmLay_at.1 hat
  exact ho
theorem itms_take {w : World} {B : Nat} {A : Option Addr} {cap : Nat} {l : List Itm} (h : itmsLay.At w B [.slice A l.length cap] l) (i : Nat) : itmsLay.At w B [.slice A (l.take i).length cap] (l.take i) := by
  obtain ⟨A', cap', e, h1, h2, h3, hA⟩ := slice_open h
  injection e with e1 e2 e3
  subst e1 e3
  have hle : (l.take i).length ≤ l.length := by rw [List.length_take]; omega
  refine ⟨A, cap, rfl, by omega, h2, h3, fun h0 => ?_⟩
  obtain ⟨b, off, e, hb, hE⟩ := hA (by omega)
  refine ⟨b, off, e, hb, fun j x hj => hE j x ?_⟩
  rw [List.getElem?_take] at hj
  split at hj
  · exact hj
  · cases hj
theorem needs_css {H : Type} [DecidableEq H] {l : List (Dr.It H)} {c h : H} (hm : h ∈ Dr.needsP l c) : h ∈ Dr.css l := (Dr.outA_sub _ _).subset hm
theorem css_mem {l : List Itm} {h : Hsh} (hm : h ∈ Dr.css (l.map itP)) : ∃ x ∈ l, x.1 = h := by
  unfold Dr.css at hm
  obtain ⟨y, hy, rfl⟩ := List.mem_map.1 hm
  obtain ⟨x, hx, rfl⟩ := List.mem_map.1 hy
  exact ⟨x, hx, rfl⟩
theorem css_known {l : List Itm} {h : Hsh} (hm : h ∈ Dr.css (l.map itP)) : (mget (kmap l) h).isSome = true := by
  cases e : (mget (kmap l) h).isSome with
  | true => rfl
  | false => exact absurd hm (known_not e)
theorem needs_known {l : List Itm} (hr : Dr.rightP (l.map itP) = true) {h : Hsh} (hm : h ∈ Dr.css (l.map itP)) : needsE l h = 0 ∧ needsL l h = Dr.needsP (l.map itP) h := by
  unfold needsE needsL
  rw [hr, css_known hm]
  exact ⟨rfl, rfl⟩
theorem find_some {l : List Itm} (hr : Dr.Right (l.map itP)) {x : Itm} (hx : x ∈ l) : (l.find? fun y => decide (y.1 = x.1)) = some x := by
  obtain ⟨j, hj⟩ := List.getElem?_of_mem hx
  refine find_first hj rfl fun y hy e => ?_
  obtain ⟨i, hi⟩ := List.getElem?_of_mem hy
  have hij : i < j := by
    have := (List.getElem?_eq_some_iff.1 hi).1
    rw [List.length_take] at this
    omega
  rw [List.getElem?_take_of_lt hij] at hi
  have h1 := Dr.idx_at hr (n := i) (x := itP y) (by rw [List.getElem?_map, hi]; rfl)
  have h2 := Dr.idx_at hr (n := j) (x := itP x) (by rw [List.getElem?_map, hj]; rfl)
  have e2 : (itP y).cls = (itP x).cls := e
  rw [e2, h2] at h1
  omega
theorem findD_at {l : List Itm} (hr : Dr.Right (l.map itP)) {x : Itm} (hx : x ∈ l) : findD l x.1 = x.2 := by
  unfold findD
  rw [find_some hr hx]
  rfl
theorem right_take9 {l : List Itm} (hr : Dr.Right (l.map itP)) (j : Nat) : Dr.rightP ((l.take j).map itP) = true := by
  rw [List.map_take]
  exact (Dr.rightP_iff _).2 (Dr.right_take hr j)
/-- what is so of each one that uses a class -/
structure UserOk (l : List Itm) (c z : Hsh) : Prop where
  ok : okH z
  is : (l.find? fun y => decide (y.1 = z)).isSome = true
  has : c ∈ clsP (findD l z).2.1
  e : needsE l z = 0
  needs : c ∈ needsL l z
  ne : z ≠ c
theorem user_ok {l : List Itm} (hr : Dr.rightP (l.map itP) = true) (hok : ∀ x ∈ l, okH x.1) {c z : Hsh} (hz : z ∈ Dr.usersP (l.map itP) c) : UserOk l c z := by
  have hR := (Dr.rightP_iff _).1 hr
  obtain ⟨y, hy, h1, h2⟩ := Dr.mem_users.1 hz
  obtain ⟨x, hx, rfl⟩ := List.mem_map.1 hy
  have hzx : x.1 = z := h2
  subst hzx
  have hcs : x.1 ∈ Dr.css (l.map itP) := List.mem_map.2 ⟨itP x, hy, rfl⟩
  have hn := needs_known hr hcs
  have hu := Dr.users_need hR hy h1
  exact ⟨hok x hx, by rw [find_some hR hx]; rfl, by rw [findD_at hR hx]; exact h1, hn.1, by rw [hn.2]; exact hu.1, hu.2⟩
theorem needsL_ok {l : List Itm} (hok : ∀ x ∈ l, okH x.1) (z : Hsh) : ∀ h ∈ needsL l z, okH h := fun h hm => by
  unfold needsL at hm
  split at hm
  · split at hm
    · obtain ⟨x, hx, rfl⟩ := css_mem (needs_css hm)
      exact hok x hx
    · cases hm
  · cases hm
theorem usersP_ok {l : List Itm} (hok : ∀ x ∈ l, okH x.1) (c : Hsh) : ∀ h ∈ Dr.usersP (l.map itP) c, okH h := fun h hm => by
  obtain ⟨y, hy, _, h2⟩ := Dr.mem_users.1 hm
  obtain ⟨x, hx, rfl⟩ := List.mem_map.1 hy
  rw [← h2]
  exact hok x hx
theorem users_same {l : List Itm} (hr : Dr.Right (l.map itP)) (c : Hsh) {j : Nat} {x : Itm} (hx : l[j]? = some x) : x.1 ∈ Dr.usersP (l.map itP) c ↔ c ∈ clsP x.2.2.1 :=
  Dr.users_iff hr (x := itP x) (List.mem_map.2 ⟨x, List.mem_of_getElem? hx, rfl⟩) c
theorem needsP_le {H : Type} [DecidableEq H] (l : List (Dr.It H)) (c : H) : (Dr.needsP l c).length ≤ l.length := by
  have h : (Dr.needsP l c).length ≤ (Dr.css l).length := (Dr.outA_sub _ _).length_le
  simpa [Dr.css] using h
theorem needsL_len {l : List Itm} (z : Hsh) : (needsL l z).length ≤ l.length := by
  unfold needsL
  split
  · split
    · have := needsP_le (l.map itP) z
      rwa [List.length_map] at this
    · exact Nat.zero_le _
  · exact Nat.zero_le _
set_option maxHeartbeats 8000000 in
theorem drvUsers_any (w : World) (l : List Itm) (A : Option Addr) (cap : Nat) (h : itmsLay.At w w.heap.size [.slice A l.length cap] l) (hl9 : ∀ x ∈ l, LightD x.2) (c : Hsh) (hc : okH c) :
    Calls Try.prog 4 #[.slice A l.length cap, .agg (bv c).toArray] w fun e w' => e = .returned (.bool true) ∧ Below w.heap.size w w' := by
  obtain ⟨A', cap', e, hcl, hcm9, _, hA⟩ := slice_open h
  injection e with e1 e2 e3
  subst e1 e3
  have k9 : (l.length : Int) ≤ 9223372036854775807 := by simp only [maxLen] at hcm9; omega
  have hszc2 := hszD hc
  have hszc : (Try.prog.info? 24).map (·.size) = some (bv c).length := by simpa using hszc2
  have HA := hide (And.intro hA hcl)
  have HL := hide h
  have HOK := hide (itms_ok h)
  have HL9 := hide hl9
  clear hA hcl hcm9 e2 h hl9
  go_enter Try.func4, Try.ntmps4
  go_wp2_with (first | ((with_reducible refine at_slot 3 ?_); (refine wpList_boxA (o := ⟨some 3, _, _, _, _, _⟩) rfl 24 (.tmp 1) rfl (bv c).toArray rfl ?_); intro w1 hn; have H1 := hide hn; clear hn; simp only [Act.put, List.setIfInBounds_toArray, List.set_cons_zero, List.set_cons_succ]))
  refine (awake_any w1).mono ?_
  rintro e w2 ⟨rfl, hb⟩
  dsimp only
  have H2 := hide (And.intro (H1.out.blk.below hb H1.out.blk.lt) (H1.out.below.trans (Below.mono hb H1.out.below.size)))
  clear hb
  go_wp2_with fail
  refine (great_any w2 l A cap (itms_alike HL.out H2.out.2) HL9.out).mono ?_
  rintro e w3 ⟨rfl, hb⟩
  dsimp only
  have H3 := hide (And.intro (H2.out.1.below hb H2.out.1.lt) (H2.out.2.trans (Below.mono hb H2.out.2.size)))
  clear hb
  cases hgr : greatP l
  · have hsm := great_small hgr
    have hlen : l.length ≤ 3000 := hsm.1
    have hl : ∀ x ∈ l, x.2.2.1.length ≤ 1000000 := fun x hx => by have := (hsm.2 x hx).1; omega
    have hl2 : ∀ x ∈ l, x.2.2.1.length ≤ 1000000 ∧ x.2.2.2.length ≤ 1000000 := fun x hx => by have := hsm.2 x hx; omega
    have HSM := hide (And.intro hl hl2)
    clear hgr hsm hl hl2
    go_wp2_with fail
    refine (right_any w3 l A cap (itms_alike HL.out H3.out.2) HSM.out.1).mono ?_
    rintro e w4 ⟨rfl, hb⟩
    dsimp only
    have H4 := hide (And.intro (H3.out.1.below hb H3.out.1.lt) (H3.out.2.trans (Below.mono hb H3.out.2.size)))
    clear hb
    cases hrt : Dr.rightP (l.map itP)
    · clear hrt
      go_wp2_with fail
      go_ret
      exact ⟨rfl, H4.out.2⟩
    · have HR := hide (And.intro hrt ((Dr.rightP_iff _).1 hrt))
      clear hrt
      go_wp2_with (first | ((with_reducible refine at_slot 22 ?_); (refine wpList_value (o := ⟨some 22, _, _, _, _, _⟩) rfl (.agg ((bv c).toArray)) w4 (exec_load_blk (o := ⟨some 22, _, _, _, _, _⟩) 24 (.tmp 3) rfl w.heap.size rfl 24 _ _ w4 H4.out.1 Try.underlying24 rfl hszc2) ?_)))
      refine (users_any w4 l A cap (itms_alike HL.out H4.out.2) HSM.out.1 (by omega) c hc).mono ?_
      rintro e w5 ⟨u, rfl, ho, hb⟩
      obtain ⟨Au, cu, rfl⟩ := own_form9 ho
      dsimp only
      obtain ⟨us, hus⟩ : ∃ us, us = Dr.usersP (l.map itP) c := ⟨_, rfl⟩
      rw [← hus] at ho ⊢
      have hun : us.length ≤ 3000 := by rw [hus]; exact Nat.le_trans (usersP_le _ _) (by rw [List.length_map]; exact hlen)
      have hun9 : (us.length : Int) ≤ 3000 := by omega
      have H5 := hide (And.intro (H4.out.1.below hb H4.out.1.lt) (And.intro ho (H4.out.2.trans (Below.mono hb H4.out.2.size))))
      have HUS := hide hus
      clear hb ho hus
      go_wp2_with fail
      go_loopw [6] (fun x6 wr => ∃ k : Nat, k ≤ us.length ∧ x6 = .int .i64 (k : Int) ∧ Blk wr w.heap.size 24 (bv c).toArray ∧ wr.ownsRow w4.heap.size 24 20 (.slice Au us.length cu) us.length (us.flatMap bv) ∧ Below w.heap.size w wr ∧ w5.heap.size ≤ wr.heap.size) (fun x6 _ => us.length - (intOf x6).toNat)
      case atStart => exact ⟨0, by omega, rfl, H5.out.1, H5.out.2.1, H5.out.2.2, Nat.le_refl _⟩
      case round =>
        obtain ⟨wo, rfl⟩ : ∃ wo, wo = wr := ⟨_, rfl⟩
        obtain ⟨k, hk, rfl, hkc, hown, hb, hsz⟩ := hrel
        have HB := hide (And.intro hkc (And.intro hown (And.intro hb hsz)))
        clear hkc hown hb hsz
        have k0 : (0 : Int) ≤ (k : Int) := by omega
        by_cases hk2 : k < us.length
        · have k1 : (k : Int) < (us.length : Int) := by omega
          obtain ⟨z, hz⟩ : ∃ z, us[k]? = some z := ⟨_, List.getElem?_eq_getElem hk2⟩
          have hzm : z ∈ Dr.usersP (l.map itP) c := by rw [← HUS.out]; exact List.mem_of_getElem? hz
          have hzu := user_ok HR.out.1 HOK.out hzm
          have hzo := hzu.ok
          obtain ⟨g, cap5, he5⟩ := owned_placeN HB.out.2.1 (by omega)
          injection he5 with he51 _ he53
          subst he51 he53
          have hgl := (owned_ltN HB.out.2.1 rfl).2
          have hrz : wo.rangeAt g (k * 20) (bv z) := own_range HB.out.2.1 (k * 20) 20 _ (flat_hash (by rw [HUS.out]; exact usersP_ok HOK.out c) hz)
          have HRZ := hide hrz
          have HZU := hide hzu
          have hszz2 := hszD hzo
          have hszz : (Try.prog.info? 24).map (·.size) = some (bv z).length := by simpa using hszz2
          clear hz hzm hzu hrz
          go_wp2_with (first | ((with_reducible refine at_slot 34 ?_); (refine wpList_value (o := ⟨some 34, _, _, _, _, _⟩) rfl (.pointer (some ⟨g, k * 20, none⟩)) wo (exec_idx0 33 24 (.tmp 32) (.tmp 33) rfl g us.length cu k rfl rfl hk2 20 Try.underlying33 sz_hash wo) ?_)) | ((with_reducible refine at_slot 35 ?_); (refine wpList_value (o := ⟨some 35, _, _, _, _, _⟩) rfl (.agg (bv z).toArray) wo (exec_load_mid (o := ⟨some 35, _, _, _, _, _⟩) 24 (.tmp 34) rfl g (k * 20) rfl (bv z) _ wo HRZ.out Try.underlying24 rfl hszz) ?_)))
          refine (find_any wo l _ (itms_alike HL.out HB.out.2.2.1) z hzo HSM.out.2).mono ?_
          rintro e w6 ⟨u1, u2, rfl, hod, hb⟩
          obtain ⟨d, hd⟩ : ∃ d, d = findD l z := ⟨_, rfl⟩
          have hdl := findD_len hd HSM.out.1
          change OwnDrv w6 wo.heap.size (findD l z) u1 u2 at hod
          rw [← hd] at hod
          dsimp only
          rw [show ((l.find? fun x => decide (x.1 = z)).map (·.2)).getD (⟨#[]⟩, [], []) = d from hd.symm, HZU.out.is]
          have hhas : c ∈ clsP d.2.1 := by rw [hd]; exact HZU.out.has
          obtain ⟨p, hp, _⟩ := placeH_mem hhas
          have HP := hide hp
          have p0 : (0 : Int) ≤ (p : Int) := by omega
          have H6 := hide (And.intro hod (And.intro (HB.out.1.below hb HB.out.1.lt) (And.intro (owned_keepN HB.out.2.1 fun g _ hl9 => hb.block g hl9) (And.intro (HB.out.2.2.1.trans (Below.mono hb HB.out.2.2.1.size)) (rangeAt_same HRZ.out (hb.block g hgl))))))
          have HZS := hide (And.intro hgl (And.intro hb.size HB.out.2.2.2))
          clear hod hb hd hhas hp hgl
          go_wp2_with (first | ((with_reducible refine at_slot 7 ?_); (refine wpList_newZ (o := ⟨some 7, _, _, _, _, _⟩) rfl 28 zcD (by kernel_rfl) ?_); intro w7 hn; have H7 := hide hn; clear hn; simp only [Act.put, List.setIfInBounds_toArray, List.set_cons_zero, List.set_cons_succ]) | ((with_reducible refine at_store 7 37 ?_); (with_reducible refine wpList_store_blkA (o := ⟨none, _, _, _, _, _⟩) rfl 28 (.tmp 7) (.tmp 37) rfl w6.heap.size zcD (dC d u1 u2).toArray 28 H7.out.blk ?_ ?_ ?_ ?_ ?_ ?_); kernel_rfl; rfl; (exact dC_one H6.out.1); rfl; rfl; intro w8 hk8 hg8; have h8 := H7.out.below.grown hg8 (by have := H7.out.size; omega) (fun b hb => (by have := Option.some.inj hb; omega)); have H8 := hide (And.intro hk8 (And.intro (H6.out.1.keep fun g hg hl9 => h8.block g hl9) (And.intro (H6.out.2.1.below h8 H6.out.2.1.lt) (And.intro (owned_keepN H6.out.2.2.1 fun g _ hl9 => h8.block g hl9) (And.intro (H6.out.2.2.2.1.trans (Below.mono h8 H6.out.2.2.2.1.size)) (rangeAt_same H6.out.2.2.2.2 (h8.block g (by have := HZS.out; omega)))))))); have HZ8 := hide h8.size; clear hk8 hg8 h8; simp only [Act.put, List.setIfInBounds_toArray, List.set_cons_zero, List.set_cons_succ]) | ((with_reducible refine at_slot 43 ?_); (refine wpList_value (o := ⟨some 43, _, _, _, _, _⟩) rfl (.pointer (some ⟨g, k * 20, none⟩)) w8 (exec_idx0 33 24 (.tmp 41) (.tmp 42) rfl g us.length cu k rfl rfl hk2 20 Try.underlying33 sz_hash w8) ?_)) | ((with_reducible refine at_slot 44 ?_); (refine wpList_value (o := ⟨some 44, _, _, _, _, _⟩) rfl (.agg (bv z).toArray) w8 (exec_load_mid (o := ⟨some 44, _, _, _, _, _⟩) 24 (.tmp 43) rfl g (k * 20) rfl (bv z) _ w8 H8.out.2.2.2.2.2 Try.underlying24 rfl hszz) ?_)))
          refine (needs_any w8 l A cap (itms_alike HL.out H8.out.2.2.2.2.1) HSM.out.1 (by omega) z hzo).mono ?_
          rintro e w9 ⟨un, rfl, hon, hb⟩
          obtain ⟨ns, hns⟩ : ∃ ns, ns = needsL l z := ⟨_, rfl⟩
          have hnc : c ∈ ns := by rw [hns]; exact HZU.out.needs
          have hnok : ∀ h ∈ ns, okH h := by rw [hns]; exact needsL_ok HOK.out z
          rw [← hns] at hon
          obtain ⟨q, hq, _⟩ := placeH_mem hnc
          have HQ := hide hq
          have q0 : (0 : Int) ≤ (q : Int) := by omega
          obtain ⟨An, cn, rfl⟩ := own_form9 hon
          dsimp only
          rw [HZU.out.e]
          have H9 := hide (And.intro (H8.out.1.below hb H8.out.1.lt) (And.intro (H8.out.2.1.keep fun g hg hl9 => hb.block g hl9) (And.intro (H8.out.2.2.1.below hb H8.out.2.2.1.lt) (And.intro (owned_keepN H8.out.2.2.2.1 fun g _ hl9 => hb.block g hl9) (And.intro (H8.out.2.2.2.2.1.trans (Below.mono hb H8.out.2.2.2.2.1.size)) (And.intro (rangeAt_same H8.out.2.2.2.2.2 (hb.block g (by have := HZS.out; have := HZ8.out; omega))) hon))))))
          have HNO := hide (And.intro hnok (And.intro (show g < w9.heap.size by have := HZS.out; have := HZ8.out; have := hb.size; omega) (show w5.heap.size ≤ w9.heap.size by have := HZS.out; have := HZ8.out; have := hb.size; omega)))
          clear hb hon hns hnc hnok hq
          have hd2 := decide_eq_false HZU.out.ne
          have HD := hide hd2
          clear hd2
          go_wp2_with fail
          refine Fre.wp_made (X := Bel) 26 [(52, OwnHs (clsP d.2.1))] (by kernel_rfl) (by kernel_rfl) (by intro p hp; rw [List.mem_singleton.1 hp]; exact ownHs_ok _) (by simp) (by simp) ?_
          simp only [List.take_succ_cons, List.take_zero, List.drop_succ_cons, List.drop_zero]
          refine Fre.made_val (.bool true) (by kernel_rfl) (by kernel_rfl) (by kernel_rfl) (fun _ _ => by kernel_rfl) ?_
          simp only [Act.put, List.setIfInBounds_toArray, List.set_cons_zero, List.set_cons_succ]
          refine Fre.made_val (.bool false) (by kernel_rfl) (by kernel_rfl) (by kernel_rfl) (fun _ _ => by kernel_rfl) ?_
          simp only [Act.put, List.setIfInBounds_toArray, List.set_cons_zero, List.set_cons_succ]
          refine Fre.made_val (.bool false) (by kernel_rfl) (by kernel_rfl) (by kernel_rfl) (fun _ _ => by kernel_rfl) ?_
          simp only [Act.put, List.setIfInBounds_toArray, List.set_cons_zero, List.set_cons_succ]
          refine Fre.made_val (.agg (dC d u1 u2).toArray) (by kernel_rfl) (by kernel_rfl) (by kernel_rfl) (fun W9 hW9 => exec_load_blk (o := ⟨some 51, _, _, _, _, _⟩) 28 (.tmp 7) rfl w6.heap.size rfl 28 _ _ W9 (H9.out.1.below hW9 H9.out.1.lt) Try.underlying28 rfl (by kernel_rfl)) ?_
          simp only [Act.put, List.setIfInBounds_toArray, List.set_cons_zero, List.set_cons_succ]
          refine Fre.made_newcall 52 _ 11 #[.agg (dC d u1 u2).toArray] (by kernel_rfl) (by kernel_rfl) rfl rfl (fun W => by kernel_rfl) (fun W hW => (classes_any W d u1 u2 ((H9.out.2.1.keep fun g _ hl9 => Below.block hW g hl9).at_ (Nat.le_refl _)) hdl).mono (fun e w' ⟨u, h1, h2, h3⟩ => ⟨u, h1, h3, _, h2⟩)) ?_
          simp only [Act.put, List.setIfInBounds_toArray, List.set_cons_zero, List.set_cons_succ]
          refine Fre.made_val (.agg (bv c).toArray) (by kernel_rfl) (by kernel_rfl) (by kernel_rfl) (fun W9 hW9 => exec_load_blk (o := ⟨some 53, _, _, _, _, _⟩) 24 (.tmp 3) rfl w.heap.size rfl 24 _ _ W9 (H9.out.2.2.1.below hW9 H9.out.2.2.1.lt) Try.underlying24 rfl hszc2) ?_
          simp only [Act.put, List.setIfInBounds_toArray, List.set_cons_zero, List.set_cons_succ]
          refine Fre.made_call1 52 _ (.int .i64 (p : Int)) 12 (fun u => #[u, .agg (bv c).toArray]) (by kernel_rfl) rfl (by kernel_rfl) (by kernel_rfl) (fun u W => by kernel_rfl) (fun u W hW hu => ?hc54) ?_
          case hc54 =>
            have h := place_any W _ u (hu.at_ (cls_ok H9.out.2.1.okn)) c hc
            rw [HP.out] at h
            exact h
          simp only [Act.put, List.setIfInBounds_toArray, List.set_cons_zero, List.set_cons_succ]
          refine Fre.made_val (.bool false) (by kernel_rfl) (by kernel_rfl) (by kernel_rfl) (fun W9 hW9 => ?hs1) ?_
          case hs1 =>
            go_simp
          simp only [Act.put, List.setIfInBounds_toArray, List.set_cons_zero, List.set_cons_succ]
          refine Fre.made_val (.bool false) (by kernel_rfl) (by kernel_rfl) (by kernel_rfl) (fun _ _ => by kernel_rfl) ?_
          simp only [Act.put, List.setIfInBounds_toArray, List.set_cons_zero, List.set_cons_succ]
          refine Fre.made_val (.bool false) (by kernel_rfl) (by kernel_rfl) (by kernel_rfl) (fun _ _ => by kernel_rfl) ?_
          simp only [Act.put, List.setIfInBounds_toArray, List.set_cons_zero, List.set_cons_succ]
          refine Fre.made_val (.int .i64 0) (by kernel_rfl) (by kernel_rfl) (by kernel_rfl) (fun _ _ => by kernel_rfl) ?_
          simp only [Act.put, List.setIfInBounds_toArray, List.set_cons_zero, List.set_cons_succ]
          refine Fre.made_val (.bool false) (by kernel_rfl) (by kernel_rfl) (by kernel_rfl) (fun _ _ => by kernel_rfl) ?_
          simp only [Act.put, List.setIfInBounds_toArray, List.set_cons_zero, List.set_cons_succ]
          refine Fre.made_val (.bool false) (by kernel_rfl) (by kernel_rfl) (by kernel_rfl) (fun _ _ => by kernel_rfl) ?_
          simp only [Act.put, List.setIfInBounds_toArray, List.set_cons_zero, List.set_cons_succ]
          refine Fre.made_val (.bool false) (by kernel_rfl) (by kernel_rfl) (by kernel_rfl) (fun _ _ => by kernel_rfl) ?_
          simp only [Act.put, List.setIfInBounds_toArray, List.set_cons_zero, List.set_cons_succ]
          refine Fre.made_val (.slice An ns.length cn) (by kernel_rfl) (by kernel_rfl) (by kernel_rfl) (fun _ _ => by kernel_rfl) ?_
          simp only [Act.put, List.setIfInBounds_toArray, List.set_cons_zero, List.set_cons_succ]
          refine Fre.made_val (.agg (bv c).toArray) (by kernel_rfl) (by kernel_rfl) (by kernel_rfl) (fun W9 hW9 => exec_load_blk (o := ⟨some 63, _, _, _, _, _⟩) 24 (.tmp 3) rfl w.heap.size rfl 24 _ _ W9 (H9.out.2.2.1.below hW9 H9.out.2.2.1.lt) Try.underlying24 rfl hszc2) ?_
          simp only [Act.put, List.setIfInBounds_toArray, List.set_cons_zero, List.set_cons_succ]
          refine Fre.made_call (.int .i64 (q : Int)) 12 #[.slice An ns.length cn, .agg (bv c).toArray] (by kernel_rfl) (by kernel_rfl) (by kernel_rfl) (fun W => by kernel_rfl) (fun W hW => ?hc64) ?_
          case hc64 =>
            have hu : OwnHs ns (.slice An ns.length cn) W := ⟨_, owned_keepN H9.out.2.2.2.2.2.2 fun g _ hl9 => Below.block hW g hl9⟩
            have h := place_any W _ _ (hu.at_ HNO.out.1) c hc
            rw [HQ.out] at h
            exact h
          simp only [Act.put, List.setIfInBounds_toArray, List.set_cons_zero, List.set_cons_succ]
          refine Fre.made_val (.bool false) (by kernel_rfl) (by kernel_rfl) (by kernel_rfl) (fun W9 hW9 => ?hs2) ?_
          case hs2 =>
            go_simp
          simp only [Act.put, List.setIfInBounds_toArray, List.set_cons_zero, List.set_cons_succ]
          refine Fre.made_val (.bool false) (by kernel_rfl) (by kernel_rfl) (by kernel_rfl) (fun _ _ => by kernel_rfl) ?_
          simp only [Act.put, List.setIfInBounds_toArray, List.set_cons_zero, List.set_cons_succ]
          refine Fre.made_val (.bool false) (by kernel_rfl) (by kernel_rfl) (by kernel_rfl) (fun _ _ => by kernel_rfl) ?_
          simp only [Act.put, List.setIfInBounds_toArray, List.set_cons_zero, List.set_cons_succ]
          refine Fre.made_val (.slice (some ⟨g, 0, none⟩) us.length cu) (by kernel_rfl) (by kernel_rfl) (by kernel_rfl) (fun _ _ => by kernel_rfl) ?_
          simp only [Act.put, List.setIfInBounds_toArray, List.set_cons_zero, List.set_cons_succ]
          refine Fre.made_val (.int .i64 (k : Int)) (by kernel_rfl) (by kernel_rfl) (by kernel_rfl) (fun _ _ => by kernel_rfl) ?_
          simp only [Act.put, List.setIfInBounds_toArray, List.set_cons_zero, List.set_cons_succ]
          refine Fre.made_val (.pointer (some ⟨g, k * 20, none⟩)) (by kernel_rfl) (by kernel_rfl) (by kernel_rfl) (fun W9 hW9 => exec_idx0 (o := ⟨some 70, _, _, _, _, _⟩) 33 24 (.tmp 68) (.tmp 69) rfl g us.length cu k rfl rfl hk2 20 Try.underlying33 sz_hash W9) ?_
          simp only [Act.put, List.setIfInBounds_toArray, List.set_cons_zero, List.set_cons_succ]
          refine Fre.made_val (.agg (bv z).toArray) (by kernel_rfl) (by kernel_rfl) (by kernel_rfl) (fun W9 hW9 => exec_load_mid (o := ⟨some 71, _, _, _, _, _⟩) 24 (.tmp 70) rfl g (k * 20) rfl (bv z) _ W9 (rangeAt_same H9.out.2.2.2.2.2.1 (Below.block hW9 _ HNO.out.2.1)) Try.underlying24 rfl hszz) ?_
          simp only [Act.put, List.setIfInBounds_toArray, List.set_cons_zero, List.set_cons_succ]
          refine Fre.made_val (.agg (bv c).toArray) (by kernel_rfl) (by kernel_rfl) (by kernel_rfl) (fun W9 hW9 => exec_load_blk (o := ⟨some 72, _, _, _, _, _⟩) 24 (.tmp 3) rfl w.heap.size rfl 24 _ _ W9 (H9.out.2.2.1.below hW9 H9.out.2.2.1.lt) Try.underlying24 rfl hszc2) ?_
          simp only [Act.put, List.setIfInBounds_toArray, List.set_cons_zero, List.set_cons_succ]
          refine Fre.made_val (.bool false) (by kernel_rfl) (by kernel_rfl) (by kernel_rfl) (fun W9 hW9 => exec_binop_agg (o := ⟨some 73, _, _, _, _, _⟩) .eql 24 (.tmp 71) (.tmp 72) _ rfl (bv z).toArray (bv c).toArray rfl rfl (by kernel_rfl) _ (fun W => by have h := bin_eq_hash z c hzo hc W; rw [HD.out] at h; exact h) W9) ?_
          simp only [Act.put, List.setIfInBounds_toArray, List.set_cons_zero, List.set_cons_succ]
          intro wx hx
          have HX := hide (And.intro (H9.out.2.2.1.below hx H9.out.2.2.1.lt) (And.intro (owned_keepN H9.out.2.2.2.1 fun g _ hl9 => Below.block hx g hl9) (And.intro (H9.out.2.2.2.2.1.trans (Below.mono hx H9.out.2.2.2.2.1.size)) (Nat.le_trans HNO.out.2.2 (Below.size hx)))))
          clear hx
          dsimp only [Fre.ended, List.drop]
          rintro u52 _
          go_wp2_with fail
          go_roundw
          case rel => exact ⟨k + 1, by omega, by go_num, HX.out⟩
          case measure => simp [intOf]; omega
        · obtain rfl : k = us.length := by omega
          go_wp2_with fail
          go_loopw [11] (fun x11 wr => ∃ j : Nat, j ≤ l.length ∧ x11 = .int .i64 (j : Int) ∧ Blk wr w.heap.size 24 (bv c).toArray ∧ wr.ownsRow w4.heap.size 24 20 (.slice Au us.length cu) us.length (us.flatMap bv) ∧ Below w.heap.size w wr) (fun x11 _ => l.length - (intOf x11).toNat)
          case atStart => exact ⟨0, by omega, rfl, HB.out.1, HB.out.2.1, HB.out.2.2.1⟩
          case round =>
            obtain ⟨wi, rfl⟩ : ∃ wi, wi = wr := ⟨_, rfl⟩
            obtain ⟨j, hj, rfl, hkc, hown, hb⟩ := hrel
            have HC := hide (And.intro hkc (And.intro hown hb))
            clear hkc hown hb
            have j0 : (0 : Int) ≤ (j : Int) := by omega
            by_cases hj2 : j < l.length
            · have j1 : (j : Int) < (l.length : Int) := by omega
              obtain ⟨x, hx⟩ : ∃ x, l[j]? = some x := ⟨_, List.getElem?_eq_getElem hj2⟩
              obtain ⟨b, off, rfl, hlb, hE⟩ := HA.out.1 (by omega)
              obtain ⟨cs, hr, hatx⟩ := hE j x hx
              obtain ⟨q1, q2, rfl, hxo, hxd⟩ := itmLay_at.1 hatx
              obtain ⟨B1, k1, rfl, _⟩ := slice_open hxd.ins
              obtain ⟨B2, k2, rfl, _⟩ := slice_open hxd.rcp
              obtain ⟨q1, hq1⟩ : ∃ q1, q1 = Value.slice B1 x.2.2.1.length k1 := ⟨_, rfl⟩
              obtain ⟨q2, hq2⟩ : ∃ q2, q2 = Value.slice B2 x.2.2.2.length k2 := ⟨_, rfl⟩
              have hone1 : q1.oneCell' = true ∧ q2.oneCell' = true := by rw [hq1, hq2]; exact ⟨rfl, rfl⟩
              rw [← hq1, ← hq2] at hr hatx
              rw [← hq1, ← hq2] at hxd
              have HX := hide (And.intro (rangeAt_same hr (HC.out.2.2.block b (by omega))) (And.intro hxo hxd))
              have HXX := hide hx
              have hszt2 : (Try.prog.info? 30).map (·.size) = some (tC x q1 q2).toArray.size := by rw [show (tC x q1 q2).toArray.size = 23 by rw [List.size_toArray]; exact tC_len hxo]; kernel_rfl
              have hszt : (Try.prog.info? 30).map (·.size) = some (tC x q1 q2).length := by simpa using hszt2
              have hszzt : zcT.size = (tC x q1 q2).toArray.size := by rw [show (tC x q1 q2).toArray.size = 23 by rw [List.size_toArray]; exact tC_len hxo]; kernel_rfl
              have honet : (tC x q1 q2).toArray.all (·.oneCell') = true := all_oneCell_toArray (tC_one x hone1.1 hone1.2)
              have hszx : (Try.prog.info? 24).map (·.size) = some (bv x.1).length := by have := hszD hxo; simpa using this
              have hszx2 := hszD hxo
              clear hx hE hr hatx hxd hq1 hq2
              have hdl := HSM.out.1 x (List.mem_of_getElem? HXX.out)
              have hbw : b < wi.heap.size := Nat.lt_of_lt_of_le hlb HC.out.2.2.size
              have htl : (l.take j).length = j := by rw [List.length_take]; omega
              have HTL := hide htl
              have hjc : j ≤ cap := Nat.le_trans hj HA.out.2
              clear htl
              go_wp2_with fail
              have hus := users_same HR.out.2 c HXX.out
              rw [← HUS.out] at hus
              have HUX := hide hus
              have HXO := hide (show okH x.1 from HX.out.2.1)
              clear hus
              by_cases hm : c ∈ clsP x.2.2.1
              · obtain ⟨p, hp, _⟩ := placeH_mem hm
                obtain ⟨q, hq, _⟩ := placeH_mem (HUX.out.2 hm)
                have HP := hide hp
                have HQ := hide hq
                have p0 : (0 : Int) ≤ (p : Int) := by omega
                have q0 : (0 : Int) ≤ (q : Int) := by omega
                clear hp hq hm
                refine Fre.wp_made (X := Bel) 24 [(92, OwnHs (clsP x.2.2.1))] (by kernel_rfl) (by kernel_rfl) (by intro p hp; rw [List.mem_singleton.1 hp]; exact ownHs_ok _) (by simp) (by simp) ?_
                simp only [List.take_succ_cons, List.take_zero, List.drop_succ_cons, List.drop_zero]
                refine Fre.made_val (.slice (some ⟨b, off, none⟩) l.length cap) (by kernel_rfl) (by kernel_rfl) (by kernel_rfl) (fun _ _ => by kernel_rfl) ?_
                simp only [Act.put, List.setIfInBounds_toArray, List.set_cons_zero, List.set_cons_succ]
                refine Fre.made_val (.int .i64 (j : Int)) (by kernel_rfl) (by kernel_rfl) (by kernel_rfl) (fun _ _ => by kernel_rfl) ?_
                simp only [Act.put, List.setIfInBounds_toArray, List.set_cons_zero, List.set_cons_succ]
                refine Fre.made_val (.slice (some ⟨b, off, none⟩) j cap) (by kernel_rfl) (by kernel_rfl) (by kernel_rfl) (fun W9 hW9 => exec_sliceTo (o := ⟨some 83, _, _, _, _, _⟩) 22 30 23 (.tmp 81) (.tmp 82) rfl (some ⟨b, off, none⟩) l.length cap j rfl rfl Try.underlying22 sz_itm hjc W9) ?_
                simp only [Act.put, List.setIfInBounds_toArray, List.set_cons_zero, List.set_cons_succ]
                refine Fre.made_call (.bool true) 7 #[.slice (some ⟨b, off, none⟩) j cap] (by kernel_rfl) (by kernel_rfl) (by kernel_rfl) (fun W => by kernel_rfl) (fun W hW => ?hc84) ?_
                case hc84 =>
                  have h := right_any W (l.take j) (some ⟨b, off, none⟩) cap (itms_take (itms_alike HL.out (HC.out.2.2.trans (Below.mono hW HC.out.2.2.size))) j) (fun x hx => HSM.out.1 x (List.mem_of_mem_take hx))
                  rw [right_take9 HR.out.2 j, HTL.out] at h
                  exact h
                simp only [Act.put, List.setIfInBounds_toArray, List.set_cons_zero, List.set_cons_succ]
                refine Fre.made_val (.bool false) (by kernel_rfl) (by kernel_rfl) (by kernel_rfl) (fun _ _ => by kernel_rfl) ?_
                simp only [Act.put, List.setIfInBounds_toArray, List.set_cons_zero, List.set_cons_succ]
                refine Fre.made_val (.bool false) (by kernel_rfl) (by kernel_rfl) (by kernel_rfl) (fun _ _ => by kernel_rfl) ?_
                simp only [Act.put, List.setIfInBounds_toArray, List.set_cons_zero, List.set_cons_succ]
                refine Fre.made_val (.slice (some ⟨b, off, none⟩) l.length cap) (by kernel_rfl) (by kernel_rfl) (by kernel_rfl) (fun _ _ => by kernel_rfl) ?_
                simp only [Act.put, List.setIfInBounds_toArray, List.set_cons_zero, List.set_cons_succ]
                refine Fre.made_val (.int .i64 (j : Int)) (by kernel_rfl) (by kernel_rfl) (by kernel_rfl) (fun _ _ => by kernel_rfl) ?_
                simp only [Act.put, List.setIfInBounds_toArray, List.set_cons_zero, List.set_cons_succ]
                refine Fre.made_val (.pointer (some ⟨b, off + j * 23, none⟩)) (by kernel_rfl) (by kernel_rfl) (by kernel_rfl) (fun W9 hW9 => exec_idxO (o := ⟨some 89, _, _, _, _, _⟩) 22 30 (.tmp 87) (.tmp 88) rfl b off l.length cap j rfl rfl hj2 23 Try.underlying22 sz_itm W9) ?_
                simp only [Act.put, List.setIfInBounds_toArray, List.set_cons_zero, List.set_cons_succ]
                refine Fre.made_val (.pointer (some ⟨b, off + j * 23 + 20, none⟩)) (by kernel_rfl) (by kernel_rfl) (by kernel_rfl) (fun _ _ => by kernel_rfl) ?_
                simp only [Act.put, List.setIfInBounds_toArray, List.set_cons_zero, List.set_cons_succ]
                refine Fre.made_val (.agg (dC x.2 q1 q2).toArray) (by kernel_rfl) (by kernel_rfl) (by kernel_rfl) (fun W9 hW9 => exec_load_mid (o := ⟨some 91, _, _, _, _, _⟩) 28 (.tmp 90) rfl b (off + j * 23 + 20) rfl (dC x.2 q1 q2) _ W9 (rangeAt_same (item_drv9 HX.out.2.1 HX.out.1) (Below.block hW9 _ hbw)) Try.underlying28 rfl (by kernel_rfl)) ?_
                simp only [Act.put, List.setIfInBounds_toArray, List.set_cons_zero, List.set_cons_succ]
                refine Fre.made_newcall 92 _ 11 #[.agg (dC x.2 q1 q2).toArray] (by kernel_rfl) (by kernel_rfl) rfl rfl (fun W => by kernel_rfl) (fun W hW => (classes_any W x.2 q1 q2 (HX.out.2.2.alike9 (HC.out.2.2.trans (Below.mono hW HC.out.2.2.size))) hdl).mono (fun e w' ⟨u, h1, h2, h3⟩ => ⟨u, h1, h3, _, h2⟩)) ?_
                simp only [Act.put, List.setIfInBounds_toArray, List.set_cons_zero, List.set_cons_succ]
                refine Fre.made_val (.agg (bv c).toArray) (by kernel_rfl) (by kernel_rfl) (by kernel_rfl) (fun W9 hW9 => exec_load_blk (o := ⟨some 93, _, _, _, _, _⟩) 24 (.tmp 3) rfl w.heap.size rfl 24 _ _ W9 (HC.out.1.below hW9 HC.out.1.lt) Try.underlying24 rfl hszc2) ?_
                simp only [Act.put, List.setIfInBounds_toArray, List.set_cons_zero, List.set_cons_succ]
                refine Fre.made_call1 92 _ (.int .i64 (p : Int)) 12 (fun u => #[u, .agg (bv c).toArray]) (by kernel_rfl) rfl (by kernel_rfl) (by kernel_rfl) (fun u W => by kernel_rfl) (fun u W hW hu => ?hc94) ?_
                case hc94 =>
                  have h := place_any W _ u (hu.at_ (cls_ok HX.out.2.2.okn)) c hc
                  rw [HP.out] at h
                  exact h
                simp only [Act.put, List.setIfInBounds_toArray, List.set_cons_zero, List.set_cons_succ]
                refine Fre.made_val (.bool true) (by kernel_rfl) (by kernel_rfl) (by kernel_rfl) (fun W9 hW9 => ?hs3) ?_
                case hs3 =>
                  go_simp
                simp only [Act.put, List.setIfInBounds_toArray, List.set_cons_zero, List.set_cons_succ]
                refine Fre.made_val (.slice Au us.length cu) (by kernel_rfl) (by kernel_rfl) (by kernel_rfl) (fun _ _ => by kernel_rfl) ?_
                simp only [Act.put, List.setIfInBounds_toArray, List.set_cons_zero, List.set_cons_succ]
                refine Fre.made_val (.slice (some ⟨b, off, none⟩) l.length cap) (by kernel_rfl) (by kernel_rfl) (by kernel_rfl) (fun _ _ => by kernel_rfl) ?_
                simp only [Act.put, List.setIfInBounds_toArray, List.set_cons_zero, List.set_cons_succ]
                refine Fre.made_val (.int .i64 (j : Int)) (by kernel_rfl) (by kernel_rfl) (by kernel_rfl) (fun _ _ => by kernel_rfl) ?_
                simp only [Act.put, List.setIfInBounds_toArray, List.set_cons_zero, List.set_cons_succ]
                refine Fre.made_val (.pointer (some ⟨b, off + j * 23, none⟩)) (by kernel_rfl) (by kernel_rfl) (by kernel_rfl) (fun W9 hW9 => exec_idxO (o := ⟨some 99, _, _, _, _, _⟩) 22 30 (.tmp 97) (.tmp 98) rfl b off l.length cap j rfl rfl hj2 23 Try.underlying22 sz_itm W9) ?_
                simp only [Act.put, List.setIfInBounds_toArray, List.set_cons_zero, List.set_cons_succ]
                refine Fre.made_val (.pointer (some ⟨b, off + j * 23, none⟩)) (by kernel_rfl) (by kernel_rfl) (by kernel_rfl) (fun _ _ => by kernel_rfl) ?_
                simp only [Act.put, List.setIfInBounds_toArray, List.set_cons_zero, List.set_cons_succ]
                refine Fre.made_val (.agg (bv x.1).toArray) (by kernel_rfl) (by kernel_rfl) (by kernel_rfl) (fun W9 hW9 => exec_load_mid (o := ⟨some 101, _, _, _, _, _⟩) 24 (.tmp 100) rfl b (off + j * 23) rfl (bv x.1) _ W9 (rangeAt_same (item_cls9 HX.out.1) (Below.block hW9 _ hbw)) Try.underlying24 rfl hszx) ?_
                simp only [Act.put, List.setIfInBounds_toArray, List.set_cons_zero, List.set_cons_succ]
                refine Fre.made_call (.int .i64 (q : Int)) 12 #[.slice Au us.length cu, .agg (bv x.1).toArray] (by kernel_rfl) (by kernel_rfl) (by kernel_rfl) (fun W => by kernel_rfl) (fun W hW => ?hc102) ?_
                case hc102 =>
                  have hu : OwnHs us (.slice Au us.length cu) W := ⟨_, owned_keepN HC.out.2.1 fun g _ hl9 => Below.block hW g hl9⟩
                  have h := place_any W _ _ (hu.at_ (by rw [HUS.out]; exact usersP_ok HOK.out c)) x.1 HXO.out
                  rw [HQ.out] at h
                  exact h
                simp only [Act.put, List.setIfInBounds_toArray, List.set_cons_zero, List.set_cons_succ]
                refine Fre.made_val (.bool true) (by kernel_rfl) (by kernel_rfl) (by kernel_rfl) (fun W9 hW9 => ?hs4) ?_
                case hs4 =>
                  go_simp
                simp only [Act.put, List.setIfInBounds_toArray, List.set_cons_zero, List.set_cons_succ]
                refine Fre.made_val (.bool false) (by kernel_rfl) (by kernel_rfl) (by kernel_rfl) (fun _ _ => by kernel_rfl) ?_
                simp only [Act.put, List.setIfInBounds_toArray, List.set_cons_zero, List.set_cons_succ]
                intro wx hx
                have HY := hide (And.intro (HC.out.1.below hx HC.out.1.lt) (And.intro (owned_keepN HC.out.2.1 fun g _ hl9 => Below.block hx g hl9) (HC.out.2.2.trans (Below.mono hx HC.out.2.2.size))))
                clear hx
                dsimp only [Fre.ended, List.drop]
                rintro u92 _
                go_wp2_with fail
                go_roundw
                case rel => exact ⟨j + 1, by omega, by go_num, HY.out⟩
                case measure => simp [intOf]; omega
              · have HP := hide (placeH_not hm)
                have HQ := hide (placeH_not fun h => hm (HUX.out.1 h))
                clear hm
                refine Fre.wp_made (X := Bel) 24 [(92, OwnHs (clsP x.2.2.1))] (by kernel_rfl) (by kernel_rfl) (by intro p hp; rw [List.mem_singleton.1 hp]; exact ownHs_ok _) (by simp) (by simp) ?_
                simp only [List.take_succ_cons, List.take_zero, List.drop_succ_cons, List.drop_zero]
                refine Fre.made_val (.slice (some ⟨b, off, none⟩) l.length cap) (by kernel_rfl) (by kernel_rfl) (by kernel_rfl) (fun _ _ => by kernel_rfl) ?_
                simp only [Act.put, List.setIfInBounds_toArray, List.set_cons_zero, List.set_cons_succ]
                refine Fre.made_val (.int .i64 (j : Int)) (by kernel_rfl) (by kernel_rfl) (by kernel_rfl) (fun _ _ => by kernel_rfl) ?_
                simp only [Act.put, List.setIfInBounds_toArray, List.set_cons_zero, List.set_cons_succ]
                refine Fre.made_val (.slice (some ⟨b, off, none⟩) j cap) (by kernel_rfl) (by kernel_rfl) (by kernel_rfl) (fun W9 hW9 => exec_sliceTo (o := ⟨some 83, _, _, _, _, _⟩) 22 30 23 (.tmp 81) (.tmp 82) rfl (some ⟨b, off, none⟩) l.length cap j rfl rfl Try.underlying22 sz_itm hjc W9) ?_
                simp only [Act.put, List.setIfInBounds_toArray, List.set_cons_zero, List.set_cons_succ]
                refine Fre.made_call (.bool true) 7 #[.slice (some ⟨b, off, none⟩) j cap] (by kernel_rfl) (by kernel_rfl) (by kernel_rfl) (fun W => by kernel_rfl) (fun W hW => ?hc84) ?_
                case hc84 =>
                  have h := right_any W (l.take j) (some ⟨b, off, none⟩) cap (itms_take (itms_alike HL.out (HC.out.2.2.trans (Below.mono hW HC.out.2.2.size))) j) (fun x hx => HSM.out.1 x (List.mem_of_mem_take hx))
                  rw [right_take9 HR.out.2 j, HTL.out] at h
                  exact h
                simp only [Act.put, List.setIfInBounds_toArray, List.set_cons_zero, List.set_cons_succ]
                refine Fre.made_val (.bool false) (by kernel_rfl) (by kernel_rfl) (by kernel_rfl) (fun _ _ => by kernel_rfl) ?_
                simp only [Act.put, List.setIfInBounds_toArray, List.set_cons_zero, List.set_cons_succ]
                refine Fre.made_val (.bool false) (by kernel_rfl) (by kernel_rfl) (by kernel_rfl) (fun _ _ => by kernel_rfl) ?_
                simp only [Act.put, List.setIfInBounds_toArray, List.set_cons_zero, List.set_cons_succ]
                refine Fre.made_val (.slice (some ⟨b, off, none⟩) l.length cap) (by kernel_rfl) (by kernel_rfl) (by kernel_rfl) (fun _ _ => by kernel_rfl) ?_
                simp only [Act.put, List.setIfInBounds_toArray, List.set_cons_zero, List.set_cons_succ]
                refine Fre.made_val (.int .i64 (j : Int)) (by kernel_rfl) (by kernel_rfl) (by kernel_rfl) (fun _ _ => by kernel_rfl) ?_
                simp only [Act.put, List.setIfInBounds_toArray, List.set_cons_zero, List.set_cons_succ]
                refine Fre.made_val (.pointer (some ⟨b, off + j * 23, none⟩)) (by kernel_rfl) (by kernel_rfl) (by kernel_rfl) (fun W9 hW9 => exec_idxO (o := ⟨some 89, _, _, _, _, _⟩) 22 30 (.tmp 87) (.tmp 88) rfl b off l.length cap j rfl rfl hj2 23 Try.underlying22 sz_itm W9) ?_
                simp only [Act.put, List.setIfInBounds_toArray, List.set_cons_zero, List.set_cons_succ]
                refine Fre.made_val (.pointer (some ⟨b, off + j * 23 + 20, none⟩)) (by kernel_rfl) (by kernel_rfl) (by kernel_rfl) (fun _ _ => by kernel_rfl) ?_
                simp only [Act.put, List.setIfInBounds_toArray, List.set_cons_zero, List.set_cons_succ]
                refine Fre.made_val (.agg (dC x.2 q1 q2).toArray) (by kernel_rfl) (by kernel_rfl) (by kernel_rfl) (fun W9 hW9 => exec_load_mid (o := ⟨some 91, _, _, _, _, _⟩) 28 (.tmp 90) rfl b (off + j * 23 + 20) rfl (dC x.2 q1 q2) _ W9 (rangeAt_same (item_drv9 HX.out.2.1 HX.out.1) (Below.block hW9 _ hbw)) Try.underlying28 rfl (by kernel_rfl)) ?_
                simp only [Act.put, List.setIfInBounds_toArray, List.set_cons_zero, List.set_cons_succ]
                refine Fre.made_newcall 92 _ 11 #[.agg (dC x.2 q1 q2).toArray] (by kernel_rfl) (by kernel_rfl) rfl rfl (fun W => by kernel_rfl) (fun W hW => (classes_any W x.2 q1 q2 (HX.out.2.2.alike9 (HC.out.2.2.trans (Below.mono hW HC.out.2.2.size))) hdl).mono (fun e w' ⟨u, h1, h2, h3⟩ => ⟨u, h1, h3, _, h2⟩)) ?_
                simp only [Act.put, List.setIfInBounds_toArray, List.set_cons_zero, List.set_cons_succ]
                refine Fre.made_val (.agg (bv c).toArray) (by kernel_rfl) (by kernel_rfl) (by kernel_rfl) (fun W9 hW9 => exec_load_blk (o := ⟨some 93, _, _, _, _, _⟩) 24 (.tmp 3) rfl w.heap.size rfl 24 _ _ W9 (HC.out.1.below hW9 HC.out.1.lt) Try.underlying24 rfl hszc2) ?_
                simp only [Act.put, List.setIfInBounds_toArray, List.set_cons_zero, List.set_cons_succ]
                refine Fre.made_call1 92 _ (.int .i64 (-1)) 12 (fun u => #[u, .agg (bv c).toArray]) (by kernel_rfl) rfl (by kernel_rfl) (by kernel_rfl) (fun u W => by kernel_rfl) (fun u W hW hu => ?hc94) ?_
                case hc94 =>
                  have h := place_any W _ u (hu.at_ (cls_ok HX.out.2.2.okn)) c hc
                  rw [HP.out] at h
                  exact h
                simp only [Act.put, List.setIfInBounds_toArray, List.set_cons_zero, List.set_cons_succ]
                refine Fre.made_val (.bool false) (by kernel_rfl) (by kernel_rfl) (by kernel_rfl) (fun W9 hW9 => ?hs5) ?_
                case hs5 =>
                  go_simp
                simp only [Act.put, List.setIfInBounds_toArray, List.set_cons_zero, List.set_cons_succ]
                refine Fre.made_val (.slice Au us.length cu) (by kernel_rfl) (by kernel_rfl) (by kernel_rfl) (fun _ _ => by kernel_rfl) ?_
                simp only [Act.put, List.setIfInBounds_toArray, List.set_cons_zero, List.set_cons_succ]
                refine Fre.made_val (.slice (some ⟨b, off, none⟩) l.length cap) (by kernel_rfl) (by kernel_rfl) (by kernel_rfl) (fun _ _ => by kernel_rfl) ?_
                simp only [Act.put, List.setIfInBounds_toArray, List.set_cons_zero, List.set_cons_succ]
                refine Fre.made_val (.int .i64 (j : Int)) (by kernel_rfl) (by kernel_rfl) (by kernel_rfl) (fun _ _ => by kernel_rfl) ?_
                simp only [Act.put, List.setIfInBounds_toArray, List.set_cons_zero, List.set_cons_succ]
                refine Fre.made_val (.pointer (some ⟨b, off + j * 23, none⟩)) (by kernel_rfl) (by kernel_rfl) (by kernel_rfl) (fun W9 hW9 => exec_idxO (o := ⟨some 99, _, _, _, _, _⟩) 22 30 (.tmp 97) (.tmp 98) rfl b off l.length cap j rfl rfl hj2 23 Try.underlying22 sz_itm W9) ?_
                simp only [Act.put, List.setIfInBounds_toArray, List.set_cons_zero, List.set_cons_succ]
                refine Fre.made_val (.pointer (some ⟨b, off + j * 23, none⟩)) (by kernel_rfl) (by kernel_rfl) (by kernel_rfl) (fun _ _ => by kernel_rfl) ?_
                simp only [Act.put, List.setIfInBounds_toArray, List.set_cons_zero, List.set_cons_succ]
                refine Fre.made_val (.agg (bv x.1).toArray) (by kernel_rfl) (by kernel_rfl) (by kernel_rfl) (fun W9 hW9 => exec_load_mid (o := ⟨some 101, _, _, _, _, _⟩) 24 (.tmp 100) rfl b (off + j * 23) rfl (bv x.1) _ W9 (rangeAt_same (item_cls9 HX.out.1) (Below.block hW9 _ hbw)) Try.underlying24 rfl hszx) ?_
                simp only [Act.put, List.setIfInBounds_toArray, List.set_cons_zero, List.set_cons_succ]
                refine Fre.made_call (.int .i64 (-1)) 12 #[.slice Au us.length cu, .agg (bv x.1).toArray] (by kernel_rfl) (by kernel_rfl) (by kernel_rfl) (fun W => by kernel_rfl) (fun W hW => ?hc102) ?_
                case hc102 =>
                  have hu : OwnHs us (.slice Au us.length cu) W := ⟨_, owned_keepN HC.out.2.1 fun g _ hl9 => Below.block hW g hl9⟩
                  have h := place_any W _ _ (hu.at_ (by rw [HUS.out]; exact usersP_ok HOK.out c)) x.1 HXO.out
                  rw [HQ.out] at h
                  exact h
                simp only [Act.put, List.setIfInBounds_toArray, List.set_cons_zero, List.set_cons_succ]
                refine Fre.made_val (.bool false) (by kernel_rfl) (by kernel_rfl) (by kernel_rfl) (fun W9 hW9 => ?hs6) ?_
                case hs6 =>
                  go_simp
                simp only [Act.put, List.setIfInBounds_toArray, List.set_cons_zero, List.set_cons_succ]
                refine Fre.made_val (.bool false) (by kernel_rfl) (by kernel_rfl) (by kernel_rfl) (fun _ _ => by kernel_rfl) ?_
                simp only [Act.put, List.setIfInBounds_toArray, List.set_cons_zero, List.set_cons_succ]
                intro wx hx
                have HY := hide (And.intro (HC.out.1.below hx HC.out.1.lt) (And.intro (owned_keepN HC.out.2.1 fun g _ hl9 => Below.block hx g hl9) (HC.out.2.2.trans (Below.mono hx HC.out.2.2.size))))
                clear hx
                dsimp only [Fre.ended, List.drop]
                rintro u92 _
                go_wp2_with fail
                go_roundw
                case rel => exact ⟨j + 1, by omega, by go_num, HY.out⟩
                case measure => simp [intOf]; omega
            · obtain rfl : j = l.length := by omega
              go_wp2_with fail
              go_ret
              exact ⟨rfl, HC.out.2.2⟩
  · clear hgr
    go_wp2_with fail
    go_ret
    exact ⟨rfl, H3.out.2⟩
end Go.Proofs.Ytkiaofmngnmdhaa
end
section
namespace Go.Proofs.Ytkiaofmngnmdhaa
open Go Go.RowKit Go.Maps
set_option maxRecDepth 100000
section
variable {H : Type} [DecidableEq H]
/-- what is so of each one that is needed -/
theorem part_plain {l : List (Dr.It H)} (hr : Dr.Right l) {c z : H} {i : Nat} (hz : (Dr.needsP l c)[i]? = some z) : ∃ (n : Nat) (y : Dr.It H), l[n]? = some y ∧ y.cls = z ∧ (∀ d ∈ y.ins, (∃ p : Nat, placeH (Dr.needsP l c) d = (p : Int) ∧ p < i) ∧ d ∈ Dr.css l ∧ Dr.depthP l d < Dr.depthP l z) ∧ (Dr.needsP l z).length ≤ i + 1 ∧ ∀ d ∈ Dr.needsP l z, d ∈ Dr.needsP l c := by
  obtain ⟨n, y, hy, hm, h1, h2, _⟩ := Dr.needsP_at hr (c := c) i (List.getElem?_eq_some_iff.1 hz).1
  rw [hz] at h1
  injection h1 with h1
  subst h1
  have hsub := Dr.needs_sub hr hy hm
  rw [h2] at hsub
  refine ⟨n, y, hy, rfl, fun d hd => ?_, hsub.2, hsub.1⟩
  have ha := Dr.needs_ahead hr hy hm hd
  obtain ⟨p, hp, e, _⟩ := placeH_mem ha.2
  have hat := (Dr.out_at hr (Dr.needP_len l ((Dr.css l).idxOf c)) hy hm).2
  rw [h2] at hat
  refine ⟨⟨p, hp, ?_⟩, needs_css ha.2, Dr.depth_lt hr hy hd⟩
  have h3 := ha.1
  rw [← e] at h3
  have h4 : (Dr.needsP l c).idxOf y.cls = i := hat
  omega
end
theorem depth_known {l : List Itm} (hr : Dr.rightP (l.map itP) = true) {h : Hsh} (hm : h ∈ Dr.css (l.map itP)) : depthR l h = Dr.depthP (l.map itP) h := by
  unfold depthR
  rw [hr, css_known hm]
  rfl
structure PartOk (l : List Itm) (all : List Hsh) (i : Nat) (z : Hsh) : Prop where
  ok : okH z
  is : (l.find? fun y => decide (y.1 = z)).isSome = true
  cls : ∀ d ∈ clsP (findD l z).2.1, okH d ∧ (∃ p : Nat, placeH all d = (p : Int) ∧ p < i) ∧ depthR l d < depthR l z
  e : needsE l z = 0
  len : (needsL l z).length ≤ i + 1
  used : i + 1 < all.length → usedP l all z = true
  sub : ∀ h ∈ needsL l z, h ∈ all
theorem part_ok {l : List Itm} (hr : Dr.rightP (l.map itP) = true) (hok : ∀ x ∈ l, okH x.1) {c z : Hsh} (hc : c ∈ Dr.css (l.map itP)) {all : List Hsh} (ha : all = needsL l c) {i : Nat} (hz : all[i]? = some z) : PartOk l all i z := by
  have hR := (Dr.rightP_iff _).1 hr
  have e0 := (needs_known hr hc).2
  rw [e0] at ha
  subst ha
  obtain ⟨n, y, hy, h1, h2, h3, h4⟩ := part_plain hR hz
  have hym := List.mem_of_getElem? hy
  obtain ⟨x, hx, rfl⟩ := List.mem_map.1 hym
  have hzx : x.1 = z := h1
  subst hzx
  have hcs : x.1 ∈ Dr.css (l.map itP) := List.mem_map.2 ⟨itP x, hym, rfl⟩
  have hn := needs_known hr hcs
  refine ⟨hok x hx, by rw [find_some hR hx]; rfl, fun d hd => ?_, hn.1, by rw [hn.2]; exact h3, fun hi => ?_, by rw [hn.2]; exact h4⟩
  · rw [findD_at hR hx] at hd
    obtain ⟨hp, hdc, hdp⟩ := h2 d hd
    obtain ⟨x2, hx2, rfl⟩ := css_mem hdc
    exact ⟨hok x2 hx2, hp, by rw [depth_known hr hdc, depth_known hr hcs]; exact hdp⟩
  · obtain ⟨j, y2, hj, hy2, hin⟩ := Dr.needs_used hR hc hi hz
    obtain ⟨x2, hx2, rfl⟩ := List.mem_map.1 hy2
    refine usedP_yes (j := j) (z := x2.1) hj ?_
    rw [findD_at hR hx2]
    exact hin
theorem find_known {l : List Itm} (c : Hsh) : (l.find? fun x => decide (x.1 = c)).isSome = (mget (kmap l) c).isSome := by
  cases e : (mget (kmap l) c).isSome with
  | true =>
    obtain ⟨x, hx, rfl⟩ := css_mem (known_mem e)
    rw [List.find?_isSome]
    exact ⟨x, hx, by simp⟩
  | false =>
    have h := known_not e
    cases e2 : (l.find? fun x => decide (x.1 = c)) with
    | none => rfl
    | some x =>
      refine absurd ?_ h
      have h1 := List.find?_some e2
      have h2 : x.1 = c := by simpa using h1
      rw [← h2]
      exact List.mem_map.2 ⟨itP x, List.mem_map.2 ⟨x, List.mem_of_find?_eq_some e2, rfl⟩, rfl⟩
theorem last_is {l : List Itm} (hr : Dr.rightP (l.map itP) = true) {c : Hsh} (hc : c ∈ Dr.css (l.map itP)) {all : List Hsh} (ha : all = needsL l c) : 0 < all.length ∧ all[all.length - 1]? = some c := by
  rw [ha, (needs_known hr hc).2]
  exact Dr.needs_last ((Dr.rightP_iff _).1 hr) hc
theorem more_same {l : List Itm} {x : Itm} (hr : Dr.rightP (l.map itP) = true) (hr2 : Dr.rightP ((l ++ [x]).map itP) = true) {c : Hsh} (hc : c ∈ Dr.css (l.map itP)) : needsE (l ++ [x]) c = 0 ∧ needsL (l ++ [x]) c = needsL l c ∧ depthR (l ++ [x]) c = depthR l c := by
  have e : (l ++ [x]).map itP = l.map itP ++ [itP x] := by simp
  have hc2 : c ∈ Dr.css ((l ++ [x]).map itP) := by
    rw [e, Dr.css_app]
    exact List.mem_append_left _ hc
  have h1 := needs_known hr2 hc2
  have h2 := Dr.needs_more ((Dr.rightP_iff _).1 hr) (itP x) hc
  rw [h1.1, h1.2, (needs_known hr hc).2, depth_known hr2 hc2, depth_known hr hc, e, h2.1, h2.2]
  exact ⟨rfl, rfl, rfl⟩
/-! the items, one more at their end -/
theorem info_itmI : (Try.prog.info? 30).map (fun i => (i.zero, i.size, i.bytes)) = some (some (.agg zcT), 23, 88) := by kernel_rfl
def EmptyI (B : Nat) (u : Value) (w : World) : Prop := ∃ r, u = .slice (some ⟨r, 0, none⟩) 0 0 ∧ B ≤ r ∧ Blk w r 30 #[]
def RowI (B n : Nat) (cells : List (List Value)) (u : Value) (w : World) : Prop := w.ownsRow B 30 23 u n (cells.flatMap id)
def OneI (cs : List Value) (u : Value) (w : World) : Prop := ∃ r, u = .slice (some ⟨r, 0, none⟩) 1 1 ∧ Blk w r 30 cs.toArray
theorem emptyI_ok (B : Nat) : Fre.MadeOk Bel (EmptyI B) := ⟨fun u w w' ⟨r, h1, h2, h3⟩ hx => ⟨r, h1, h2, h3.below hx h3.lt⟩⟩
theorem rowI_ok (B n : Nat) (cells : List (List Value)) : Fre.MadeOk Bel (RowI B n cells) := ⟨fun u w w' h hx => owned_keepN h fun g _ hl => Below.block hx g hl⟩
theorem oneI_ok (cs : List Value) : Fre.MadeOk Bel (OneI cs) := ⟨fun u w w' ⟨r, h1, h2⟩ hx => ⟨r, h1, h2.below hx h2.lt⟩⟩
theorem emptyI_new {ρ : Operand → Value} {o : Oper} (ho : o.op = .buildSlice 22 0 #[]) {B : Nat} (W : World) (hB : B ≤ W.heap.size) :
    ∃ u w', (execOp ρ o).run Try.prog W = .ok (.value u) w' ∧ Fre.Ext Bel W w' ∧ EmptyI B u w' := by
  refine ⟨.slice (some ⟨W.heap.size, 0, none⟩) 0 0, W.alloc (.cells #[] 30), ?_, (Below.refl _ W).alloc (Nat.le_refl _) _, _, rfl, hB, Blk.new _ _ _⟩
  unfold execOp
  simp only [ho]
  kernel_rfl
theorem oneI_new {ρ : Operand → Value} {o : Oper} (x : Operand) (ho : o.op = .buildSlice 22 1 #[(0, x)]) {y : Itm} {v1 v2 : Value} (hy : okH y.1) (hx : ρ x = .agg (tC y v1 v2).toArray) (W : World) :
    ∃ u w', (execOp ρ o).run Try.prog W = .ok (.value u) w' ∧ Fre.Ext Bel W w' ∧ OneI (tC y v1 v2) u w' :=
  ⟨_, _, exec_buildSliceP (v := .agg (tC y v1 v2).toArray) 22 x ho hx Try.underlying22 (e := 30) (n := 23) sz_itm (by omega) (by omega) (z := .agg zcT) (fun w => by kernel_rfl) (by rw [Value.cells, List.size_toArray]; exact tC_len hy) W, (Below.refl _ W).alloc (Nat.le_refl _) _, _, rfl, Blk.new _ _ _⟩
theorem app_firstI {B : Nat} {u : Value} {W : World} {A : Option Addr} {m cp : Nat} {news : List Value} (h : EmptyI B u W) (hB : B ≤ W.heap.size) (hs : SrcN W 23 A m cp news) (h63 : m ≤ maxLen) (hby : m * 88 ≤ 140737488355328) :
    ∃ v' w', (Builtin.append_ #[22, 22] 22 #[u, .slice A m cp]).run Try.prog W = .ok v' w' ∧ Fre.Ext Bel W w' ∧ w'.ownsRow B 30 23 v' m news := by
  obtain ⟨r, rfl, hr, hb⟩ := h
  have hown : W.ownsRow B 30 23 (.slice (some ⟨r, 0, none⟩) 0 0) 0 [] := ⟨rfl, .inr ⟨r, 0, #[], rfl, hr, hb, Nat.le_refl _, Nat.zero_le _, rfl, rfl⟩⟩
  obtain ⟨i, hi, hz0, hz1, hz2⟩ := info_parts info_itmI
  rcases Nat.eq_zero_or_pos m with h0 | h0
  · subst h0
    have hn : news = [] := List.eq_nil_of_length_eq_zero (by rw [hs.len])
    subst hn
    cases A with
    | none =>
      obtain ⟨_, rfl⟩ := hs.none_ rfl
      exact ⟨_, W, run_append_owned_none (P := Try.prog) (w := W) B 22 22 30 i 23 Try.underlying22 hi _ 0 [] hown, (Below.refl _ _), hown⟩
    | some ad =>
      have h := run_append_room_cells (P := Try.prog) (w := W) 22 22 30 i Try.underlying22 hi r 0 0 0 ad 0 cp [] (by simp) (fun j u hu => by simp at hu) (fun u hu => by cases hu) (Nat.le_refl _) (fun j hj => by simp at hj) (fun j hj => by simp at hj)
      exact ⟨_, _, h, (Below.refl _ _), hown⟩
  · cases A with
    | none => have := (hs.none_ rfl).1; omega
    | some ad =>
      obtain ⟨v', w', k1, k2, k3, k4⟩ := run_appG (P := Try.prog) (w := W) B 22 22 30 i _ 23 88 Try.underlying22 hi hz0 hz1 hz2 rfl (by omega) _ 0 [] hown ad m cp news hs.len (hs.cells ad rfl) hs.one h0 (by simpa using h63) (by simpa using hby) hB
      refine ⟨v', w', k1, ?_, by simpa using k2⟩
      rcases k4 with ⟨g, cap, q1, q2⟩ | ⟨_, h⟩
      · injection q1 with _ _ q1
        subst q1 q2
        rcases owned_formN k2 with ⟨h, _⟩ | ⟨g', cap', cur, h, _, h2, _⟩
        · cases h
        · injection h with _ h3 h4
          omega
      · exact h
theorem rowI_new {ρ : Operand → Value} {o : Oper} (x y : Operand) (ho : o.op = .call { callee := .builtin .append, args := #[x, y], argTypes := #[22, 22] }) (hty : o.type = 22) {B : Nat} {u : Value} {W : World} {A : Option Addr} {m cp : Nat} {cells : List (List Value)} (hx : ρ x = u) (hy : ρ y = .slice A m cp) (h : EmptyI B u W) (hB : B ≤ W.heap.size) (hs : SrcN W 23 A m cp (cells.flatMap id)) (h63 : m ≤ maxLen) (hby : m * 88 ≤ 140737488355328) :
    ∃ u' w', (execOp ρ o).run Try.prog W = .ok (.value u') w' ∧ Fre.Ext Bel W w' ∧ RowI B m cells u' w' := by
  obtain ⟨v', w', h1, h2, h3⟩ := app_firstI h hB hs h63 hby
  refine ⟨v', w', ?_, h2, h3⟩
  unfold execOp
  simp only [ho, hty, resolve, invoke, builtin, Sem.run_bind, Sem.run_pure, Result.andThen_ok, List.map_toArray, List.map_cons, List.map_nil, hx, hy, h1]
/-- the cells of items -/
structure CellsI (w : World) (l : List Itm) (A : Option Addr) (cap : Nat) (cells : List (List Value)) : Prop where
  len : cells.length = l.length
  at_ : ∀ (j : Nat) x cs, l[j]? = some x → cells[j]? = some cs → itmLay.At w w.heap.size cs x
  src : SrcN w 23 A l.length cap (cells.flatMap id)
theorem cellsI_of {w : World} {l : List Itm} {A : Option Addr} {cap : Nat} (h : itmsLay.At w w.heap.size [.slice A l.length cap] l) : ∃ cells, CellsI w l A cap cells := by
  obtain ⟨A', cap', e, h1, h2, h3, hA⟩ := slice_open h
  injection e with e1 e2 e3
  subst e1 e3
  rcases Nat.eq_zero_or_pos l.length with h0 | h0
  · obtain rfl := List.eq_nil_of_length_eq_zero h0
    exact ⟨[], rfl, (fun j x cs hx => by cases hx), rfl, (fun e => ⟨rfl, h3 e⟩), (fun u hu => by cases hu), fun ad _ j u hu => by simp at hu⟩
  · obtain ⟨b, off, rfl, hb, hE⟩ := hA h0
    obtain ⟨cf, hcf⟩ := elems_fun hE
    have hcl : ∀ cs ∈ (List.range l.length).map cf, (id cs).length = 23 := fun cs hcs => by
      obtain ⟨j, hj, rfl⟩ := List.mem_map.1 hcs
      have hjl := List.mem_range.1 hj
      exact itmLay.len (hcf j _ (List.getElem?_eq_getElem hjl)).2
    refine ⟨(List.range l.length).map cf, by simp, fun j x cs hx hcs => ?_, by rw [flatC_length _ hcl]; simp, (fun e => by cases e), fun u hu => ?_, fun ad had j u hu => ?_⟩
    · have hjl := (List.getElem?_eq_some_iff.1 hx).1
      have e : cs = cf j := by simpa [hjl] using hcs.symm
      rw [e]
      exact (hcf j x hx).2
    · obtain ⟨cs, hcs, hu⟩ := List.mem_flatMap.1 hu
      obtain ⟨j, hj, rfl⟩ := List.mem_map.1 hcs
      have hjl := List.mem_range.1 hj
      exact itmLay.one (hcf j _ (List.getElem?_eq_getElem hjl)).2 u hu
    · obtain ⟨cs, h6, h7⟩ := flatC_get (by decide) _ hcl j u hu
      injection had with had
      subst had
      have hjl : j / 23 < l.length := by
        have := (List.getElem?_eq_some_iff.1 h6).1
        simpa using this
      have e : cs = cf (j / 23) := by simpa [hjl] using h6.symm
      subst e
      have h8 := (hcf (j / 23) _ (List.getElem?_eq_getElem hjl)).1 _ u h7
      rw [Addr.add_mid]
      have h8 : w.cell? ⟨b, off + j / 23 * 23 + j % 23, none⟩ = some u := h8
      rwa [Nat.add_assoc, show j / 23 * 23 + j % 23 = j by omega] at h8
/-- a row of one's own, its things' cells known each -/
theorem own_cells9 {α : Type} {t e : TypeId} {L : Lay α} (h0 : 0 < L.n) {w : World} {R : Nat} {v : Value} {l : List α} {cells : List (List Value)} (hown : w.ownsRow R e L.n v l.length (cells.flatMap id)) (B : Nat) (hB : w.heap.size ≤ B) (hcl : cells.length = l.length) (hat : ∀ (j : Nat) x cs, l[j]? = some x → cells[j]? = some cs → L.At w B cs x) : (Lay.slice t L).At w B [v] l := by
  have hlen : ∀ cs ∈ cells, (id cs).length = L.n := fun cs hcs => by
    obtain ⟨j, hj⟩ := List.getElem?_of_mem hcs
    obtain ⟨x, hx⟩ : ∃ x, l[j]? = some x := ⟨_, List.getElem?_eq_getElem (by have := (List.getElem?_eq_some_iff.1 hj).1; omega)⟩
    exact L.len (hat j x cs hx hj)
  rcases owned_formN hown with ⟨rfl, hl, _⟩ | ⟨g, cap, cur, rfl, hbg, hnc, hcm, hg, hcs, htake, _⟩
  · obtain rfl := List.eq_nil_of_length_eq_zero hl
    exact ⟨none, 0, rfl, Nat.le_refl _, Nat.zero_le _, (fun _ => rfl), fun h => absurd h (by simp)⟩
  · refine ⟨_, cap, rfl, hnc, hcm, (fun h => by cases h), fun _ => ⟨g, 0, rfl, by have := hg.lt; omega, fun j x hj => ?_⟩⟩
    obtain ⟨cs, hc⟩ : ∃ cs, cells[j]? = some cs := ⟨_, List.getElem?_eq_getElem (by have := (List.getElem?_eq_some_iff.1 hj).1; omega)⟩
    refine ⟨cs, fun i u hu => ?_, hat j x cs hj hc⟩
    have h2 := flatC_at (f := id) h0 cells hlen j cs hc i u hu
    rw [hg.cell, ← Array.getElem?_toList, Nat.zero_add]
    rw [← htake] at h2
    have hlt : j * L.n + i < l.length * L.n := by
      have := (List.getElem?_eq_some_iff.1 h2).1
      rw [List.length_take] at this
      omega
    rwa [List.getElem?_take_of_lt hlt] at h2
theorem longer_at {w W : World} {B : Nat} {l : List Itm} {A : Option Addr} {cap : Nat} {x : Itm} {v1 v2 u : Value} {cells : List (List Value)} (hc : CellsI w l A cap cells) (hx : okH x.1) (hd : DrvAt w w.heap.size x.2 v1 v2) (hb : Below w.heap.size w W) (hown : W.ownsRow B 30 23 u (l.length + 1) (cells.flatMap id ++ tC x v1 v2)) : itmsLay.At W W.heap.size [u] (l ++ [x]) := by
  refine own_cells9 (t := 22) (L := itmLay) (cells := cells ++ [tC x v1 v2]) (by decide) (by have h : W.ownsRow B 30 23 u (l ++ [x]).length ((cells ++ [tC x v1 v2]).flatMap id) := (by simpa using hown); exact h) W.heap.size (Nat.le_refl _) (by simp [hc.len]) fun j y cs hy hcs => ?_
  rcases Nat.lt_or_ge j l.length with hj | hj
  · rw [List.getElem?_append_left hj] at hy
    rw [List.getElem?_append_left (by rw [hc.len]; exact hj)] at hcs
    exact itmLay.widen (itmLay.alike (hc.at_ j y cs hy hcs) fun g hg => hb.block g hg) hb.size
  · rw [List.getElem?_append_right hj] at hy
    rw [List.getElem?_append_right (by rw [hc.len]; exact hj), hc.len] at hcs
    have hj0 : j - l.length = 0 := by
      have := (List.getElem?_eq_some_iff.1 hy).1
      simp at this
      omega
    rw [hj0] at hy hcs
    injection hy with hy
    injection hcs with hcs
    subst hy hcs
    exact itmLay_at.2 ⟨v1, v2, rfl, hx, hd.alike9 hb⟩
end Go.Proofs.Ytkiaofmngnmdhaa
end
section
namespace Go.Proofs.Ytkiaofmngnmdhaa
open Go Go.RowKit Go.Maps
set_option maxRecDepth 100000
/-- what stays while the law goes on -/
structure NdSt (w : World) (g5 : Nat) (c : Hsh) (mc : List Value) (B : Nat) (v : Value) (all : List Hsh) (W : World) : Prop where
  c : Blk W w.heap.size 24 (bv c).toArray
  m : Blk W g5 30 mc.toArray
  own : W.ownsRow B 24 20 v all.length (all.flatMap bv)
  b : Below w.heap.size w W
theorem NdSt.grow {w W W' : World} {g5 : Nat} {c : Hsh} {mc : List Value} {B : Nat} {v : Value} {all : List Hsh} (h : NdSt w g5 c mc B v all W) (hb : Below W.heap.size W W') : NdSt w g5 c mc B v all W' :=
  ⟨h.c.below hb h.c.lt, h.m.below hb h.m.lt, owned_keepN h.own fun g _ hl => hb.block g hl, h.b.trans (Below.mono hb h.b.size)⟩
theorem OwnHs.grow {l : List Hsh} {u : Value} {w w' : World} (h : OwnHs l u w) (hb : Below w.heap.size w w') : OwnHs l u w' := by
  obtain ⟨B, h⟩ := h
  exact ⟨B, owned_keepN h fun g _ hl => hb.block g hl⟩
theorem hash_at {W : World} {B g n cap k : Nat} {l : List Hsh} {z : Hsh} (h : W.ownsRow B 24 20 (.slice (some ⟨g, 0, none⟩) n cap) l.length (l.flatMap bv)) (hok : ∀ h ∈ l, okH h) (hz : l[k]? = some z) : W.rangeAt g (k * 20) (bv z) := by
  obtain ⟨g', cap', e⟩ := owned_placeN h (by have := (List.getElem?_eq_some_iff.1 hz).1; omega)
  simp only [Value.slice.injEq, Option.some.injEq, Addr.mk.injEq, and_true] at e
  obtain ⟨rfl, rfl, rfl⟩ := e
  exact own_range h (k * 20) 20 _ (flat_hash hok hz)
theorem hs_at {W : World} {l : List Hsh} {g n cap k : Nat} {z : Hsh} (h : OwnHs l (.slice (some ⟨g, 0, none⟩) n cap) W) (hok : ∀ h ∈ l, okH h) (hz : l[k]? = some z) : W.rangeAt g (k * 20) (bv z) := by
  obtain ⟨B, h⟩ := h
  exact hash_at h hok hz
theorem hs_place {W : World} {l : List Hsh} {u : Value} (h : OwnHs l u W) (h0 : 0 < l.length) : ∃ g cap, u = .slice (some ⟨g, 0, none⟩) l.length cap := by
  obtain ⟨B, h⟩ := h
  exact owned_placeN h h0
theorem bin_neq_self (c : Hsh) (hc : okH c) (w : World) : (binOp .neq 24 (.agg (bv c).toArray) (.agg (bv c).toArray)).run Try.prog w = .ok (.bool false) w := by
  have h := bin_neq_hash c c hc hc w
  rw [decide_eq_true rfl] at h
  exact h
set_option maxHeartbeats 16000000 in
theorem drvNeeds_any (w : World) (l : List Itm) (A : Option Addr) (cap : Nat) (h : itmsLay.At w w.heap.size [.slice A l.length cap] l) (hl9 : ∀ x ∈ l, LightD x.2) (hby : l.length * 88 ≤ 140737488351232) (c : Hsh) (hc : okH c) (mo : Itm) (v1 v2 : Value) (hmo : okH mo.1) (hmd : DrvAt w w.heap.size mo.2 v1 v2) (hml : LightD mo.2) :
    Calls Try.prog 3 #[.slice A l.length cap, .agg (bv c).toArray, .agg (tC mo v1 v2).toArray] w fun e w' => e = .returned (.bool true) ∧ Below w.heap.size w w' := by
  obtain ⟨iit, hih, hq0, hq1, hq2⟩ := info_parts info_itmI
  have HIT := hide (And.intro hih (And.intro hq0 (And.intro hq1 hq2)))
  clear hih hq0 hq1 hq2
  have hone : v1.oneCell' = true ∧ v2.oneCell' = true := by
    obtain ⟨B1, k1, rfl, _⟩ := slice_open hmd.ins
    obtain ⟨B2, k2, rfl, _⟩ := slice_open hmd.rcp
    exact ⟨rfl, rfl⟩
  have hszc2 := hszD hc
  have hszc : (Try.prog.info? 24).map (·.size) = some (bv c).length := by simpa using hszc2
  have hszm2 : (Try.prog.info? 30).map (·.size) = some (tC mo v1 v2).toArray.size := by rw [show (tC mo v1 v2).toArray.size = 23 by rw [List.size_toArray]; exact tC_len hmo]; kernel_rfl
  obtain ⟨cells, hci⟩ := cellsI_of h
  have hm63 : l.length ≤ maxLen := by simp only [maxLen]; omega
  have hby8 : l.length * 88 ≤ 140737488355328 := by omega
  have HCI := hide hci
  have HL := hide h
  have HOK := hide (itms_ok h)
  have hl2' : ∀ x ∈ l ++ [mo], LightD x.2 := fun x hx => by
    rcases List.mem_append.1 hx with hx | hx
    · exact hl9 x hx
    · rw [List.mem_singleton.1 hx]; exact hml
  obtain ⟨l2, hl2⟩ : ∃ l2, l2 = l ++ [mo] := ⟨_, rfl⟩
  rw [← hl2] at hl2'
  have HL9 := hide hl2'
  have HL2 := hide hl2
  have HMO := hide (And.intro hmd (tC_one mo hone.1 hone.2))
  clear h hl9 hl2' hl2 hmd hone hci hml
  go_enter Try.func3, Try.ntmps3
  go_wp2_with (first | ((with_reducible refine at_slot 4 ?_); (refine wpList_boxA (o := ⟨some 4, _, _, _, _, _⟩) rfl 24 (.tmp 1) rfl (bv c).toArray rfl ?_); intro w1 hn; have H1 := hide hn; clear hn; simp only [Act.put, List.setIfInBounds_toArray, List.set_cons_zero, List.set_cons_succ]) | ((with_reducible refine at_slot 5 ?_); (refine wpList_boxA (o := ⟨some 5, _, _, _, _, _⟩) rfl 30 (.tmp 2) rfl (tC mo v1 v2).toArray rfl ?_); intro w2 hn; have H2 := hide (And.intro (H1.out.blk.below hn.below H1.out.blk.lt) (And.intro hn.blk (H1.out.below.trans (Below.mono hn.below H1.out.below.size)))); clear hn; simp only [Act.put, List.setIfInBounds_toArray, List.set_cons_zero, List.set_cons_succ]))
  refine (awake_any w2).mono ?_
  rintro e w3 ⟨rfl, hb⟩
  dsimp only
  have S3 : Hid (NdSt w w1.heap.size c (tC mo v1 v2) 0 (.slice none 0 0) [] w3) := hide ⟨H2.out.1.below hb H2.out.1.lt, H2.out.2.1.below hb H2.out.2.1.lt, World.ownsRow_nil _ _ _ _, H2.out.2.2.trans (Below.mono hb H2.out.2.2.size)⟩
  clear hb
  go_wp2_with fail
  refine Fre.wp_made (X := Bel) 5 [(25, EmptyI w3.heap.size), (27, RowI w3.heap.size l.length cells), (29, OneI (tC mo v1 v2))] (by kernel_rfl) (by kernel_rfl) (by intro p hp; simp only [List.mem_cons, List.not_mem_nil, or_false] at hp; rcases hp with rfl | rfl | rfl; exact emptyI_ok _; exact rowI_ok _ _ _; exact oneI_ok _) (by simp) (by simp) ?_
  simp only [List.take_succ_cons, List.take_zero, List.drop_succ_cons, List.drop_zero]
  refine Fre.made_new 25 _ (by kernel_rfl) (by kernel_rfl) rfl rfl (fun W9 hW9 => emptyI_new (o := ⟨some 25, _, _, _, _, _⟩) rfl W9 (Below.size hW9)) ?_
  simp only [Act.put, List.setIfInBounds_toArray, List.set_cons_zero, List.set_cons_succ]
  refine Fre.made_val (.slice A l.length cap) (by kernel_rfl) (by kernel_rfl) (by kernel_rfl) (fun _ _ => by kernel_rfl) ?_
  simp only [Act.put, List.setIfInBounds_toArray, List.set_cons_zero, List.set_cons_succ]
  refine Fre.made_new1 25 _ 27 _ (by kernel_rfl) rfl (by kernel_rfl) rfl rfl (fun u9 W9 hW9 hu9 => rowI_new (o := ⟨some 27, _, _, _, _, _⟩) (.tmp 25) (.tmp 26) rfl rfl rfl rfl hu9 (Below.size hW9) (HCI.out.src.below (S3.out.grow hW9).b) hm63 hby8) ?_
  simp only [Act.put, List.setIfInBounds_toArray, List.set_cons_zero, List.set_cons_succ]
  refine Fre.made_val (.agg (tC mo v1 v2).toArray) (by kernel_rfl) (by kernel_rfl) (by kernel_rfl) (fun W9 hW9 => exec_load_blk (o := ⟨some 28, _, _, _, _, _⟩) 30 (.tmp 5) rfl w1.heap.size rfl 30 _ _ W9 (S3.out.grow hW9).m Try.underlying30 rfl hszm2) ?_
  simp only [Act.put, List.setIfInBounds_toArray, List.set_cons_zero, List.set_cons_succ]
  refine Fre.made_new 29 _ (by kernel_rfl) (by kernel_rfl) rfl rfl (fun W9 hW9 => oneI_new (o := ⟨some 29, _, _, _, _, _⟩) (.tmp 28) rfl hmo rfl W9) ?_
  simp only [Act.put, List.setIfInBounds_toArray, List.set_cons_zero, List.set_cons_succ]
  intro wa1 hxa
  dsimp only [Fre.ended, List.drop]
  rintro u25 _ u27 ho1 u29 ⟨r1, rfl, hkr⟩
  have HA1 := hide (And.intro ho1 (And.intro (box_srcN (n := 23) (m := 1) hkr (tC_len hmo) HMO.out.2) (And.intro (show Below w3.heap.size w3 wa1 from hxa) (S3.out.grow hxa))))
  clear ho1 hkr hxa
  go_wp2_with (at_builtin; ((with_reducible refine at_slot 30 ?_); refine wpList_appS (o := ⟨some 30, _, _, _, _, _⟩) rfl _ _ 22 rfl w3.heap.size 30 iit _ 23 88 Try.underlying22 HIT.out.1 HIT.out.2.1 HIT.out.2.2.1 HIT.out.2.2.2 rfl (by decide) _ (l.length) (cells.flatMap id) HA1.out.1 (some ⟨r1, 0, none⟩) 1 1 (tC mo v1 v2) HA1.out.2.1 ?hm1 ?hb1 ?hz1 rfl rfl ?_))
  case hm1 => simp only [maxLen]; omega
  case hb1 => omega
  case hz1 => exact HA1.out.2.2.1.size
  intro ub wb1 ownb grb _
  have hbb : Below w3.heap.size w3 wb1 := HA1.out.2.2.1.grown grb HA1.out.2.2.1.size (fun k hk => (owned_ltN HA1.out.1 hk).1)
  have hat := longer_at (B := w3.heap.size) (u := ub) HCI.out hmo HMO.out.1 (S3.out.grow hbb).b (by simpa using ownb)
  rw [← HL2.out] at hat
  have SB1 := hide (S3.out.grow hbb)
  obtain ⟨Ab1, cb1, rfl, _⟩ := slice_open hat
  have HT1 := hide hat
  clear hat hbb ownb grb
  go_wp2_with fail
  refine (great_any wb1 l2 Ab1 cb1 HT1.out HL9.out).mono ?_
  rintro e w6 ⟨rfl, hb⟩
  dsimp only
  have S6 := hide (SB1.out.grow hb)
  clear hb
  cases hgr : greatP l2
  · have hsm := great_small hgr
    have hlen2 : l2.length ≤ 3000 := hsm.1
    have hlen : l.length ≤ 3000 := by have := hsm.1; rw [HL2.out, List.length_append] at this; omega
    have hin : ∀ x ∈ l, x ∈ l2 := fun x hx => by rw [HL2.out]; exact List.mem_append_left _ hx
    have hq1 : ∀ x ∈ l, x.2.2.1.length ≤ 1000000 := fun x hx => by have := (hsm.2 x (hin x hx)).1; omega
    have hq2 : ∀ x ∈ l, x.2.2.1.length ≤ 1000000 ∧ x.2.2.2.length ≤ 1000000 := fun x hx => by have := hsm.2 x (hin x hx); omega
    have hq3 : ∀ x ∈ l2, x.2.2.1.length ≤ 1000000 := fun x hx => by have := (hsm.2 x hx).1; omega
    have HSM := hide (And.intro hq1 hq2)
    have HSM2 := hide hq3
    clear hgr hsm hin hq1 hq2 hq3
    go_wp2_with fail
    refine (right_any w6 l A cap (itms_alike HL.out S6.out.b) HSM.out.1).mono ?_
    rintro e w7 ⟨rfl, hb⟩
    dsimp only
    have S7 := hide (S6.out.grow hb)
    clear hb
    cases hrt : Dr.rightP (l.map itP)
    · clear hrt
      go_wp2_with fail
      go_ret
      exact ⟨rfl, S7.out.b⟩
    · have HR := hide (And.intro hrt ((Dr.rightP_iff _).1 hrt))
      clear hrt
      go_wp2_with (first | ((with_reducible refine at_slot 39 ?_); (refine wpList_value (o := ⟨some 39, _, _, _, _, _⟩) rfl (.agg ((bv c).toArray)) w7 (exec_load_blk (o := ⟨some 39, _, _, _, _, _⟩) 24 (.tmp 4) rfl w.heap.size rfl 24 _ _ w7 S7.out.c Try.underlying24 rfl hszc2) ?_)))
      refine (needs_any w7 l A cap (itms_alike HL.out S7.out.b) HSM.out.1 (by omega) c hc).mono ?_
      rintro e w8 ⟨ua, rfl, ho, hb⟩
      obtain ⟨all, hall⟩ : ∃ all, all = needsL l c := ⟨_, rfl⟩
      have haok : ∀ h ∈ all, okH h := by rw [hall]; exact needsL_ok HOK.out c
      have hal9 : all.length ≤ 3000 := by rw [hall]; exact Nat.le_trans (needsL_len c) hlen
      rw [← hall] at ho
      have s8 := S7.out.grow hb
      have S8 : Hid (NdSt w w1.heap.size c (tC mo v1 v2) w7.heap.size (ua) all w8) := hide ⟨s8.c, s8.m, ho, s8.b⟩
      have HALL := hide hall
      have HAOK := hide haok
      obtain ⟨Aa, ca, rfl⟩ := own_form9 ho
      dsimp only
      clear ho hb hall haok s8
      cases hkn : (mget (kmap l) c).isSome
      · have hE : needsE l c = 5 ∧ needsL l c = [] := by unfold needsE needsL; rw [HR.out.1, hkn]; exact ⟨rfl, rfl⟩
        have hD0 : depthR l c = 0 := by unfold depthR; rw [HR.out.1, hkn]; rfl
        have hall0 : all = [] := by rw [HALL.out]; exact hE.2
        rw [hE.1]
        have HD0 := hide hD0
        have HK := hide hkn
        subst hall0
        clear hE hD0 hkn
        go_wp2_with (first | ((with_reducible refine at_slot 45 ?_); (refine wpList_value (o := ⟨some 45, _, _, _, _, _⟩) rfl (.agg ((bv c).toArray)) w8 (exec_load_blk (o := ⟨some 45, _, _, _, _, _⟩) 24 (.tmp 4) rfl w.heap.size rfl 24 _ _ w8 S8.out.c Try.underlying24 rfl hszc2) ?_)))
        refine (find_any w8 l _ (itms_alike HL.out S8.out.b) c hc HSM.out.2).mono ?_
        rintro e w9 ⟨u10, u20, rfl, hod, hb⟩
        obtain ⟨d0, hd⟩ : ∃ d, d = findD l c := ⟨_, rfl⟩
        change OwnDrv w9 w8.heap.size (findD l c) u10 u20 at hod
        rw [← hd] at hod
        dsimp only
        rw [show ((l.find? fun x => decide (x.1 = c)).map (·.2)).getD (⟨#[]⟩, [], []) = d0 from hd.symm, find_known, HK.out]
        have F0 := hide (And.intro hod (And.intro (S8.out.grow hb) hd))
        clear hod hb hd
        go_wp2_with (first | ((with_reducible refine at_slot 9 ?_); (refine wpList_newZ (o := ⟨some 9, _, _, _, _, _⟩) rfl 28 zcD (by kernel_rfl) ?_); intro w10 hn; have N0 := hide hn; clear hn; simp only [Act.put, List.setIfInBounds_toArray, List.set_cons_zero, List.set_cons_succ]) | ((with_reducible refine at_store 9 47 ?_); (with_reducible refine wpList_store_blkA (o := ⟨none, _, _, _, _, _⟩) rfl 28 (.tmp 9) (.tmp 47) rfl w9.heap.size zcD (dC d0 u10 u20).toArray 28 N0.out.blk ?_ ?_ ?_ ?_ ?_ ?_); kernel_rfl; rfl; (exact dC_one F0.out.1); rfl; rfl; intro w11 hk11 hg11; have h8 := N0.out.below.grown hg11 (by have := N0.out.size; omega) (fun b hb => (by have := Option.some.inj hb; omega)); have Q0 := hide (And.intro hk11 (And.intro (F0.out.1.keep fun g hg hl9 => h8.block g hl9) (F0.out.2.1.grow h8))); clear hk11 hg11 h8; simp only [Act.put, List.setIfInBounds_toArray, List.set_cons_zero, List.set_cons_succ]) | ((with_reducible refine at_slot 60 ?_); (refine wpList_value_w (o := ⟨some 60, _, _, _, _, _⟩) (by kernel_rfl) (.agg ((bv c).toArray)) w11 (exec_load_blk (o := ⟨some 60, _, _, _, _, _⟩) 24 (.tmp 4) rfl w.heap.size rfl 24 _ _ w11 Q0.out.2.2.c Try.underlying24 rfl hszc2) ?_)))
        refine (depth_any w11 l A cap (itms_alike HL.out Q0.out.2.2.b) HSM.out.1 (by omega) c hc).mono ?_
        rintro e w12 ⟨rfl, hb⟩
        rw [HD0.out]
        dsimp only
        have S12 := hide (Q0.out.2.2.grow hb)
        clear hb
        go_wp2_with fail
        go_ret
        exact ⟨rfl, S12.out.b⟩
      · have hcs := known_mem hkn
        have hE := (needs_known HR.out.1 hcs).1
        rw [hE]
        have hlast := last_is HR.out.1 hcs HALL.out
        have hN0 := hlast.1
        have hN1 : (0 : Int) < (all.length : Int) := by omega
        have HLA := hide hlast.2
        have HCS := hide hcs
        have HK := hide hkn
        obtain ⟨ga, ca', he⟩ := owned_placeN S8.out.own hN0
        injection he with he1 _ he3
        subst he1 he3
        clear hcs hE hlast hkn
        go_wp2_with (first | ((with_reducible refine at_slot 45 ?_); (refine wpList_value (o := ⟨some 45, _, _, _, _, _⟩) rfl (.agg ((bv c).toArray)) w8 (exec_load_blk (o := ⟨some 45, _, _, _, _, _⟩) 24 (.tmp 4) rfl w.heap.size rfl 24 _ _ w8 S8.out.c Try.underlying24 rfl hszc2) ?_)))
        refine (find_any w8 l _ (itms_alike HL.out S8.out.b) c hc HSM.out.2).mono ?_
        rintro e w9 ⟨u10, u20, rfl, hod, hb⟩
        obtain ⟨d0, hd⟩ : ∃ d, d = findD l c := ⟨_, rfl⟩
        change OwnDrv w9 w8.heap.size (findD l c) u10 u20 at hod
        rw [← hd] at hod
        dsimp only
        rw [show ((l.find? fun x => decide (x.1 = c)).map (·.2)).getD (⟨#[]⟩, [], []) = d0 from hd.symm, find_known, HK.out]
        have F0 := hide (And.intro hod (And.intro (S8.out.grow hb) hd))
        clear hod hb hd
        go_wp2_with (first | ((with_reducible refine at_slot 9 ?_); (refine wpList_newZ (o := ⟨some 9, _, _, _, _, _⟩) rfl 28 zcD (by kernel_rfl) ?_); intro w10 hn; have N0 := hide hn; clear hn; simp only [Act.put, List.setIfInBounds_toArray, List.set_cons_zero, List.set_cons_succ]) | ((with_reducible refine at_store 9 47 ?_); (with_reducible refine wpList_store_blkA (o := ⟨none, _, _, _, _, _⟩) rfl 28 (.tmp 9) (.tmp 47) rfl w9.heap.size zcD (dC d0 u10 u20).toArray 28 N0.out.blk ?_ ?_ ?_ ?_ ?_ ?_); kernel_rfl; rfl; (exact dC_one F0.out.1); rfl; rfl; intro w11 hk11 hg11; have h8 := N0.out.below.grown hg11 (by have := N0.out.size; omega) (fun b hb => (by have := Option.some.inj hb; omega)); have Q0 := hide (And.intro hk11 (And.intro (F0.out.1.keep fun g hg hl9 => h8.block g hl9) (F0.out.2.1.grow h8))); clear hk11 hg11 h8; simp only [Act.put, List.setIfInBounds_toArray, List.set_cons_zero, List.set_cons_succ]))
        go_wp2_with fail
        refine Fre.wp_made (X := Bel) 16 [] (by kernel_rfl) (by kernel_rfl) (by simp) (by simp) (by simp) ?_
        simp only [List.take_succ_cons, List.take_zero, List.drop_succ_cons, List.drop_zero]
        refine Fre.made_val (.int .i64 0) (by kernel_rfl) (by kernel_rfl) (by kernel_rfl) (fun _ _ => by kernel_rfl) ?_
        simp only [Act.put, List.setIfInBounds_toArray, List.set_cons_zero, List.set_cons_succ]
        refine Fre.made_val (.bool false) (by kernel_rfl) (by kernel_rfl) (by kernel_rfl) (fun _ _ => by kernel_rfl) ?_
        simp only [Act.put, List.setIfInBounds_toArray, List.set_cons_zero, List.set_cons_succ]
        refine Fre.made_val (.bool false) (by kernel_rfl) (by kernel_rfl) (by kernel_rfl) (fun _ _ => by kernel_rfl) ?_
        simp only [Act.put, List.setIfInBounds_toArray, List.set_cons_zero, List.set_cons_succ]
        refine Fre.made_val (.slice (some ⟨ga, 0, none⟩) all.length ca) (by kernel_rfl) (by kernel_rfl) (by kernel_rfl) (fun _ _ => by kernel_rfl) ?_
        simp only [Act.put, List.setIfInBounds_toArray, List.set_cons_zero, List.set_cons_succ]
        refine Fre.made_val (.int .i64 (all.length : Int)) (by kernel_rfl) (by kernel_rfl) (by kernel_rfl) (fun _ _ => by kernel_rfl) ?_
        simp only [Act.put, List.setIfInBounds_toArray, List.set_cons_zero, List.set_cons_succ]
        refine Fre.made_val (.bool false) (by kernel_rfl) (by kernel_rfl) (by kernel_rfl) (fun W9 hW9 => ?hs1) ?_
        case hs1 =>
          go_simp
          all_goals exact fun e => by rw [e] at hN0; exact absurd hN0 (by decide)
        simp only [Act.put, List.setIfInBounds_toArray, List.set_cons_zero, List.set_cons_succ]
        refine Fre.made_val (.bool false) (by kernel_rfl) (by kernel_rfl) (by kernel_rfl) (fun _ _ => by kernel_rfl) ?_
        simp only [Act.put, List.setIfInBounds_toArray, List.set_cons_zero, List.set_cons_succ]
        refine Fre.made_val (.bool false) (by kernel_rfl) (by kernel_rfl) (by kernel_rfl) (fun _ _ => by kernel_rfl) ?_
        simp only [Act.put, List.setIfInBounds_toArray, List.set_cons_zero, List.set_cons_succ]
        refine Fre.made_val (.slice (some ⟨ga, 0, none⟩) all.length ca) (by kernel_rfl) (by kernel_rfl) (by kernel_rfl) (fun _ _ => by kernel_rfl) ?_
        simp only [Act.put, List.setIfInBounds_toArray, List.set_cons_zero, List.set_cons_succ]
        refine Fre.made_val (.slice (some ⟨ga, 0, none⟩) all.length ca) (by kernel_rfl) (by kernel_rfl) (by kernel_rfl) (fun _ _ => by kernel_rfl) ?_
        simp only [Act.put, List.setIfInBounds_toArray, List.set_cons_zero, List.set_cons_succ]
        refine Fre.made_val (.int .i64 (all.length : Int)) (by kernel_rfl) (by kernel_rfl) (by kernel_rfl) (fun _ _ => by kernel_rfl) ?_
        simp only [Act.put, List.setIfInBounds_toArray, List.set_cons_zero, List.set_cons_succ]
        refine Fre.made_val (.int .i64 ((all.length - 1 : Nat) : Int)) (by kernel_rfl) (by kernel_rfl) (by kernel_rfl) (fun W9 hW9 => ?hs2) ?_
        case hs2 =>
          go_simp
          all_goals (rw [Go.IntWalk.i64_in _ (by omega)]; omega)
        simp only [Act.put, List.setIfInBounds_toArray, List.set_cons_zero, List.set_cons_succ]
        refine Fre.made_val (.pointer (some ⟨ga, (all.length - 1) * 20, none⟩)) (by kernel_rfl) (by kernel_rfl) (by kernel_rfl) (fun W9 hW9 => exec_idx0 (o := ⟨some 76, _, _, _, _, _⟩) 33 24 (.tmp 72) (.tmp 75) rfl ga all.length ca (all.length - 1) rfl rfl (by omega) 20 Try.underlying33 sz_hash W9) ?_
        simp only [Act.put, List.setIfInBounds_toArray, List.set_cons_zero, List.set_cons_succ]
        refine Fre.made_val (.agg (bv c).toArray) (by kernel_rfl) (by kernel_rfl) (by kernel_rfl) (fun W9 hW9 => exec_load_mid (o := ⟨some 77, _, _, _, _, _⟩) 24 (.tmp 76) rfl ga ((all.length - 1) * 20) rfl (bv c) _ W9 (hash_at (Q0.out.2.2.grow hW9).own HAOK.out HLA.out) Try.underlying24 rfl hszc) ?_
        simp only [Act.put, List.setIfInBounds_toArray, List.set_cons_zero, List.set_cons_succ]
        refine Fre.made_val (.agg (bv c).toArray) (by kernel_rfl) (by kernel_rfl) (by kernel_rfl) (fun W9 hW9 => exec_load_blk (o := ⟨some 78, _, _, _, _, _⟩) 24 (.tmp 4) rfl w.heap.size rfl 24 _ _ W9 (Q0.out.2.2.grow hW9).c Try.underlying24 rfl hszc2) ?_
        simp only [Act.put, List.setIfInBounds_toArray, List.set_cons_zero, List.set_cons_succ]
        refine Fre.made_val (.bool false) (by kernel_rfl) (by kernel_rfl) (by kernel_rfl) (fun W9 hW9 => exec_binop_agg (o := ⟨some 79, _, _, _, _, _⟩) .neq 24 (.tmp 77) (.tmp 78) _ rfl (bv c).toArray (bv c).toArray rfl rfl (by kernel_rfl) _ (fun W => bin_neq_self c hc W) W9) ?_
        simp only [Act.put, List.setIfInBounds_toArray, List.set_cons_zero, List.set_cons_succ]
        intro wx hx
        have SX := hide (Q0.out.2.2.grow hx)
        clear hx
        dsimp only [Fre.ended, List.drop]
        go_wp2_with fail
        go_loopw [11] (fun x11 wr => ∃ i : Nat, i ≤ all.length ∧ x11 = .int .i64 (i : Int) ∧ NdSt w w1.heap.size c (tC mo v1 v2) w7.heap.size (.slice (some ⟨ga, 0, none⟩) all.length ca) all wr) (fun x11 _ => all.length - (intOf x11).toNat)
        case atStart => exact ⟨0, by omega, rfl, SX.out⟩
        case round =>
          obtain ⟨wo, rfl⟩ : ∃ wo, wo = wr := ⟨_, rfl⟩
          obtain ⟨i, hi, rfl, hst⟩ := hrel
          have SO := hide hst
          clear hst
          have i0 : (0 : Int) ≤ (i : Int) := by omega
          by_cases hi2 : i < all.length
          · have i1 : (i : Int) < (all.length : Int) := by omega
            obtain ⟨z, hz⟩ : ∃ z, all[i]? = some z := ⟨_, List.getElem?_eq_getElem hi2⟩
            have hp := part_ok HR.out.1 HOK.out HCS.out HALL.out hz
            have hzo := hp.ok
            have hszz2 := hszD hzo
            have hszz : (Try.prog.info? 24).map (·.size) = some (bv z).length := by simpa using hszz2
            have HZ := hide hz
            have HP := hide hp
            clear hz hp
            go_wp2_with (first | ((with_reducible refine at_slot 91 ?_); (refine wpList_value (o := ⟨some 91, _, _, _, _, _⟩) rfl (.pointer (some ⟨ga, i * 20, none⟩)) wo (exec_idx0 33 24 (.tmp 89) (.tmp 90) rfl ga all.length ca i rfl rfl hi2 20 Try.underlying33 sz_hash wo) ?_)) | ((with_reducible refine at_slot 92 ?_); (refine wpList_value (o := ⟨some 92, _, _, _, _, _⟩) rfl (.agg (bv z).toArray) wo (exec_load_mid (o := ⟨some 92, _, _, _, _, _⟩) 24 (.tmp 91) rfl ga (i * 20) rfl (bv z) _ wo (hash_at SO.out.own HAOK.out HZ.out) Try.underlying24 rfl hszz) ?_)))
            refine (find_any wo l _ (itms_alike HL.out SO.out.b) z hzo HSM.out.2).mono ?_
            rintro e wf ⟨u12, u22, rfl, hod, hb⟩
            obtain ⟨d2, hd⟩ : ∃ d, d = findD l z := ⟨_, rfl⟩
            change OwnDrv wf wo.heap.size (findD l z) u12 u22 at hod
            rw [← hd] at hod
            dsimp only
            rw [show ((l.find? fun x => decide (x.1 = z)).map (·.2)).getD (⟨#[]⟩, [], []) = d2 from hd.symm, HP.out.is]
            have F2 := hide (And.intro hod (And.intro (SO.out.grow hb) hd))
            clear hod hb hd
            go_wp2_with (first | ((with_reducible refine at_slot 12 ?_); (refine wpList_newZ (o := ⟨some 12, _, _, _, _, _⟩) rfl 28 zcD (by kernel_rfl) ?_); intro wg hn; have N2 := hide hn; clear hn; simp only [Act.put, List.setIfInBounds_toArray, List.set_cons_zero, List.set_cons_succ]) | ((with_reducible refine at_store 12 94 ?_); (with_reducible refine wpList_store_blkA (o := ⟨none, _, _, _, _, _⟩) rfl 28 (.tmp 12) (.tmp 94) rfl wf.heap.size zcD (dC d2 u12 u22).toArray 28 N2.out.blk ?_ ?_ ?_ ?_ ?_ ?_); kernel_rfl; rfl; (exact dC_one F2.out.1); rfl; rfl; intro w20 hk20 hg20; have h8 := N2.out.below.grown hg20 (by have := N2.out.size; omega) (fun b hb => (by have := Option.some.inj hb; omega)); have Q2 := hide (And.intro hk20 (And.intro (F2.out.1.keep fun g hg hl9 => h8.block g hl9) (F2.out.2.1.grow h8))); clear hk20 hg20 h8; simp only [Act.put, List.setIfInBounds_toArray, List.set_cons_zero, List.set_cons_succ]) | ((with_reducible refine at_slot 96 ?_); (refine wpList_value (o := ⟨some 96, _, _, _, _, _⟩) rfl (.agg ((dC d2 u12 u22).toArray)) w20 (exec_load_blk (o := ⟨some 96, _, _, _, _, _⟩) 28 (.tmp 12) rfl wf.heap.size rfl 28 _ _ w20 Q2.out.1 Try.underlying28 rfl (by kernel_rfl)) ?_)))
            have hdl := findD_len F2.out.2.2 HSM.out.1
            refine (classes_any w20 d2 u12 u22 (Q2.out.2.1.at_ (Nat.le_refl _)) hdl).mono ?_
            rintro e w21 ⟨uc, rfl, hoc, hb⟩
            obtain ⟨Ac, cc, rfl⟩ := own_form9 hoc
            obtain ⟨cl, hcl⟩ : ∃ cl, cl = clsP d2.2.1 := ⟨_, rfl⟩
            have hcf : ∀ x ∈ cl, okH x ∧ (∃ p : Nat, placeH all x = (p : Int) ∧ p < i) ∧ depthR l x < depthR l z := fun x hx => HP.out.cls x (by rw [← F2.out.2.2, ← hcl]; exact hx)
            have hcln : cl.length ≤ 1000000 := by rw [hcl]; exact Nat.le_trans (clsP_le _) hdl
            rw [← hcl] at hoc ⊢
            dsimp only
            have HCF := hide hcf
            have HCK := hide (fun x hx => (hcf x hx).1 : ∀ x ∈ cl, okH x)
            have S21 := hide (And.intro (Q2.out.2.2.grow hb) (show OwnHs cl (.slice Ac cl.length cc) w21 from ⟨_, hoc⟩))
            clear hcf hcl hoc hb
            go_wp2_with fail
            go_loopw [15] (fun x15 wr => ∃ k : Nat, k ≤ cl.length ∧ x15 = .int .i64 (k : Int) ∧ NdSt w w1.heap.size c (tC mo v1 v2) w7.heap.size (.slice (some ⟨ga, 0, none⟩) all.length ca) all wr ∧ OwnHs cl (.slice Ac cl.length cc) wr) (fun x15 _ => cl.length - (intOf x15).toNat)
            case atStart => exact ⟨0, by omega, rfl, S21.out.1, S21.out.2⟩
            case round =>
              obtain ⟨wi, rfl⟩ : ∃ wi, wi = wr := ⟨_, rfl⟩
              obtain ⟨k, hk, rfl, hst, hoc⟩ := hrel
              have SI := hide (And.intro hst hoc)
              clear hst hoc
              have k0 : (0 : Int) ≤ (k : Int) := by omega
              by_cases hk2 : k < cl.length
              · have k1 : (k : Int) < (cl.length : Int) := by omega
                obtain ⟨q, hq⟩ : ∃ q, cl[k]? = some q := ⟨_, List.getElem?_eq_getElem hk2⟩
                obtain ⟨hqo, ⟨p, hpp, hpi⟩, hdd⟩ := HCF.out q (List.mem_of_getElem? hq)
                have HPP := hide hpp
                have p0 : (0 : Int) ≤ (p : Int) := by omega
                have p1 : (p : Int) < (i : Int) := by omega
                obtain ⟨D1, hD1⟩ : ∃ D1, depthR l q = D1 := ⟨_, rfl⟩
                obtain ⟨D2, hD2⟩ : ∃ D2, depthR l z = D2 := ⟨_, rfl⟩
                have hDD : (D1 : Int) < (D2 : Int) := by rw [hD1, hD2] at hdd; omega
                have HD1 := hide hD1
                have HD2 := hide hD2
                obtain ⟨gc, cc', he⟩ := hs_place SI.out.2 (by omega)
                injection he with he1 _ he3
                subst he1 he3
                have hszq2 := hszD hqo
                have hszq : (Try.prog.info? 24).map (·.size) = some (bv q).length := by simpa using hszq2
                have HQ := hide hq
                clear hq hpp hdd hD1 hD2 hpi
                go_wp2_with (first | ((with_reducible refine at_slot 107 ?_); (refine wpList_value (o := ⟨some 107, _, _, _, _, _⟩) rfl (.pointer (some ⟨gc, k * 20, none⟩)) wi (exec_idx0 33 24 (.tmp 105) (.tmp 106) rfl gc cl.length cc k rfl rfl hk2 20 Try.underlying33 sz_hash wi) ?_)) | ((with_reducible refine at_slot 108 ?_); (refine wpList_value (o := ⟨some 108, _, _, _, _, _⟩) rfl (.agg (bv q).toArray) wi (exec_load_mid (o := ⟨some 108, _, _, _, _, _⟩) 24 (.tmp 107) rfl gc (k * 20) rfl (bv q) _ wi (hs_at SI.out.2 HCK.out HQ.out) Try.underlying24 rfl hszq) ?_)))
                refine (place_any wi all _ (OwnHs.at_ ⟨_, SI.out.1.own⟩ HAOK.out) q hqo).mono ?_
                rintro e wj ⟨rfl, hb⟩
                rw [HPP.out]
                dsimp only
                have SJ := hide (And.intro (SI.out.1.grow hb) (SI.out.2.grow hb))
                clear hb
                go_wp2_with fail
                refine Fre.wp_made (X := Bel) 21 [] (by kernel_rfl) (by kernel_rfl) (by simp) (by simp) (by simp) ?_
                simp only [List.take_succ_cons, List.take_zero, List.drop_succ_cons, List.drop_zero]
                refine Fre.made_val (.int .i64 (p : Int)) (by kernel_rfl) (by kernel_rfl) (by kernel_rfl) (fun _ _ => by kernel_rfl) ?_
                simp only [Act.put, List.setIfInBounds_toArray, List.set_cons_zero, List.set_cons_succ]
                refine Fre.made_val (.bool false) (by kernel_rfl) (by kernel_rfl) (by kernel_rfl) (fun W9 hW9 => ?hs3) ?_
                case hs3 =>
                  go_simp
                simp only [Act.put, List.setIfInBounds_toArray, List.set_cons_zero, List.set_cons_succ]
                refine Fre.made_val (.bool false) (by kernel_rfl) (by kernel_rfl) (by kernel_rfl) (fun _ _ => by kernel_rfl) ?_
                simp only [Act.put, List.setIfInBounds_toArray, List.set_cons_zero, List.set_cons_succ]
                refine Fre.made_val (.int .i64 (p : Int)) (by kernel_rfl) (by kernel_rfl) (by kernel_rfl) (fun _ _ => by kernel_rfl) ?_
                simp only [Act.put, List.setIfInBounds_toArray, List.set_cons_zero, List.set_cons_succ]
                refine Fre.made_val (.int .i64 (i : Int)) (by kernel_rfl) (by kernel_rfl) (by kernel_rfl) (fun _ _ => by kernel_rfl) ?_
                simp only [Act.put, List.setIfInBounds_toArray, List.set_cons_zero, List.set_cons_succ]
                refine Fre.made_val (.bool false) (by kernel_rfl) (by kernel_rfl) (by kernel_rfl) (fun W9 hW9 => ?hs4) ?_
                case hs4 =>
                  go_simp
                  all_goals omega
                simp only [Act.put, List.setIfInBounds_toArray, List.set_cons_zero, List.set_cons_succ]
                refine Fre.made_val (.bool false) (by kernel_rfl) (by kernel_rfl) (by kernel_rfl) (fun _ _ => by kernel_rfl) ?_
                simp only [Act.put, List.setIfInBounds_toArray, List.set_cons_zero, List.set_cons_succ]
                refine Fre.made_val (.bool false) (by kernel_rfl) (by kernel_rfl) (by kernel_rfl) (fun _ _ => by kernel_rfl) ?_
                simp only [Act.put, List.setIfInBounds_toArray, List.set_cons_zero, List.set_cons_succ]
                refine Fre.made_val (.slice A l.length cap) (by kernel_rfl) (by kernel_rfl) (by kernel_rfl) (fun _ _ => by kernel_rfl) ?_
                simp only [Act.put, List.setIfInBounds_toArray, List.set_cons_zero, List.set_cons_succ]
                refine Fre.made_val (.slice (some ⟨gc, 0, none⟩) cl.length cc) (by kernel_rfl) (by kernel_rfl) (by kernel_rfl) (fun _ _ => by kernel_rfl) ?_
                simp only [Act.put, List.setIfInBounds_toArray, List.set_cons_zero, List.set_cons_succ]
                refine Fre.made_val (.int .i64 (k : Int)) (by kernel_rfl) (by kernel_rfl) (by kernel_rfl) (fun _ _ => by kernel_rfl) ?_
                simp only [Act.put, List.setIfInBounds_toArray, List.set_cons_zero, List.set_cons_succ]
                refine Fre.made_val (.pointer (some ⟨gc, k * 20, none⟩)) (by kernel_rfl) (by kernel_rfl) (by kernel_rfl) (fun W9 hW9 => exec_idx0 (o := ⟨some 121, _, _, _, _, _⟩) 33 24 (.tmp 119) (.tmp 120) rfl gc cl.length cc k rfl rfl hk2 20 Try.underlying33 sz_hash W9) ?_
                simp only [Act.put, List.setIfInBounds_toArray, List.set_cons_zero, List.set_cons_succ]
                refine Fre.made_val (.agg (bv q).toArray) (by kernel_rfl) (by kernel_rfl) (by kernel_rfl) (fun W9 hW9 => exec_load_mid (o := ⟨some 122, _, _, _, _, _⟩) 24 (.tmp 121) rfl gc (k * 20) rfl (bv q) _ W9 (hs_at (SJ.out.2.grow hW9) HCK.out HQ.out) Try.underlying24 rfl hszq) ?_
                simp only [Act.put, List.setIfInBounds_toArray, List.set_cons_zero, List.set_cons_succ]
                refine Fre.made_call (.int .i64 (D1 : Int)) 10 #[.slice A l.length cap, .agg (bv q).toArray] (by kernel_rfl) (by kernel_rfl) (by kernel_rfl) (fun W9 => by kernel_rfl) (fun W9 hW9 => ?hcd123) ?_
                case hcd123 =>
                  have h := depth_any W9 l A cap (itms_alike HL.out (SJ.out.1.grow hW9).b) HSM.out.1 (by omega) q hqo
                  rw [HD1.out] at h
                  exact h
                simp only [Act.put, List.setIfInBounds_toArray, List.set_cons_zero, List.set_cons_succ]
                refine Fre.made_val (.slice A l.length cap) (by kernel_rfl) (by kernel_rfl) (by kernel_rfl) (fun _ _ => by kernel_rfl) ?_
                simp only [Act.put, List.setIfInBounds_toArray, List.set_cons_zero, List.set_cons_succ]
                refine Fre.made_val (.slice (some ⟨ga, 0, none⟩) all.length ca) (by kernel_rfl) (by kernel_rfl) (by kernel_rfl) (fun _ _ => by kernel_rfl) ?_
                simp only [Act.put, List.setIfInBounds_toArray, List.set_cons_zero, List.set_cons_succ]
                refine Fre.made_val (.int .i64 (i : Int)) (by kernel_rfl) (by kernel_rfl) (by kernel_rfl) (fun _ _ => by kernel_rfl) ?_
                simp only [Act.put, List.setIfInBounds_toArray, List.set_cons_zero, List.set_cons_succ]
                refine Fre.made_val (.pointer (some ⟨ga, i * 20, none⟩)) (by kernel_rfl) (by kernel_rfl) (by kernel_rfl) (fun W9 hW9 => exec_idx0 (o := ⟨some 127, _, _, _, _, _⟩) 33 24 (.tmp 125) (.tmp 126) rfl ga all.length ca i rfl rfl hi2 20 Try.underlying33 sz_hash W9) ?_
                simp only [Act.put, List.setIfInBounds_toArray, List.set_cons_zero, List.set_cons_succ]
                refine Fre.made_val (.agg (bv z).toArray) (by kernel_rfl) (by kernel_rfl) (by kernel_rfl) (fun W9 hW9 => exec_load_mid (o := ⟨some 128, _, _, _, _, _⟩) 24 (.tmp 127) rfl ga (i * 20) rfl (bv z) _ W9 (hash_at (SJ.out.1.grow hW9).own HAOK.out HZ.out) Try.underlying24 rfl hszz) ?_
                simp only [Act.put, List.setIfInBounds_toArray, List.set_cons_zero, List.set_cons_succ]
                refine Fre.made_call (.int .i64 (D2 : Int)) 10 #[.slice A l.length cap, .agg (bv z).toArray] (by kernel_rfl) (by kernel_rfl) (by kernel_rfl) (fun W9 => by kernel_rfl) (fun W9 hW9 => ?hcd129) ?_
                case hcd129 =>
                  have h := depth_any W9 l A cap (itms_alike HL.out (SJ.out.1.grow hW9).b) HSM.out.1 (by omega) z hzo
                  rw [HD2.out] at h
                  exact h
                simp only [Act.put, List.setIfInBounds_toArray, List.set_cons_zero, List.set_cons_succ]
                refine Fre.made_val (.bool false) (by kernel_rfl) (by kernel_rfl) (by kernel_rfl) (fun W9 hW9 => ?hs5) ?_
                case hs5 =>
                  go_simp
                  all_goals omega
                simp only [Act.put, List.setIfInBounds_toArray, List.set_cons_zero, List.set_cons_succ]
                intro wx hx
                have SY := hide (And.intro (SJ.out.1.grow hx) (SJ.out.2.grow hx))
                clear hx
                dsimp only [Fre.ended, List.drop]
                go_wp2_with fail
                go_roundw
                case rel => exact ⟨k + 1, by omega, by go_num, SY.out.1, SY.out.2⟩
                case measure => simp [intOf]; omega
              · obtain rfl : k = cl.length := by omega
                go_wp2_with (first | ((with_reducible refine at_slot 136 ?_); (refine wpList_value (o := ⟨some 136, _, _, _, _, _⟩) rfl (.pointer (some ⟨ga, i * 20, none⟩)) wi (exec_idx0 33 24 (.tmp 134) (.tmp 135) rfl ga all.length ca i rfl rfl hi2 20 Try.underlying33 sz_hash wi) ?_)) | ((with_reducible refine at_slot 137 ?_); (refine wpList_value (o := ⟨some 137, _, _, _, _, _⟩) rfl (.agg (bv z).toArray) wi (exec_load_mid (o := ⟨some 137, _, _, _, _, _⟩) 24 (.tmp 136) rfl ga (i * 20) rfl (bv z) _ wi (hash_at SI.out.1.own HAOK.out HZ.out) Try.underlying24 rfl hszz) ?_)))
                refine (needs_any wi l A cap (itms_alike HL.out SI.out.1.b) HSM.out.1 (by omega) z hzo).mono ?_
                rintro e wn ⟨un, rfl, hon, hb⟩
                obtain ⟨pt, hpt⟩ : ∃ pt, pt = needsL l z := ⟨_, rfl⟩
                have hptl : pt.length ≤ i + 1 := by rw [hpt]; exact HP.out.len
                have hptl2 : (pt.length : Int) ≤ (i : Int) + 1 := by omega
                have hpok : ∀ h ∈ pt, okH h := by rw [hpt]; exact needsL_ok HOK.out z
                have hsub : ∀ h ∈ pt, h ∈ all := by rw [hpt]; exact HP.out.sub
                rw [← hpt] at hon
                obtain ⟨An, cn, rfl⟩ := own_form9 hon
                rw [HP.out.e]
                dsimp only
                have SN := hide (And.intro (SI.out.1.grow hb) (show OwnHs pt (.slice An pt.length cn) wn from ⟨_, hon⟩))
                have HPK := hide hpok
                have HSB := hide hsub
                clear hon hb hpt hpok hsub
                by_cases hi3 : i + 1 < all.length
                · have i2 : (i : Int) + 1 < (all.length : Int) := by omega
                  have hu := HP.out.used hi3
                  have HU := hide hu
                  clear hu
                  go_wp2_with (first | ((with_reducible refine at_slot 165 ?_); (refine wpList_value_w (o := ⟨some 165, _, _, _, _, _⟩) (by kernel_rfl) (.pointer (some ⟨ga, i * 20, none⟩)) wn (exec_idx0 33 24 (.tmp 163) (.tmp 164) rfl ga all.length ca i rfl rfl hi2 20 Try.underlying33 sz_hash wn) ?_)) | ((with_reducible refine at_slot 166 ?_); (refine wpList_value_w (o := ⟨some 166, _, _, _, _, _⟩) (by kernel_rfl) (.agg (bv z).toArray) wn (exec_load_mid (o := ⟨some 166, _, _, _, _, _⟩) 24 (.tmp 165) rfl ga (i * 20) rfl (bv z) _ wn (hash_at SN.out.1.own HAOK.out HZ.out) Try.underlying24 rfl hszz) ?_)))
                  refine (used_any wn l _ (itms_alike HL.out SN.out.1.b) HSM.out.2 all _ (OwnHs.at_ ⟨_, SN.out.1.own⟩ HAOK.out) z hzo).mono ?_
                  rintro e wu ⟨rfl, hb⟩
                  rw [HU.out]
                  dsimp only
                  have SU := hide (And.intro (SN.out.1.grow hb) (SN.out.2.grow hb))
                  clear hb
                  go_wp2_with fail
                  go_loopw [19] (fun x19 wr => ∃ k : Nat, k ≤ pt.length ∧ x19 = .int .i64 (k : Int) ∧ NdSt w w1.heap.size c (tC mo v1 v2) w7.heap.size (.slice (some ⟨ga, 0, none⟩) all.length ca) all wr ∧ OwnHs pt (.slice An pt.length cn) wr) (fun x19 _ => pt.length - (intOf x19).toNat)
                  case atStart => exact ⟨0, by omega, rfl, SU.out.1, SU.out.2⟩
                  case round =>
                    obtain ⟨wt, rfl⟩ : ∃ wt, wt = wr := ⟨_, rfl⟩
                    obtain ⟨n, hn, rfl, hst, hoc⟩ := hrel
                    have ST := hide (And.intro hst hoc)
                    clear hst hoc
                    have n0 : (0 : Int) ≤ (n : Int) := by omega
                    by_cases hn2 : n < pt.length
                    · have n1 : (n : Int) < (pt.length : Int) := by omega
                      obtain ⟨q, hq⟩ : ∃ q, pt[n]? = some q := ⟨_, List.getElem?_eq_getElem hn2⟩
                      have hqm := List.mem_of_getElem? hq
                      have hqo := HPK.out q hqm
                      obtain ⟨p, hpp, _⟩ := placeH_mem (HSB.out q hqm)
                      have HPP := hide hpp
                      have p0 : (0 : Int) ≤ (p : Int) := by omega
                      obtain ⟨gp, cp', he⟩ := hs_place ST.out.2 (by omega)
                      injection he with he1 _ he3
                      subst he1 he3
                      have hszq2 := hszD hqo
                      have hszq : (Try.prog.info? 24).map (·.size) = some (bv q).length := by simpa using hszq2
                      have HQ := hide hq
                      clear hq hpp hqm
                      go_wp2_with (first | ((with_reducible refine at_slot 180 ?_); (refine wpList_value (o := ⟨some 180, _, _, _, _, _⟩) rfl (.pointer (some ⟨gp, n * 20, none⟩)) wt (exec_idx0 33 24 (.tmp 178) (.tmp 179) rfl gp pt.length cn n rfl rfl hn2 20 Try.underlying33 sz_hash wt) ?_)) | ((with_reducible refine at_slot 181 ?_); (refine wpList_value (o := ⟨some 181, _, _, _, _, _⟩) rfl (.agg (bv q).toArray) wt (exec_load_mid (o := ⟨some 181, _, _, _, _, _⟩) 24 (.tmp 180) rfl gp (n * 20) rfl (bv q) _ wt (hs_at ST.out.2 HPK.out HQ.out) Try.underlying24 rfl hszq) ?_)))
                      refine (place_any wt all _ (OwnHs.at_ ⟨_, ST.out.1.own⟩ HAOK.out) q hqo).mono ?_
                      rintro e wj ⟨rfl, hb⟩
                      rw [HPP.out]
                      dsimp only
                      have SJ := hide (And.intro (ST.out.1.grow hb) (ST.out.2.grow hb))
                      clear hb
                      go_wp2_with fail
                      go_roundw
                      case rel => exact ⟨n + 1, by omega, by go_num, SJ.out.1, SJ.out.2⟩
                      case measure => simp [intOf]; omega
                    · obtain rfl : n = pt.length := by omega
                      go_wp2_with fail
                      go_roundw
                      case rel => exact ⟨i + 1, by omega, by go_num, ST.out.1⟩
                      case measure => simp [intOf]; omega
                · have i2 : ¬ (i : Int) + 1 < (all.length : Int) := by omega
                  go_wp2_with fail
                  go_loopw [19] (fun x19 wr => ∃ k : Nat, k ≤ pt.length ∧ x19 = .int .i64 (k : Int) ∧ NdSt w w1.heap.size c (tC mo v1 v2) w7.heap.size (.slice (some ⟨ga, 0, none⟩) all.length ca) all wr ∧ OwnHs pt (.slice An pt.length cn) wr) (fun x19 _ => pt.length - (intOf x19).toNat)
                  case atStart => exact ⟨0, by omega, rfl, SN.out.1, SN.out.2⟩
                  case round =>
                    obtain ⟨wt, rfl⟩ : ∃ wt, wt = wr := ⟨_, rfl⟩
                    obtain ⟨n, hn, rfl, hst, hoc⟩ := hrel
                    have ST := hide (And.intro hst hoc)
                    clear hst hoc
                    have n0 : (0 : Int) ≤ (n : Int) := by omega
                    by_cases hn2 : n < pt.length
                    · have n1 : (n : Int) < (pt.length : Int) := by omega
                      obtain ⟨q, hq⟩ : ∃ q, pt[n]? = some q := ⟨_, List.getElem?_eq_getElem hn2⟩
                      have hqm := List.mem_of_getElem? hq
                      have hqo := HPK.out q hqm
                      obtain ⟨p, hpp, _⟩ := placeH_mem (HSB.out q hqm)
                      have HPP := hide hpp
                      have p0 : (0 : Int) ≤ (p : Int) := by omega
                      obtain ⟨gp, cp', he⟩ := hs_place ST.out.2 (by omega)
                      injection he with he1 _ he3
                      subst he1 he3
                      have hszq2 := hszD hqo
                      have hszq : (Try.prog.info? 24).map (·.size) = some (bv q).length := by simpa using hszq2
                      have HQ := hide hq
                      clear hq hpp hqm
                      go_wp2_with (first | ((with_reducible refine at_slot 180 ?_); (refine wpList_value (o := ⟨some 180, _, _, _, _, _⟩) rfl (.pointer (some ⟨gp, n * 20, none⟩)) wt (exec_idx0 33 24 (.tmp 178) (.tmp 179) rfl gp pt.length cn n rfl rfl hn2 20 Try.underlying33 sz_hash wt) ?_)) | ((with_reducible refine at_slot 181 ?_); (refine wpList_value (o := ⟨some 181, _, _, _, _, _⟩) rfl (.agg (bv q).toArray) wt (exec_load_mid (o := ⟨some 181, _, _, _, _, _⟩) 24 (.tmp 180) rfl gp (n * 20) rfl (bv q) _ wt (hs_at ST.out.2 HPK.out HQ.out) Try.underlying24 rfl hszq) ?_)))
                      refine (place_any wt all _ (OwnHs.at_ ⟨_, ST.out.1.own⟩ HAOK.out) q hqo).mono ?_
                      rintro e wj ⟨rfl, hb⟩
                      rw [HPP.out]
                      dsimp only
                      have SJ := hide (And.intro (ST.out.1.grow hb) (ST.out.2.grow hb))
                      clear hb
                      go_wp2_with fail
                      go_roundw
                      case rel => exact ⟨n + 1, by omega, by go_num, SJ.out.1, SJ.out.2⟩
                      case measure => simp [intOf]; omega
                    · obtain rfl : n = pt.length := by omega
                      go_wp2_with fail
                      go_roundw
                      case rel => exact ⟨i + 1, by omega, by go_num, ST.out.1⟩
                      case measure => simp [intOf]; omega
          · obtain rfl : i = all.length := by omega
            go_wp2_with fail
            refine Fre.wp_made (X := Bel) 5 [(184, EmptyI wo.heap.size), (186, RowI wo.heap.size l.length cells), (188, OneI (tC mo v1 v2))] (by kernel_rfl) (by kernel_rfl) (by intro p hp; simp only [List.mem_cons, List.not_mem_nil, or_false] at hp; rcases hp with rfl | rfl | rfl; exact emptyI_ok _; exact rowI_ok _ _ _; exact oneI_ok _) (by simp) (by simp) ?_
            simp only [List.take_succ_cons, List.take_zero, List.drop_succ_cons, List.drop_zero]
            refine Fre.made_new 184 _ (by kernel_rfl) (by kernel_rfl) rfl rfl (fun W9 hW9 => emptyI_new (o := ⟨some 184, _, _, _, _, _⟩) rfl W9 (Below.size hW9)) ?_
            simp only [Act.put, List.setIfInBounds_toArray, List.set_cons_zero, List.set_cons_succ]
            refine Fre.made_val (.slice A l.length cap) (by kernel_rfl) (by kernel_rfl) (by kernel_rfl) (fun _ _ => by kernel_rfl) ?_
            simp only [Act.put, List.setIfInBounds_toArray, List.set_cons_zero, List.set_cons_succ]
            refine Fre.made_new1 184 _ 186 _ (by kernel_rfl) rfl (by kernel_rfl) rfl rfl (fun u9 W9 hW9 hu9 => rowI_new (o := ⟨some 186, _, _, _, _, _⟩) (.tmp 184) (.tmp 185) rfl rfl rfl rfl hu9 (Below.size hW9) (HCI.out.src.below (SO.out.grow hW9).b) hm63 hby8) ?_
            simp only [Act.put, List.setIfInBounds_toArray, List.set_cons_zero, List.set_cons_succ]
            refine Fre.made_val (.agg (tC mo v1 v2).toArray) (by kernel_rfl) (by kernel_rfl) (by kernel_rfl) (fun W9 hW9 => exec_load_blk (o := ⟨some 187, _, _, _, _, _⟩) 30 (.tmp 5) rfl w1.heap.size rfl 30 _ _ W9 (SO.out.grow hW9).m Try.underlying30 rfl hszm2) ?_
            simp only [Act.put, List.setIfInBounds_toArray, List.set_cons_zero, List.set_cons_succ]
            refine Fre.made_new 188 _ (by kernel_rfl) (by kernel_rfl) rfl rfl (fun W9 hW9 => oneI_new (o := ⟨some 188, _, _, _, _, _⟩) (.tmp 187) rfl hmo rfl W9) ?_
            simp only [Act.put, List.setIfInBounds_toArray, List.set_cons_zero, List.set_cons_succ]
            intro wa2 hxa
            dsimp only [Fre.ended, List.drop]
            rintro u184 _ u186 ho2 u188 ⟨r2, rfl, hkr⟩
            have HA2 := hide (And.intro ho2 (And.intro (box_srcN (n := 23) (m := 1) hkr (tC_len hmo) HMO.out.2) (And.intro (show Below wo.heap.size wo wa2 from hxa) (SO.out.grow hxa))))
            clear ho2 hkr hxa
            go_wp2_with (at_builtin; ((with_reducible refine at_slot 189 ?_); refine wpList_appS (o := ⟨some 189, _, _, _, _, _⟩) rfl _ _ 22 rfl wo.heap.size 30 iit _ 23 88 Try.underlying22 HIT.out.1 HIT.out.2.1 HIT.out.2.2.1 HIT.out.2.2.2 rfl (by decide) _ (l.length) (cells.flatMap id) HA2.out.1 (some ⟨r2, 0, none⟩) 1 1 (tC mo v1 v2) HA2.out.2.1 ?hm2 ?hb2 ?hz2 rfl rfl ?_))
            case hm2 => simp only [maxLen]; omega
            case hb2 => omega
            case hz2 => exact HA2.out.2.2.1.size
            intro ub wb2 ownb grb _
            have hbb : Below wo.heap.size wo wb2 := HA2.out.2.2.1.grown grb HA2.out.2.2.1.size (fun k hk => (owned_ltN HA2.out.1 hk).1)
            have hat := longer_at (B := wo.heap.size) (u := ub) HCI.out hmo HMO.out.1 (SO.out.grow hbb).b (by simpa using ownb)
            rw [← HL2.out] at hat
            have SB2 := hide (SO.out.grow hbb)
            obtain ⟨Ab2, cb2, rfl, _⟩ := slice_open hat
            have HT2 := hide hat
            clear hat hbb ownb grb
            go_wp2_with fail
            refine (right_any wb2 l2 Ab2 cb2 HT2.out HSM2.out).mono ?_
            rintro e wr2 ⟨rfl, hb⟩
            dsimp only
            have SR := hide (And.intro (SB2.out.grow hb) (itms_alike HT2.out hb))
            clear hb
            cases hrt2 : Dr.rightP (l2.map itP)
            · clear hrt2
              go_wp2_with fail
              go_ret
              exact ⟨rfl, SR.out.1.b⟩
            · have hms : needsE l2 c = 0 ∧ needsL l2 c = all ∧ depthR l2 c = depthR l c := by rw [HALL.out, HL2.out]; rw [HL2.out] at hrt2; exact more_same HR.out.1 hrt2 HCS.out
              obtain ⟨D1, hD1⟩ : ∃ D1, depthR l c = D1 := ⟨_, rfl⟩
              have HD1 := hide hD1
              have HD2 := hide (hms.2.2.trans hD1)
              have HMS := hide (And.intro hms.1 hms.2.1)
              clear hms hD1 hrt2
              go_wp2_with (first | ((with_reducible refine at_slot 195 ?_); (refine wpList_value (o := ⟨some 195, _, _, _, _, _⟩) rfl (.agg ((bv c).toArray)) wr2 (exec_load_blk (o := ⟨some 195, _, _, _, _, _⟩) 24 (.tmp 4) rfl w.heap.size rfl 24 _ _ wr2 SR.out.1.c Try.underlying24 rfl hszc2) ?_)))
              refine (needs_any wr2 l2 Ab2 cb2 SR.out.2 HSM2.out (by omega) c hc).mono ?_
              rintro e wq ⟨uq, rfl, hoq, hb⟩
              rw [HMS.out.2] at hoq
              obtain ⟨Aq, cq, rfl⟩ := own_form9 hoq
              rw [HMS.out.1]
              dsimp only
              have SQ := hide (And.intro (SR.out.1.grow hb) (And.intro (itms_alike SR.out.2 hb) (show OwnHs all (.slice Aq all.length cq) wq from ⟨_, hoq⟩)))
              clear hoq hb
              go_wp2_with fail
              refine Fre.wp_made (X := Bel) 16 [] (by kernel_rfl) (by kernel_rfl) (by simp) (by simp) (by simp) ?_
              simp only [List.take_succ_cons, List.take_zero, List.drop_succ_cons, List.drop_zero]
              refine Fre.made_val (.int .i64 0) (by kernel_rfl) (by kernel_rfl) (by kernel_rfl) (fun _ _ => by kernel_rfl) ?_
              simp only [Act.put, List.setIfInBounds_toArray, List.set_cons_zero, List.set_cons_succ]
              refine Fre.made_val (.bool true) (by kernel_rfl) (by kernel_rfl) (by kernel_rfl) (fun _ _ => by kernel_rfl) ?_
              simp only [Act.put, List.setIfInBounds_toArray, List.set_cons_zero, List.set_cons_succ]
              refine Fre.made_val (.bool true) (by kernel_rfl) (by kernel_rfl) (by kernel_rfl) (fun _ _ => by kernel_rfl) ?_
              simp only [Act.put, List.setIfInBounds_toArray, List.set_cons_zero, List.set_cons_succ]
              refine Fre.made_val (.slice Aq all.length cq) (by kernel_rfl) (by kernel_rfl) (by kernel_rfl) (fun _ _ => by kernel_rfl) ?_
              simp only [Act.put, List.setIfInBounds_toArray, List.set_cons_zero, List.set_cons_succ]
              refine Fre.made_val (.slice (some ⟨ga, 0, none⟩) all.length ca) (by kernel_rfl) (by kernel_rfl) (by kernel_rfl) (fun _ _ => by kernel_rfl) ?_
              simp only [Act.put, List.setIfInBounds_toArray, List.set_cons_zero, List.set_cons_succ]
              refine Fre.made_call (.bool true) 14 #[.slice Aq all.length cq, .slice (some ⟨ga, 0, none⟩) all.length ca] (by kernel_rfl) (by kernel_rfl) (by kernel_rfl) (fun W9 => by kernel_rfl) (fun W9 hW9 => ?hcs) ?_
              case hcs =>
                have h := same_any W9 all all _ _ (OwnHs.at_ (SQ.out.2.2.grow hW9) HAOK.out) (OwnHs.at_ ⟨_, (SQ.out.1.grow hW9).own⟩ HAOK.out)
                rw [decide_eq_true rfl] at h
                exact h
              simp only [Act.put, List.setIfInBounds_toArray, List.set_cons_zero, List.set_cons_succ]
              refine Fre.made_val (.bool true) (by kernel_rfl) (by kernel_rfl) (by kernel_rfl) (fun _ _ => by kernel_rfl) ?_
              simp only [Act.put, List.setIfInBounds_toArray, List.set_cons_zero, List.set_cons_succ]
              refine Fre.made_val (.bool true) (by kernel_rfl) (by kernel_rfl) (by kernel_rfl) (fun _ _ => by kernel_rfl) ?_
              simp only [Act.put, List.setIfInBounds_toArray, List.set_cons_zero, List.set_cons_succ]
              refine Fre.made_val (.slice Ab2 l2.length cb2) (by kernel_rfl) (by kernel_rfl) (by kernel_rfl) (fun _ _ => by kernel_rfl) ?_
              simp only [Act.put, List.setIfInBounds_toArray, List.set_cons_zero, List.set_cons_succ]
              refine Fre.made_val (.agg (bv c).toArray) (by kernel_rfl) (by kernel_rfl) (by kernel_rfl) (fun W9 hW9 => exec_load_blk (o := ⟨some 208, _, _, _, _, _⟩) 24 (.tmp 4) rfl w.heap.size rfl 24 _ _ W9 (SQ.out.1.grow hW9).c Try.underlying24 rfl hszc2) ?_
              simp only [Act.put, List.setIfInBounds_toArray, List.set_cons_zero, List.set_cons_succ]
              refine Fre.made_call (.int .i64 (D1 : Int)) 10 #[.slice Ab2 l2.length cb2, .agg (bv c).toArray] (by kernel_rfl) (by kernel_rfl) (by kernel_rfl) (fun W9 => by kernel_rfl) (fun W9 hW9 => ?hcd209) ?_
              case hcd209 =>
                have h := depth_any W9 l2 Ab2 cb2 (itms_alike SQ.out.2.1 hW9) HSM2.out (by omega) c hc
                rw [HD2.out] at h
                exact h
              simp only [Act.put, List.setIfInBounds_toArray, List.set_cons_zero, List.set_cons_succ]
              refine Fre.made_val (.slice A l.length cap) (by kernel_rfl) (by kernel_rfl) (by kernel_rfl) (fun _ _ => by kernel_rfl) ?_
              simp only [Act.put, List.setIfInBounds_toArray, List.set_cons_zero, List.set_cons_succ]
              refine Fre.made_val (.agg (bv c).toArray) (by kernel_rfl) (by kernel_rfl) (by kernel_rfl) (fun W9 hW9 => exec_load_blk (o := ⟨some 211, _, _, _, _, _⟩) 24 (.tmp 4) rfl w.heap.size rfl 24 _ _ W9 (SQ.out.1.grow hW9).c Try.underlying24 rfl hszc2) ?_
              simp only [Act.put, List.setIfInBounds_toArray, List.set_cons_zero, List.set_cons_succ]
              refine Fre.made_call (.int .i64 (D1 : Int)) 10 #[.slice A l.length cap, .agg (bv c).toArray] (by kernel_rfl) (by kernel_rfl) (by kernel_rfl) (fun W9 => by kernel_rfl) (fun W9 hW9 => ?hcd212) ?_
              case hcd212 =>
                have h := depth_any W9 l A cap (itms_alike HL.out (SQ.out.1.grow hW9).b) HSM.out.1 (by omega) c hc
                rw [HD1.out] at h
                exact h
              simp only [Act.put, List.setIfInBounds_toArray, List.set_cons_zero, List.set_cons_succ]
              refine Fre.made_val (.bool true) (by kernel_rfl) (by kernel_rfl) (by kernel_rfl) (fun W9 hW9 => ?hs6) ?_
              case hs6 =>
                go_simp
              simp only [Act.put, List.setIfInBounds_toArray, List.set_cons_zero, List.set_cons_succ]
              refine Fre.made_val (.bool true) (by kernel_rfl) (by kernel_rfl) (by kernel_rfl) (fun _ _ => by kernel_rfl) ?_
              simp only [Act.put, List.setIfInBounds_toArray, List.set_cons_zero, List.set_cons_succ]
              intro wx hx
              have SY := hide (SQ.out.1.grow hx)
              clear hx
              dsimp only [Fre.ended, List.drop]
              go_wp2_with fail
              go_ret
              exact ⟨rfl, SY.out.b⟩
  · clear hgr
    go_wp2_with fail
    go_ret
    exact ⟨rfl, S6.out.b⟩
end Go.Proofs.Ytkiaofmngnmdhaa
end
section
namespace Go.Proofs.Ytkiaofmngnmdhaa
open Go Go.ChangeShapes Go.WideShapes Go.ChangeAt Go.RowKit
set_option maxRecDepth 100000
theorem open_items2 {H : Type} {enc : TypeId × Value → H} {w : World} {r : Reach} {b0 : Nat} {hd : Bool} {u : Value} {d : DataW H} {ps : List MemPlace}
    (hval : Value.okWide Try.prog w r b0 22 u) (h : DataW.Trod enc Try.prog w 0 (fun _ => true) hd 22 u d ps) (hsz : ∀ n ∈ d.weights Try.prog 22, n ≤ reachBytes) :
    ∃ (l : List Itm) (A : Option Addr) (cap : Nat), u = .slice A l.length cap ∧ itmsLay.At w w.heap.size [.slice A l.length cap] l ∧ (∀ x ∈ l, LightD x.2) ∧ l.length * 88 ≤ 140737488351232 := by
  obtain ⟨a0, len, cap, rfl⟩ := okWide_slice Try.underlying22 hval
  obtain ⟨fuel, hf⟩ := h
  have ho := opensW_slice (t := 22) itmLay_opensW (by decide) Try.underlying22 (by kernel_rfl)
  obtain ⟨l, hk, hs⟩ := ho.op hf
  obtain ⟨A, cp, e, _⟩ := slice_open hk
  injection e with e1 e2 e3
  subst e1 e2 e3
  have hb := (hs hsz).1
  rw [show Try.prog.bytesOf itmLay.t = 88 by kernel_rfl] at hb
  exact ⟨l, _, _, rfl, hk, (hs hsz).2, hb⟩
theorem drvNeeds_lifted (os : Os) (started : os.Started) (H : Type) (enc : TypeId × Value → H) :
    ReturnsInHanded {} Try.checked os 3 .any (Rows.drvNeedsSpec.pre6 enc Try.prog Try.f3 Rows.drvNeedsRow.domain false) (Rows.drvNeedsSpec.post enc Try.prog Try.f3 false true false false) := by
  refine returnsInHanded_of_change_sized (C := Try.checked) Try.ownPF started (by kernel_rfl) Try.func3
    (ChangeSpec.witness6 (enc := enc) (C := Try.checked) false ⟨#[], #[.slice none 0 0, .agg zcH, .agg zcT], []⟩ 8 (by kernel_rfl) (by kernel_rfl) (by kernel_rfl) (by kernel_rfl)) ?_
  intro W base args ds gs before hval0 hW _ hsz0 _
  have hval : ∀ (j : Nat) t v, Try.f3.params[j]? = some t → args[j]? = some v → Value.okWide Try.prog W .any base t v := hval0
  have hsz : (DataW.weightsEach Try.prog (Try.f3.params.toList ++ []) (ds ++ gs)).all (· ≤ reachBytes) = true := hsz0
  have hW' := hW
  obtain ⟨p, q, hA0, hV, rfl, hfz, hnd⟩ := hW
  have hA : DataW.TrodAll enc Try.prog W 0 (fun _ => true) true Try.f3.params.toList args.toList ds p := hA0
  rw [Try.params3] at hA hval hsz
  obtain ⟨v0, v1, v2, d0, d1, d2, p0, p1, p2, rfl, rfl, rfl, h0, h1, h2⟩ := trodAll_three hA
  obtain ⟨rfl, rfl⟩ := trodVars_none hV
  have hs0 : ∀ n ∈ d0.weights Try.prog 22, n ≤ reachBytes := fun n hn => by
    have h := List.all_eq_true.1 hsz n (DataW.weights_mem_each (j := 0) (t := 22) (d := d0) rfl rfl n hn)
    simpa using h
  have hs2 : ∀ n ∈ d2.weights Try.prog 30, n ≤ reachBytes := fun n hn => by
    have h := List.all_eq_true.1 hsz n (DataW.weights_mem_each (j := 2) (t := 30) (d := d2) rfl rfl n hn)
    simpa using h
  obtain ⟨l, A, cap, rfl, hat, hl, hby⟩ := open_items2 (hval 0 22 v0 rfl rfl) h0 hs0
  obtain ⟨c, rfl, hc⟩ := open_hash (hval 1 24 v1 rfl rfl) h1
  obtain ⟨x, u1, u2, rfl, hx, hxd, hxl⟩ := open_item (hval 2 30 v2 rfl rfl) h2 hs2
  have fin : ∀ e W', e = Ending.returned (.bool true) ∧ Below W.heap.size W W' → ∃ y, e = .returned y ∧ Rows.drvNeedsSpec.post enc Try.prog Try.f3 false true false false W #[.slice A l.length cap, .agg (bv c).toArray, .agg (tC x u1 u2).toArray] y W' := by
    rintro e W' ⟨rfl, hb⟩
    exact ⟨_, rfl, law_end laidOut hW' rfl rfl (by kernel_rfl) Try.underlying4 (by kernel_rfl) hb⟩
  exact (drvNeeds_any W l A cap hat hl hby c hc x u1 u2 hx hxd hxl).mono fin
theorem drvNeeds_holds : Rows.DrvNeedsSaid :=
  OpenClaim.holds_of_wide 3 Try.f3 rfl rfl rfl rfl rfl rfl rfl ⟨rfl, rfl, rfl, rfl, rfl⟩ rfl rfl rfl rfl rfl (by kernel_rfl) Try.func3 (by kernel_rfl)
    (of_decide_eq_true (by kernel_rfl)) (by unfold Func.isWrapper; first | (rw [if_pos (by decide +kernel)]; kernel_rfl) | (rw [if_neg (by decide +kernel)]; exact ⟨rfl, rfl⟩))
    (fun os started H enc _ => drvNeeds_lifted os started H enc)
#print axioms drvNeeds_holds
end Go.Proofs.Ytkiaofmngnmdhaa
end
