/- spencelaw19.ClassKeeps. Items and hashes as arguments, opened. spencelaw19.ClassKeeps is true of every input, and leaves all as it was. No condition. -/
import Derived.Test.YtidiepbmbbflhaaMK6
import Derived.Test.YtidiepbmbbflhaaMK8
import Derived.Test.YtidiepbmbbflhaaMK4
import Derived.Test.YtidiepbmbbflhaaRow
import Derived.Test.YtidiepbmbbflhaaRows
section
namespace Go.Proofs.Ytidiepbmbbflhaa
open Go Go.RowKit Go.Maps
set_option maxRecDepth 100000
/-- what is so of what is kept -/
structure KeepG (l : List Itm) (keep : List Hsh) (G : List Itm) : Prop where
  tab : tabP hofP G = true
  sub : ∀ x ∈ G, x ∈ l
  find : ∀ k ∈ keep, (findI G k).isSome = (findI l k).isSome
  used : ∀ x ∈ G, x.1 ∉ keep → 0 < (Dr.usersP (G.map itP) x.1).length
  order : ∀ (i : Nat) (x y : Itm), G[i]? = some x → G[i + 1]? = some y → posI l x < posI l y
  again : AgainP hofP l 0 G
theorem keepG_of {l : List Itm} (h : tabP hofP l = true) (keep : List Hsh) : KeepG l keep (keepP l keep) :=
  ⟨keep_tab h keep, fun _ hx => (keep_mem.1 hx).1, fun _ hk => keep_find h hk, fun _ hx hn => keep_used h hx hn, fun _ _ _ hx hy => keep_order ((Dr.rightP_iff _).1 (tab_right h)) keep hx hy, again_keep h keep⟩
theorem tab_len {l g : List Itm} (hg : tabP hofP g = true) (hs : ∀ x ∈ g, x ∈ l) : g.length ≤ l.length := by
  have n2 := ((Dr.rightP_iff _).1 (tab_right hg)).nodup
  have e : ∀ q : List Itm, (Dr.css (q.map itP)).length = q.length := css_len
  have h1 := nodup_le n2 (b := Dr.css (l.map itP)) fun c hc => by
    obtain ⟨x, hx, rfl⟩ := css_mem hc
    exact List.mem_map.2 ⟨itP x, List.mem_map.2 ⟨x, hs x hx, rfl⟩, rfl⟩
  rwa [e, e] at h1
theorem pos_ne {l : List Itm} (hr : Dr.Right (l.map itP)) {a : Nat} {x y : Itm} (hy : l[a]? = some y) (ha : ¬ a = posI l x) : ¬ y.1 = x.1 := fun e => ha (by
  have h := pos_at hr hy
  unfold posI at h ⊢
  rw [← e, h])
theorem mem_step {keep : List Hsh} {k : Nat} {z c : Hsh} (h : keep[k]? = some z) : (c ∈ keep.take (k + 1)) ↔ (c ∈ keep.take k ∨ c = z) := by
  rw [List.take_add_one, h]
  simp
theorem great19_c (w : World) (l : List Itm) (A : Option Addr) (cap : Nat) (h : itmsLay.At w w.heap.size [.slice A l.length cap] l) (hl : ∀ x ∈ l, LightD x.2) (b : Bool) (hb : decide (1500 < cntF (fun x : Itm => drvOfP 1500 x.2) 1500 0 l) = b) :
    Calls Try.prog 13 #[.slice A l.length cap] w fun e w' => e = .returned (.bool b) ∧ Below w.heap.size w w' := hb ▸ great19_any w l A cap h hl
set_option maxHeartbeats 8000000 in
theorem keeps_any (w : World) (l : List Itm) (A : Option Addr) (cap : Nat) (h : itmsLay.At w w.heap.size [.slice A l.length cap] l) (hl : ∀ x ∈ l, LightD x.2) (keep : List Hsh) (K : Option Addr) (kc : Nat) (hk : hashesLay.At w w.heap.size [.slice K keep.length kc] keep) :
    Calls Try.prog 4 #[.slice A l.length cap, .slice K keep.length kc] w fun e w' => e = .returned (.bool true) ∧ Below w.heap.size w w' := by
  have HIT := hide h
  have HKT := hide hk
  have HLI := hide hl
  have hokl : ∀ x ∈ l, okH x.1 := by
    obtain ⟨_, ls, hls, hok, _⟩ := itms_open h
    intro x hx
    rw [← hls] at hx
    obtain ⟨p, hp, rfl⟩ := List.mem_map.1 hx
    exact (hok p hp).1
  have HOL := hide hokl
  clear h hk hl hokl
  by_cases hgr : 1500 < cntF (fun x : Itm => drvOfP 1500 x.2) 1500 0 l
  · have HGR := hide (decide_eq_true hgr)
    clear hgr
    have H0 := hide (Mem.start w)
    go_enter Try.func4, Try.ntmps4
    go_wp2_with fail
    refine (awake19_any w).mono ?_
    rintro e w1 ⟨rfl, hb⟩
    dsimp only
    have H1 := hide (Mem.call H0.out hb)
    clear hb
    go_wp2_with fail
    refine (great19_c w1 l A cap (Mem.lay H1.out HIT.out) HLI.out true HGR.out).mono ?_
    rintro e w2 ⟨rfl, hb⟩
    dsimp only
    have H2 := hide (Mem.call H1.out hb)
    clear hb
    go_wp2_with fail
    go_ret
    exact ⟨rfl, Mem.below H2.out⟩
  · have hle := cntF_le (most := 1500) (f := fun x : Itm => drvOfP 1500 x.2) (fun x => drvOfP_pos 1500 x.2) l 0 (by omega)
    have hn15 : l.length ≤ 1500 := by have := hle.1; omega
    have hsz : ∀ x ∈ l, x.2.2.1.length ≤ 1000000 ∧ x.2.2.2.length ≤ 1000000 := fun x hx => by
      have h1 := hle.2.2 x hx
      have h2 := drvOfP_small h1
      omega
    have HSZ := hide hsz
    have HGR := hide (decide_eq_false hgr)
    clear hgr hle hsz
    by_cases h30 : 30 < keep.length
    · have h31 : (keep.length : Int) > 30 := by omega
      have H0 := hide (Mem.start w)
      go_enter Try.func4, Try.ntmps4
      go_wp2_with fail
      refine (awake19_any w).mono ?_
      rintro e w1 ⟨rfl, hb⟩
      dsimp only
      have H1 := hide (Mem.call H0.out hb)
      clear hb
      go_wp2_with fail
      refine (great19_c w1 l A cap (Mem.lay H1.out HIT.out) HLI.out false HGR.out).mono ?_
      rintro e w2 ⟨rfl, hb⟩
      dsimp only
      have H2 := hide (Mem.call H1.out hb)
      clear hb
      go_wp2_with fail
      go_ret
      exact ⟨rfl, Mem.below H2.out⟩
    · have h31 : ¬ (keep.length : Int) > 30 := by omega
      cases ht : tabP hofP l
      · have HT := hide ht
        clear ht
        have H0 := hide (Mem.start w)
        go_enter Try.func4, Try.ntmps4
        go_wp2_with fail
        refine (awake19_any w).mono ?_
        rintro e w1 ⟨rfl, hb⟩
        dsimp only
        have H1 := hide (Mem.call H0.out hb)
        clear hb
        go_wp2_with fail
        refine (great19_c w1 l A cap (Mem.lay H1.out HIT.out) HLI.out false HGR.out).mono ?_
        rintro e w2 ⟨rfl, hb⟩
        dsimp only
        have H2 := hide (Mem.call H1.out hb)
        clear hb
        go_wp2_with fail
        refine (drop_no w2 l A cap (Mem.lay H2.out HIT.out) HSZ.out _ HT.out).mono ?_
        rintro e w3 ⟨rfl, hb⟩
        dsimp only
        have H3 := hide (Mem.call H2.out hb)
        clear hb
        go_wp2_with fail
        refine (tableB w3 l A cap (Mem.lay H3.out HIT.out) (fun x hx => (HSZ.out x hx).1) false HT.out).mono ?_
        rintro e w4 ⟨rfl, hb⟩
        dsimp only
        have H4 := hide (Mem.call H3.out hb)
        clear hb
        go_wp2_with fail
        go_ret
        exact ⟨rfl, Mem.below H4.out⟩
      · have HT := hide ht
        clear ht
        have H0 := hide (Mem.start w)
        go_enter Try.func4, Try.ntmps4
        go_wp2_with fail
        refine (awake19_any w).mono ?_
        rintro e w1 ⟨rfl, hb⟩
        dsimp only
        have H1 := hide (Mem.call H0.out hb)
        clear hb
        go_wp2_with fail
        refine (great19_c w1 l A cap (Mem.lay H1.out HIT.out) HLI.out false HGR.out).mono ?_
        rintro e w2 ⟨rfl, hb⟩
        dsimp only
        have H2 := hide (Mem.call H1.out hb)
        clear hb
        go_wp2_with fail
        refine (drop_yes w2 l A cap (Mem.lay H2.out HIT.out) HSZ.out (by omega) keep K kc (Mem.lay H2.out HKT.out) (by omega) HT.out).mono ?_
        rintro e wb ⟨A1, c1, ls1, rfl, hls1, hm1⟩
        dsimp only
        obtain ⟨G, hG⟩ : ∃ G, G = keepP l keep := ⟨_, rfl⟩
        rw [← hG] at hm1 hls1
        rw [← hG]
        have hkg : KeepG l keep G := hG ▸ keepG_of HT.out keep
        have HKG := hide hkg
        have hgl := tab_len hkg.tab hkg.sub
        have HR9 := hide ((Dr.rightP_iff _).1 (tab_right HT.out))
        have HB1 := hide ((Mem.start w).call ((Mem.below H2.out).trans (Below.mono (Mem.below hm1) (Mem.below H2.out).size)))
        have hg9 := itms_now hm1 (fun x hx => HOL.out x (hkg.sub x hx)) hls1
        have HGT := hide hg9
        have HAT := hide (Mem.lay HB1.out HIT.out)
        have HKB := hide (Mem.lay HB1.out HKT.out)
        clear hG hm1 hls1 hkg hg9
        obtain ⟨A', cap', e, _, _, _, hA⟩ := slice_open HAT.out
        injection e with e1 e2 e3
        subst e1 e3
        obtain ⟨A', cap', e, _, _, _, hG9⟩ := slice_open HGT.out
        injection e with e1 e4 e3
        subst e1 e3
        obtain ⟨A', cap', e, _, _, _, hK9⟩ := slice_open HKB.out
        injection e with e1 e5 e3
        subst e1 e3
        have HA := hide hA
        have HG := hide hG9
        have HK := hide hK9
        clear hA hG9 hK9 e2 e4 e5
        have HS := hide (Mem.start wb)
        go_wp2_with fail
        go_loopw [7, 8] (fun x7 x8 wr => ∃ (a i : Nat), i ≤ G.length ∧ x7 = .int .i64 (a : Int) ∧ x8 = .int .i64 (i : Int) ∧ (∀ x, G[i]? = some x → a ≤ posI l x) ∧ Mem wb wr []) (fun _ x8 _ => G.length - (intOf x8).toNat)
        case atStart => exact ⟨0, 0, by omega, rfl, rfl, (fun _ _ => Nat.zero_le _), HS.out⟩
        case round =>
          obtain ⟨wo, rfl⟩ : ∃ wo, wo = wr := ⟨_, rfl⟩
          obtain ⟨a, i, hi, rfl, rfl, hap, hm⟩ := hrel
          have HM := hide hm
          clear hm
          have i0 : (0 : Int) ≤ (i : Int) := by omega
          by_cases hi2 : i < G.length
          · have i1 : (i : Int) < (G.length : Int) := by omega
            obtain ⟨x, hx⟩ : ∃ x, G[i]? = some x := ⟨_, List.getElem?_eq_getElem hi2⟩
            have hxl := HKG.out.sub x (List.mem_of_getElem? hx)
            have hll : 0 < l.length := List.length_pos_of_mem hxl
            obtain ⟨b, off, rfl, hltb, hE⟩ := HA.out hll
            obtain ⟨q, oq, rfl, hltq, hF⟩ := HG.out (by omega)
            have hap := hap x hx
            have hpl := pos_lt HR9.out hxl
            have hpn : posI l x < l.length := (List.getElem?_eq_some_iff.1 hpl).1
            have HPL := hide hpl
            have HE := hide (And.intro hE hltb)
            clear hE hltb hpl
            obtain ⟨csx, hrx, hatx⟩ := hF i x hx
            obtain ⟨v1, v2, rfl, xo, xd⟩ := itmLay_at.1 hatx
            obtain ⟨v3, v4⟩ := xd.ones
            have HX := hide (And.intro hrx (And.intro hltq (And.intro xd hx)))
            clear hrx hatx xd hx
            clear hF hltq hxl
            go_wp2_with fail
            go_loopw [7] (fun x7 wr => ∃ a : Nat, a ≤ posI l x ∧ x7 = .int .i64 (a : Int) ∧ Mem wb wr []) (fun x7 _ => l.length - (intOf x7).toNat)
            case atStart => exact ⟨a, hap, rfl, HM.out⟩
            case round =>
              obtain ⟨wp, rfl⟩ : ∃ wp, wp = wr := ⟨_, rfl⟩
              obtain ⟨a2, ha2, rfl, hm⟩ := hrel
              have HM2 := hide hm
              clear hm
              have a0 : (0 : Int) ≤ (a2 : Int) := by omega
              have a3 : a2 < l.length := by omega
              have a1 : (a2 : Int) < (l.length : Int) := by omega
              have a4 : ¬ (a2 : Int) = (l.length : Int) := by omega
              obtain ⟨y, hy⟩ : ∃ y, l[a2]? = some y := ⟨_, List.getElem?_eq_getElem a3⟩
              by_cases hq2 : a2 = posI l x
              · have hyx : x = y := by rw [hq2, HPL.out] at hy; exact Option.some.inj hy
                subst hyx
                obtain ⟨csx, hrx, hatx⟩ := HE.out.1 a2 x hy
                obtain ⟨u1, u2, rfl, xo, xd⟩ := itmLay_at.1 hatx
                obtain ⟨u3, u4⟩ := xd.ones
                have HY := hide (And.intro hrx (And.intro HE.out.2 (And.intro xd hy)))
                clear hrx hatx xd hy
                go_wp2_with fail
                refine Fre.wp_madeA (X := Bel) [] (by kernel_rfl) (by kernel_rfl) (by simp) (by simp) (by simp) ?_
                refine Fre.made_val (.int .i64 (a2 : Int)) (by kernel_rfl) (by kernel_rfl) (by kernel_rfl) (fun _ _ => by kernel_rfl) ?_
                simp only [Act.put, List.setIfInBounds_toArray, List.set_cons_zero, List.set_cons_succ]
                refine Fre.made_val (.slice (some ⟨b, off, none⟩) l.length cap) (by kernel_rfl) (by kernel_rfl) (by kernel_rfl) (fun _ _ => by kernel_rfl) ?_
                simp only [Act.put, List.setIfInBounds_toArray, List.set_cons_zero, List.set_cons_succ]
                refine Fre.made_val (.int .i64 (l.length : Int)) (by kernel_rfl) (by kernel_rfl) (by kernel_rfl) (fun _ _ => by kernel_rfl) ?_
                simp only [Act.put, List.setIfInBounds_toArray, List.set_cons_zero, List.set_cons_succ]
                refine Fre.made_val (.bool true) (by kernel_rfl) (by kernel_rfl) (by kernel_rfl) (fun W9 hW9 => ?hs2) ?_
                case hs2 =>
                  go_simp
                simp only [Act.put, List.setIfInBounds_toArray, List.set_cons_zero, List.set_cons_succ]
                refine Fre.made_val (.bool true) (by kernel_rfl) (by kernel_rfl) (by kernel_rfl) (fun _ _ => by kernel_rfl) ?_
                simp only [Act.put, List.setIfInBounds_toArray, List.set_cons_zero, List.set_cons_succ]
                refine Fre.made_val (.slice (some ⟨b, off, none⟩) l.length cap) (by kernel_rfl) (by kernel_rfl) (by kernel_rfl) (fun _ _ => by kernel_rfl) ?_
                simp only [Act.put, List.setIfInBounds_toArray, List.set_cons_zero, List.set_cons_succ]
                refine Fre.made_val (.int .i64 (a2 : Int)) (by kernel_rfl) (by kernel_rfl) (by kernel_rfl) (fun _ _ => by kernel_rfl) ?_
                simp only [Act.put, List.setIfInBounds_toArray, List.set_cons_zero, List.set_cons_succ]
                refine Fre.made_val (.pointer (some ⟨b, off + a2 * 23, none⟩)) (by kernel_rfl) (by kernel_rfl) (by kernel_rfl) (fun W9 hW9 => (exec_idxO (o := ⟨some 64, _, _, _, _, _⟩) 25 43 (.tmp 62) (.tmp 63) rfl b off l.length cap a2 rfl rfl a3 23 Try.underlying25 sz_itm W9)) ?_
                simp only [Act.put, List.setIfInBounds_toArray, List.set_cons_zero, List.set_cons_succ]
                refine Fre.made_val (.pointer (some ⟨b, off + a2 * 23, none⟩)) (by kernel_rfl) (by kernel_rfl) (by kernel_rfl) (fun _ _ => by kernel_rfl) ?_
                simp only [Act.put, List.setIfInBounds_toArray, List.set_cons_zero, List.set_cons_succ]
                refine Fre.made_val (.agg (bv x.1).toArray) (by kernel_rfl) (by kernel_rfl) (by kernel_rfl) (fun W9 hW9 => (exec_load_mid (o := ⟨some 66, _, _, _, _, _⟩) 27 (.tmp 65) rfl b (off + a2 * 23) rfl (bv x.1) _ W9 (item_cls9 (Mem.range (Mem.call HM2.out hW9) HY.out.1 HY.out.2.1)) Try.underlying27 rfl (hszL xo))) ?_
                simp only [Act.put, List.setIfInBounds_toArray, List.set_cons_zero, List.set_cons_succ]
                refine Fre.made_val (.slice (some ⟨q, oq, none⟩) G.length c1) (by kernel_rfl) (by kernel_rfl) (by kernel_rfl) (fun _ _ => by kernel_rfl) ?_
                simp only [Act.put, List.setIfInBounds_toArray, List.set_cons_zero, List.set_cons_succ]
                refine Fre.made_val (.int .i64 (i : Int)) (by kernel_rfl) (by kernel_rfl) (by kernel_rfl) (fun _ _ => by kernel_rfl) ?_
                simp only [Act.put, List.setIfInBounds_toArray, List.set_cons_zero, List.set_cons_succ]
                refine Fre.made_val (.pointer (some ⟨q, oq + i * 23, none⟩)) (by kernel_rfl) (by kernel_rfl) (by kernel_rfl) (fun W9 hW9 => (exec_idxO (o := ⟨some 69, _, _, _, _, _⟩) 25 43 (.tmp 67) (.tmp 68) rfl q oq G.length c1 i rfl rfl hi2 23 Try.underlying25 sz_itm W9)) ?_
                simp only [Act.put, List.setIfInBounds_toArray, List.set_cons_zero, List.set_cons_succ]
                refine Fre.made_val (.pointer (some ⟨q, oq + i * 23, none⟩)) (by kernel_rfl) (by kernel_rfl) (by kernel_rfl) (fun _ _ => by kernel_rfl) ?_
                simp only [Act.put, List.setIfInBounds_toArray, List.set_cons_zero, List.set_cons_succ]
                refine Fre.made_val (.agg (bv x.1).toArray) (by kernel_rfl) (by kernel_rfl) (by kernel_rfl) (fun W9 hW9 => (exec_load_mid (o := ⟨some 71, _, _, _, _, _⟩) 27 (.tmp 70) rfl q (oq + i * 23) rfl (bv x.1) _ W9 (item_cls9 (Mem.range (Mem.call HM2.out hW9) HX.out.1 HX.out.2.1)) Try.underlying27 rfl (hszL xo))) ?_
                simp only [Act.put, List.setIfInBounds_toArray, List.set_cons_zero, List.set_cons_succ]
                refine Fre.made_val (.bool false) (by kernel_rfl) (by kernel_rfl) (by kernel_rfl) (fun W9 hW9 => (exec_neA (o := ⟨some 72, _, _, _, _, _⟩) 27 27 (.tmp 66) (.tmp 71) rfl (bv x.1).toArray (bv x.1).toArray rfl rfl (by kernel_rfl) true W9 (by have h9 := eq_hash x.1 x.1 xo xo W9; rwa [decide_eq_true rfl] at h9))) ?_
                simp only [Act.put, List.setIfInBounds_toArray, List.set_cons_zero, List.set_cons_succ]
                refine Fre.made_val (.bool false) (by kernel_rfl) (by kernel_rfl) (by kernel_rfl) (fun _ _ => by kernel_rfl) ?_
                simp only [Act.put, List.setIfInBounds_toArray, List.set_cons_zero, List.set_cons_succ]
                intro w4 hx
                dsimp only [Fre.ended, List.drop]
                have H4 := hide (Mem.call HM2.out hx)
                clear hx
                go_wp2_with fail
                refine Fre.wp_madeA (X := Bel) [] (by kernel_rfl) (by kernel_rfl) (by simp) (by simp) (by simp) ?_
                refine Fre.made_val (.int .i64 (a2 : Int)) (by kernel_rfl) (by kernel_rfl) (by kernel_rfl) (fun _ _ => by kernel_rfl) ?_
                simp only [Act.put, List.setIfInBounds_toArray, List.set_cons_zero, List.set_cons_succ]
                refine Fre.made_val (.slice (some ⟨b, off, none⟩) l.length cap) (by kernel_rfl) (by kernel_rfl) (by kernel_rfl) (fun _ _ => by kernel_rfl) ?_
                simp only [Act.put, List.setIfInBounds_toArray, List.set_cons_zero, List.set_cons_succ]
                refine Fre.made_val (.int .i64 (l.length : Int)) (by kernel_rfl) (by kernel_rfl) (by kernel_rfl) (fun _ _ => by kernel_rfl) ?_
                simp only [Act.put, List.setIfInBounds_toArray, List.set_cons_zero, List.set_cons_succ]
                refine Fre.made_val (.bool false) (by kernel_rfl) (by kernel_rfl) (by kernel_rfl) (fun W9 hW9 => ?hs3) ?_
                case hs3 =>
                  go_simp
                  all_goals omega
                simp only [Act.put, List.setIfInBounds_toArray, List.set_cons_zero, List.set_cons_succ]
                refine Fre.made_val (.bool false) (by kernel_rfl) (by kernel_rfl) (by kernel_rfl) (fun _ _ => by kernel_rfl) ?_
                simp only [Act.put, List.setIfInBounds_toArray, List.set_cons_zero, List.set_cons_succ]
                refine Fre.made_val (.slice (some ⟨b, off, none⟩) l.length cap) (by kernel_rfl) (by kernel_rfl) (by kernel_rfl) (fun _ _ => by kernel_rfl) ?_
                simp only [Act.put, List.setIfInBounds_toArray, List.set_cons_zero, List.set_cons_succ]
                refine Fre.made_val (.int .i64 (a2 : Int)) (by kernel_rfl) (by kernel_rfl) (by kernel_rfl) (fun _ _ => by kernel_rfl) ?_
                simp only [Act.put, List.setIfInBounds_toArray, List.set_cons_zero, List.set_cons_succ]
                refine Fre.made_val (.pointer (some ⟨b, off + a2 * 23, none⟩)) (by kernel_rfl) (by kernel_rfl) (by kernel_rfl) (fun W9 hW9 => (exec_idxO (o := ⟨some 83, _, _, _, _, _⟩) 25 43 (.tmp 81) (.tmp 82) rfl b off l.length cap a2 rfl rfl a3 23 Try.underlying25 sz_itm W9)) ?_
                simp only [Act.put, List.setIfInBounds_toArray, List.set_cons_zero, List.set_cons_succ]
                refine Fre.made_val (.pointer (some ⟨b, off + a2 * 23 + 20, none⟩)) (by kernel_rfl) (by kernel_rfl) (by kernel_rfl) (fun _ _ => by kernel_rfl) ?_
                simp only [Act.put, List.setIfInBounds_toArray, List.set_cons_zero, List.set_cons_succ]
                refine Fre.made_val (.agg (dC x.2 u1 u2).toArray) (by kernel_rfl) (by kernel_rfl) (by kernel_rfl) (fun W9 hW9 => (exec_load_mid (o := ⟨some 85, _, _, _, _, _⟩) 34 (.tmp 84) rfl b (off + a2 * 23 + 20) rfl (dC x.2 u1 u2) _ W9 (item_drv9 xo (Mem.range (Mem.call H4.out hW9) HY.out.1 HY.out.2.1)) Try.underlying34 rfl (dC_szl x.2 u1 u2))) ?_
                simp only [Act.put, List.setIfInBounds_toArray, List.set_cons_zero, List.set_cons_succ]
                refine Fre.made_val (.slice (some ⟨q, oq, none⟩) G.length c1) (by kernel_rfl) (by kernel_rfl) (by kernel_rfl) (fun _ _ => by kernel_rfl) ?_
                simp only [Act.put, List.setIfInBounds_toArray, List.set_cons_zero, List.set_cons_succ]
                refine Fre.made_val (.int .i64 (i : Int)) (by kernel_rfl) (by kernel_rfl) (by kernel_rfl) (fun _ _ => by kernel_rfl) ?_
                simp only [Act.put, List.setIfInBounds_toArray, List.set_cons_zero, List.set_cons_succ]
                refine Fre.made_val (.pointer (some ⟨q, oq + i * 23, none⟩)) (by kernel_rfl) (by kernel_rfl) (by kernel_rfl) (fun W9 hW9 => (exec_idxO (o := ⟨some 88, _, _, _, _, _⟩) 25 43 (.tmp 86) (.tmp 87) rfl q oq G.length c1 i rfl rfl hi2 23 Try.underlying25 sz_itm W9)) ?_
                simp only [Act.put, List.setIfInBounds_toArray, List.set_cons_zero, List.set_cons_succ]
                refine Fre.made_val (.pointer (some ⟨q, oq + i * 23 + 20, none⟩)) (by kernel_rfl) (by kernel_rfl) (by kernel_rfl) (fun _ _ => by kernel_rfl) ?_
                simp only [Act.put, List.setIfInBounds_toArray, List.set_cons_zero, List.set_cons_succ]
                refine Fre.made_val (.agg (dC x.2 v1 v2).toArray) (by kernel_rfl) (by kernel_rfl) (by kernel_rfl) (fun W9 hW9 => (exec_load_mid (o := ⟨some 90, _, _, _, _, _⟩) 34 (.tmp 89) rfl q (oq + i * 23 + 20) rfl (dC x.2 v1 v2) _ W9 (item_drv9 xo (Mem.range (Mem.call H4.out hW9) HX.out.1 HX.out.2.1)) Try.underlying34 rfl (dC_szl x.2 v1 v2))) ?_
                simp only [Act.put, List.setIfInBounds_toArray, List.set_cons_zero, List.set_cons_succ]
                refine Fre.made_call (.bool true) 11 #[.agg (dC x.2 u1 u2).toArray, .agg (dC x.2 v1 v2).toArray] (by kernel_rfl) (by kernel_rfl) (by kernel_rfl) (fun W9 => by kernel_rfl) (fun W9 hW9 => sameD_c W9 x.2 x.2 u1 u2 v1 v2 (Mem.drv (Mem.call H4.out hW9) HY.out.2.2.1) (Mem.drv (Mem.call H4.out hW9) HX.out.2.2.1) true (decide_eq_true rfl)) ?_
                simp only [Act.put, List.setIfInBounds_toArray, List.set_cons_zero, List.set_cons_succ]
                refine Fre.made_val (.bool false) (by kernel_rfl) (by kernel_rfl) (by kernel_rfl) (fun _ _ => by kernel_rfl) ?_
                simp only [Act.put, List.setIfInBounds_toArray, List.set_cons_zero, List.set_cons_succ]
                refine Fre.made_val (.bool false) (by kernel_rfl) (by kernel_rfl) (by kernel_rfl) (fun _ _ => by kernel_rfl) ?_
                simp only [Act.put, List.setIfInBounds_toArray, List.set_cons_zero, List.set_cons_succ]
                intro w5 hx
                dsimp only [Fre.ended, List.drop]
                have H5 := hide (Mem.call H4.out hx)
                clear hx
                go_wp2_with (first | ((with_reducible refine at_slot 97 ?_); (refine wpList_value (o := ⟨some 97, _, _, _, _, _⟩) rfl (.pointer (some ⟨q, oq + i * 23, none⟩)) w5 (exec_idxO (o := ⟨some 97, _, _, _, _, _⟩) 25 43 (.tmp 95) (.tmp 96) rfl q oq G.length c1 i rfl rfl hi2 23 Try.underlying25 sz_itm w5) ?_)) | ((with_reducible refine at_slot 99 ?_); (refine wpList_value (o := ⟨some 99, _, _, _, _, _⟩) rfl (.agg (bv x.1).toArray) w5 (exec_load_mid (o := ⟨some 99, _, _, _, _, _⟩) 27 (.tmp 98) rfl q (oq + i * 23) rfl (bv x.1) _ w5 (item_cls9 (Mem.range H5.out HX.out.1 HX.out.2.1)) Try.underlying27 rfl (hszL xo)) ?_)))
                refine (users_any w5 G _ c1 (Mem.lay H5.out HGT.out) (fun x hx => (HSZ.out x (HKG.out.sub x hx)).1) (by omega) x.1 xo).mono ?_
                rintro e w6 ⟨u9, rfl, hu, hb⟩
                dsimp only
                have H6 := hide (Mem.call H5.out hb)
                obtain ⟨A9, c9, rfl⟩ := own_len hu
                clear hu hb
                go_wp2_with fail
                go_loopw [10, 11] (fun x10 x11 wr => ∃ k : Nat, k ≤ keep.length ∧ x10 = .bool (decide (x.1 ∈ keep.take k)) ∧ x11 = .int .i64 (k : Int) ∧ Mem wb wr []) (fun _ x11 _ => keep.length - (intOf x11).toNat)
                case atStart => exact ⟨0, by omega, by rw [List.take_zero, decide_eq_false (by simp)], rfl, H6.out⟩
                case round =>
                  obtain ⟨wq, rfl⟩ : ∃ wq, wq = wr := ⟨_, rfl⟩
                  obtain ⟨k, hk, rfl, rfl, hm⟩ := hrel
                  have HM3 := hide hm
                  clear hm
                  have k0 : (0 : Int) ≤ (k : Int) := by omega
                  by_cases hk2 : k < keep.length
                  · have k1 : (k : Int) < (keep.length : Int) := by omega
                    obtain ⟨z, hz⟩ : ∃ z, keep[k]? = some z := ⟨_, List.getElem?_eq_getElem (by omega)⟩
                    obtain ⟨bk, ok, rfl, hltbk, hE⟩ := HK.out (by omega)
                    obtain ⟨cs, hrz, hatz⟩ := hE k z hz
                    clear hE
                    obtain ⟨rfl, zo⟩ := hashLay_at.1 hatz
                    have HZ := hide (And.intro hrz (And.intro hltbk hz))
                    clear hrz hltbk hz hatz
                    have hstp := mem_step (c := x.1) HZ.out.2.2
                    cases hq : decide (x.1 ∈ keep.take k)
                    · have HQ := hide (of_decide_eq_false hq)
                      have hq9 := of_decide_eq_false hq
                      clear hq
                      cases hc : decide (z = x.1)
                      · have HC := hide hc
                        have hd9 : decide (x.1 ∈ keep.take (k + 1)) = false := decide_eq_false (fun h => (hstp.1 h).elim hq9 fun e => of_decide_eq_false hc e.symm)
                        have HD9 := hide hd9
                        clear hc hd9 hstp hq9
                        go_wp2_with fail
                        refine Fre.wp_madeA (X := Bel) [] (by kernel_rfl) (by kernel_rfl) (by simp) (by simp) (by simp) ?_
                        refine Fre.made_val (.bool false) (by kernel_rfl) (by kernel_rfl) (by kernel_rfl) (fun _ _ => by kernel_rfl) ?_
                        simp only [Act.put, List.setIfInBounds_toArray, List.set_cons_zero, List.set_cons_succ]
                        refine Fre.made_val (.bool false) (by kernel_rfl) (by kernel_rfl) (by kernel_rfl) (fun _ _ => by kernel_rfl) ?_
                        simp only [Act.put, List.setIfInBounds_toArray, List.set_cons_zero, List.set_cons_succ]
                        refine Fre.made_val (.slice (some ⟨bk, ok, none⟩) keep.length kc) (by kernel_rfl) (by kernel_rfl) (by kernel_rfl) (fun _ _ => by kernel_rfl) ?_
                        simp only [Act.put, List.setIfInBounds_toArray, List.set_cons_zero, List.set_cons_succ]
                        refine Fre.made_val (.int .i64 (k : Int)) (by kernel_rfl) (by kernel_rfl) (by kernel_rfl) (fun _ _ => by kernel_rfl) ?_
                        simp only [Act.put, List.setIfInBounds_toArray, List.set_cons_zero, List.set_cons_succ]
                        refine Fre.made_val (.pointer (some ⟨bk, ok + k * 20, none⟩)) (by kernel_rfl) (by kernel_rfl) (by kernel_rfl) (fun W9 hW9 => (exec_idxO (o := ⟨some 111, _, _, _, _, _⟩) 45 27 (.tmp 109) (.tmp 110) rfl bk ok keep.length kc k rfl rfl hk2 20 Try.underlying45 sz_hashD W9)) ?_
                        simp only [Act.put, List.setIfInBounds_toArray, List.set_cons_zero, List.set_cons_succ]
                        refine Fre.made_val (.agg (bv z).toArray) (by kernel_rfl) (by kernel_rfl) (by kernel_rfl) (fun W9 hW9 => (exec_load_mid (o := ⟨some 112, _, _, _, _, _⟩) 27 (.tmp 111) rfl bk (ok + k * 20) rfl (bv z) _ W9 (Mem.range (Mem.call HM3.out hW9) HZ.out.1 HZ.out.2.1) Try.underlying27 rfl (hszL zo))) ?_
                        simp only [Act.put, List.setIfInBounds_toArray, List.set_cons_zero, List.set_cons_succ]
                        refine Fre.made_val (.slice (some ⟨q, oq, none⟩) G.length c1) (by kernel_rfl) (by kernel_rfl) (by kernel_rfl) (fun _ _ => by kernel_rfl) ?_
                        simp only [Act.put, List.setIfInBounds_toArray, List.set_cons_zero, List.set_cons_succ]
                        refine Fre.made_val (.int .i64 (i : Int)) (by kernel_rfl) (by kernel_rfl) (by kernel_rfl) (fun _ _ => by kernel_rfl) ?_
                        simp only [Act.put, List.setIfInBounds_toArray, List.set_cons_zero, List.set_cons_succ]
                        refine Fre.made_val (.pointer (some ⟨q, oq + i * 23, none⟩)) (by kernel_rfl) (by kernel_rfl) (by kernel_rfl) (fun W9 hW9 => (exec_idxO (o := ⟨some 115, _, _, _, _, _⟩) 25 43 (.tmp 113) (.tmp 114) rfl q oq G.length c1 i rfl rfl hi2 23 Try.underlying25 sz_itm W9)) ?_
                        simp only [Act.put, List.setIfInBounds_toArray, List.set_cons_zero, List.set_cons_succ]
                        refine Fre.made_val (.pointer (some ⟨q, oq + i * 23, none⟩)) (by kernel_rfl) (by kernel_rfl) (by kernel_rfl) (fun _ _ => by kernel_rfl) ?_
                        simp only [Act.put, List.setIfInBounds_toArray, List.set_cons_zero, List.set_cons_succ]
                        refine Fre.made_val (.agg (bv x.1).toArray) (by kernel_rfl) (by kernel_rfl) (by kernel_rfl) (fun W9 hW9 => (exec_load_mid (o := ⟨some 117, _, _, _, _, _⟩) 27 (.tmp 116) rfl q (oq + i * 23) rfl (bv x.1) _ W9 (item_cls9 (Mem.range (Mem.call HM3.out hW9) HX.out.1 HX.out.2.1)) Try.underlying27 rfl (hszL xo))) ?_
                        simp only [Act.put, List.setIfInBounds_toArray, List.set_cons_zero, List.set_cons_succ]
                        refine Fre.made_val (.bool false) (by kernel_rfl) (by kernel_rfl) (by kernel_rfl) (fun W9 hW9 => (exec_eqA (o := ⟨some 118, _, _, _, _, _⟩) 27 27 (.tmp 112) (.tmp 117) rfl (bv z).toArray (bv x.1).toArray rfl rfl (by kernel_rfl) false W9 (by have h9 := eq_hash z x.1 zo xo W9; rwa [HC.out] at h9))) ?_
                        simp only [Act.put, List.setIfInBounds_toArray, List.set_cons_zero, List.set_cons_succ]
                        refine Fre.made_val (.bool false) (by kernel_rfl) (by kernel_rfl) (by kernel_rfl) (fun _ _ => by kernel_rfl) ?_
                        simp only [Act.put, List.setIfInBounds_toArray, List.set_cons_zero, List.set_cons_succ]
                        refine Fre.made_val (.bool false) (by kernel_rfl) (by kernel_rfl) (by kernel_rfl) (fun _ _ => by kernel_rfl) ?_
                        simp only [Act.put, List.setIfInBounds_toArray, List.set_cons_zero, List.set_cons_succ]
                        intro w7 hx
                        dsimp only [Fre.ended, List.drop]
                        have H7 := hide (Mem.call HM3.out hx)
                        clear hx
                        go_wp2_with fail
                        go_roundw
                        case rel => exact ⟨k + 1, by omega, by rw [HD9.out], by go_num, H7.out⟩
                        case measure => simp [intOf]; omega
                      · have HC := hide hc
                        have hd9 : decide (x.1 ∈ keep.take (k + 1)) = true := decide_eq_true (hstp.2 (.inr (of_decide_eq_true hc).symm))
                        have HD9 := hide hd9
                        clear hc hd9 hstp hq9
                        go_wp2_with fail
                        refine Fre.wp_madeA (X := Bel) [] (by kernel_rfl) (by kernel_rfl) (by simp) (by simp) (by simp) ?_
                        refine Fre.made_val (.bool false) (by kernel_rfl) (by kernel_rfl) (by kernel_rfl) (fun _ _ => by kernel_rfl) ?_
                        simp only [Act.put, List.setIfInBounds_toArray, List.set_cons_zero, List.set_cons_succ]
                        refine Fre.made_val (.bool false) (by kernel_rfl) (by kernel_rfl) (by kernel_rfl) (fun _ _ => by kernel_rfl) ?_
                        simp only [Act.put, List.setIfInBounds_toArray, List.set_cons_zero, List.set_cons_succ]
                        refine Fre.made_val (.slice (some ⟨bk, ok, none⟩) keep.length kc) (by kernel_rfl) (by kernel_rfl) (by kernel_rfl) (fun _ _ => by kernel_rfl) ?_
                        simp only [Act.put, List.setIfInBounds_toArray, List.set_cons_zero, List.set_cons_succ]
                        refine Fre.made_val (.int .i64 (k : Int)) (by kernel_rfl) (by kernel_rfl) (by kernel_rfl) (fun _ _ => by kernel_rfl) ?_
                        simp only [Act.put, List.setIfInBounds_toArray, List.set_cons_zero, List.set_cons_succ]
                        refine Fre.made_val (.pointer (some ⟨bk, ok + k * 20, none⟩)) (by kernel_rfl) (by kernel_rfl) (by kernel_rfl) (fun W9 hW9 => (exec_idxO (o := ⟨some 111, _, _, _, _, _⟩) 45 27 (.tmp 109) (.tmp 110) rfl bk ok keep.length kc k rfl rfl hk2 20 Try.underlying45 sz_hashD W9)) ?_
                        simp only [Act.put, List.setIfInBounds_toArray, List.set_cons_zero, List.set_cons_succ]
                        refine Fre.made_val (.agg (bv z).toArray) (by kernel_rfl) (by kernel_rfl) (by kernel_rfl) (fun W9 hW9 => (exec_load_mid (o := ⟨some 112, _, _, _, _, _⟩) 27 (.tmp 111) rfl bk (ok + k * 20) rfl (bv z) _ W9 (Mem.range (Mem.call HM3.out hW9) HZ.out.1 HZ.out.2.1) Try.underlying27 rfl (hszL zo))) ?_
                        simp only [Act.put, List.setIfInBounds_toArray, List.set_cons_zero, List.set_cons_succ]
                        refine Fre.made_val (.slice (some ⟨q, oq, none⟩) G.length c1) (by kernel_rfl) (by kernel_rfl) (by kernel_rfl) (fun _ _ => by kernel_rfl) ?_
                        simp only [Act.put, List.setIfInBounds_toArray, List.set_cons_zero, List.set_cons_succ]
                        refine Fre.made_val (.int .i64 (i : Int)) (by kernel_rfl) (by kernel_rfl) (by kernel_rfl) (fun _ _ => by kernel_rfl) ?_
                        simp only [Act.put, List.setIfInBounds_toArray, List.set_cons_zero, List.set_cons_succ]
                        refine Fre.made_val (.pointer (some ⟨q, oq + i * 23, none⟩)) (by kernel_rfl) (by kernel_rfl) (by kernel_rfl) (fun W9 hW9 => (exec_idxO (o := ⟨some 115, _, _, _, _, _⟩) 25 43 (.tmp 113) (.tmp 114) rfl q oq G.length c1 i rfl rfl hi2 23 Try.underlying25 sz_itm W9)) ?_
                        simp only [Act.put, List.setIfInBounds_toArray, List.set_cons_zero, List.set_cons_succ]
                        refine Fre.made_val (.pointer (some ⟨q, oq + i * 23, none⟩)) (by kernel_rfl) (by kernel_rfl) (by kernel_rfl) (fun _ _ => by kernel_rfl) ?_
                        simp only [Act.put, List.setIfInBounds_toArray, List.set_cons_zero, List.set_cons_succ]
                        refine Fre.made_val (.agg (bv x.1).toArray) (by kernel_rfl) (by kernel_rfl) (by kernel_rfl) (fun W9 hW9 => (exec_load_mid (o := ⟨some 117, _, _, _, _, _⟩) 27 (.tmp 116) rfl q (oq + i * 23) rfl (bv x.1) _ W9 (item_cls9 (Mem.range (Mem.call HM3.out hW9) HX.out.1 HX.out.2.1)) Try.underlying27 rfl (hszL xo))) ?_
                        simp only [Act.put, List.setIfInBounds_toArray, List.set_cons_zero, List.set_cons_succ]
                        refine Fre.made_val (.bool true) (by kernel_rfl) (by kernel_rfl) (by kernel_rfl) (fun W9 hW9 => (exec_eqA (o := ⟨some 118, _, _, _, _, _⟩) 27 27 (.tmp 112) (.tmp 117) rfl (bv z).toArray (bv x.1).toArray rfl rfl (by kernel_rfl) true W9 (by have h9 := eq_hash z x.1 zo xo W9; rwa [HC.out] at h9))) ?_
                        simp only [Act.put, List.setIfInBounds_toArray, List.set_cons_zero, List.set_cons_succ]
                        refine Fre.made_val (.bool true) (by kernel_rfl) (by kernel_rfl) (by kernel_rfl) (fun _ _ => by kernel_rfl) ?_
                        simp only [Act.put, List.setIfInBounds_toArray, List.set_cons_zero, List.set_cons_succ]
                        refine Fre.made_val (.bool true) (by kernel_rfl) (by kernel_rfl) (by kernel_rfl) (fun _ _ => by kernel_rfl) ?_
                        simp only [Act.put, List.setIfInBounds_toArray, List.set_cons_zero, List.set_cons_succ]
                        intro w8 hx
                        dsimp only [Fre.ended, List.drop]
                        have H8 := hide (Mem.call HM3.out hx)
                        clear hx
                        go_wp2_with fail
                        go_roundw
                        case rel => exact ⟨k + 1, by omega, by rw [HD9.out], by go_num, H8.out⟩
                        case measure => simp [intOf]; omega
                    · have hd9 : decide (x.1 ∈ keep.take (k + 1)) = true := decide_eq_true (hstp.2 (.inl (of_decide_eq_true hq)))
                      have HD9 := hide hd9
                      clear hq hd9 hstp
                      go_wp2_with fail
                      refine Fre.wp_madeA (X := Bel) [] (by kernel_rfl) (by kernel_rfl) (by simp) (by simp) (by simp) ?_
                      refine Fre.made_val (.bool true) (by kernel_rfl) (by kernel_rfl) (by kernel_rfl) (fun _ _ => by kernel_rfl) ?_
                      simp only [Act.put, List.setIfInBounds_toArray, List.set_cons_zero, List.set_cons_succ]
                      refine Fre.made_val (.bool true) (by kernel_rfl) (by kernel_rfl) (by kernel_rfl) (fun _ _ => by kernel_rfl) ?_
                      simp only [Act.put, List.setIfInBounds_toArray, List.set_cons_zero, List.set_cons_succ]
                      refine Fre.made_skip (by kernel_rfl) (by kernel_rfl) (by kernel_rfl) ?_
                      simp only [Act.put, List.setIfInBounds_toArray, List.set_cons_zero, List.set_cons_succ]
                      refine Fre.made_skip (by kernel_rfl) (by kernel_rfl) (by kernel_rfl) ?_
                      simp only [Act.put, List.setIfInBounds_toArray, List.set_cons_zero, List.set_cons_succ]
                      refine Fre.made_skip (by kernel_rfl) (by kernel_rfl) (by kernel_rfl) ?_
                      simp only [Act.put, List.setIfInBounds_toArray, List.set_cons_zero, List.set_cons_succ]
                      refine Fre.made_skip (by kernel_rfl) (by kernel_rfl) (by kernel_rfl) ?_
                      simp only [Act.put, List.setIfInBounds_toArray, List.set_cons_zero, List.set_cons_succ]
                      refine Fre.made_skip (by kernel_rfl) (by kernel_rfl) (by kernel_rfl) ?_
                      simp only [Act.put, List.setIfInBounds_toArray, List.set_cons_zero, List.set_cons_succ]
                      refine Fre.made_skip (by kernel_rfl) (by kernel_rfl) (by kernel_rfl) ?_
                      simp only [Act.put, List.setIfInBounds_toArray, List.set_cons_zero, List.set_cons_succ]
                      refine Fre.made_skip (by kernel_rfl) (by kernel_rfl) (by kernel_rfl) ?_
                      simp only [Act.put, List.setIfInBounds_toArray, List.set_cons_zero, List.set_cons_succ]
                      refine Fre.made_skip (by kernel_rfl) (by kernel_rfl) (by kernel_rfl) ?_
                      simp only [Act.put, List.setIfInBounds_toArray, List.set_cons_zero, List.set_cons_succ]
                      refine Fre.made_skip (by kernel_rfl) (by kernel_rfl) (by kernel_rfl) ?_
                      simp only [Act.put, List.setIfInBounds_toArray, List.set_cons_zero, List.set_cons_succ]
                      refine Fre.made_skip (by kernel_rfl) (by kernel_rfl) (by kernel_rfl) ?_
                      simp only [Act.put, List.setIfInBounds_toArray, List.set_cons_zero, List.set_cons_succ]
                      refine Fre.made_val (.bool true) (by kernel_rfl) (by kernel_rfl) (by kernel_rfl) (fun _ _ => by kernel_rfl) ?_
                      simp only [Act.put, List.setIfInBounds_toArray, List.set_cons_zero, List.set_cons_succ]
                      refine Fre.made_val (.bool true) (by kernel_rfl) (by kernel_rfl) (by kernel_rfl) (fun _ _ => by kernel_rfl) ?_
                      simp only [Act.put, List.setIfInBounds_toArray, List.set_cons_zero, List.set_cons_succ]
                      intro w9 hx
                      dsimp only [Fre.ended, List.drop]
                      have H9 := hide (Mem.call HM3.out hx)
                      clear hx
                      go_wp2_with fail
                      go_roundw
                      case rel => exact ⟨k + 1, by omega, by rw [HD9.out], by go_num, H9.out⟩
                      case measure => simp [intOf]; omega
                  · obtain rfl : k = keep.length := by omega
                    rw [List.take_length]
                    have hnx : ∀ y, G[i + 1]? = some y → posI l x ≤ posI l y := fun y hy => by exact Nat.le_of_lt (HKG.out.order i x y HX.out.2.2.2 hy)
                    have HNX := hide hnx
                    clear hnx
                    cases hq : decide (x.1 ∈ keep)
                    · have hu0 := HKG.out.used x (List.mem_of_getElem? HX.out.2.2.2) (of_decide_eq_false hq)
                      have hu1 : ¬ (((Dr.usersP (G.map itP) x.1).length : Nat) : Int) = 0 := by omega
                      clear hq
                      go_wp2_with fail
                      go_roundw
                      case rel => exact ⟨posI l x, i + 1, by omega, rfl, by go_num, HNX.out, HM3.out⟩
                      case measure => simp [intOf]; omega
                    · clear hq
                      go_wp2_with fail
                      go_roundw
                      case rel => exact ⟨posI l x, i + 1, by omega, rfl, by go_num, HNX.out, HM3.out⟩
                      case measure => simp [intOf]; omega
              · have hne := pos_ne HR9.out hy hq2
                have HNE := hide (decide_eq_false hne)
                clear hne
                obtain ⟨csy, hry, haty⟩ := HE.out.1 a2 y hy
                obtain ⟨u1, u2, rfl, yo, yd⟩ := itmLay_at.1 haty
                obtain ⟨u3, u4⟩ := yd.ones
                have HY := hide (And.intro hry (And.intro HE.out.2 (And.intro yd hy)))
                clear hry haty yd hy
                go_wp2_with fail
                refine Fre.wp_madeA (X := Bel) [] (by kernel_rfl) (by kernel_rfl) (by simp) (by simp) (by simp) ?_
                refine Fre.made_val (.int .i64 (a2 : Int)) (by kernel_rfl) (by kernel_rfl) (by kernel_rfl) (fun _ _ => by kernel_rfl) ?_
                simp only [Act.put, List.setIfInBounds_toArray, List.set_cons_zero, List.set_cons_succ]
                refine Fre.made_val (.slice (some ⟨b, off, none⟩) l.length cap) (by kernel_rfl) (by kernel_rfl) (by kernel_rfl) (fun _ _ => by kernel_rfl) ?_
                simp only [Act.put, List.setIfInBounds_toArray, List.set_cons_zero, List.set_cons_succ]
                refine Fre.made_val (.int .i64 (l.length : Int)) (by kernel_rfl) (by kernel_rfl) (by kernel_rfl) (fun _ _ => by kernel_rfl) ?_
                simp only [Act.put, List.setIfInBounds_toArray, List.set_cons_zero, List.set_cons_succ]
                refine Fre.made_val (.bool true) (by kernel_rfl) (by kernel_rfl) (by kernel_rfl) (fun W9 hW9 => ?hs1) ?_
                case hs1 =>
                  go_simp
                simp only [Act.put, List.setIfInBounds_toArray, List.set_cons_zero, List.set_cons_succ]
                refine Fre.made_val (.bool true) (by kernel_rfl) (by kernel_rfl) (by kernel_rfl) (fun _ _ => by kernel_rfl) ?_
                simp only [Act.put, List.setIfInBounds_toArray, List.set_cons_zero, List.set_cons_succ]
                refine Fre.made_val (.slice (some ⟨b, off, none⟩) l.length cap) (by kernel_rfl) (by kernel_rfl) (by kernel_rfl) (fun _ _ => by kernel_rfl) ?_
                simp only [Act.put, List.setIfInBounds_toArray, List.set_cons_zero, List.set_cons_succ]
                refine Fre.made_val (.int .i64 (a2 : Int)) (by kernel_rfl) (by kernel_rfl) (by kernel_rfl) (fun _ _ => by kernel_rfl) ?_
                simp only [Act.put, List.setIfInBounds_toArray, List.set_cons_zero, List.set_cons_succ]
                refine Fre.made_val (.pointer (some ⟨b, off + a2 * 23, none⟩)) (by kernel_rfl) (by kernel_rfl) (by kernel_rfl) (fun W9 hW9 => (exec_idxO (o := ⟨some 64, _, _, _, _, _⟩) 25 43 (.tmp 62) (.tmp 63) rfl b off l.length cap a2 rfl rfl a3 23 Try.underlying25 sz_itm W9)) ?_
                simp only [Act.put, List.setIfInBounds_toArray, List.set_cons_zero, List.set_cons_succ]
                refine Fre.made_val (.pointer (some ⟨b, off + a2 * 23, none⟩)) (by kernel_rfl) (by kernel_rfl) (by kernel_rfl) (fun _ _ => by kernel_rfl) ?_
                simp only [Act.put, List.setIfInBounds_toArray, List.set_cons_zero, List.set_cons_succ]
                refine Fre.made_val (.agg (bv y.1).toArray) (by kernel_rfl) (by kernel_rfl) (by kernel_rfl) (fun W9 hW9 => (exec_load_mid (o := ⟨some 66, _, _, _, _, _⟩) 27 (.tmp 65) rfl b (off + a2 * 23) rfl (bv y.1) _ W9 (item_cls9 (Mem.range (Mem.call HM2.out hW9) HY.out.1 HY.out.2.1)) Try.underlying27 rfl (hszL yo))) ?_
                simp only [Act.put, List.setIfInBounds_toArray, List.set_cons_zero, List.set_cons_succ]
                refine Fre.made_val (.slice (some ⟨q, oq, none⟩) G.length c1) (by kernel_rfl) (by kernel_rfl) (by kernel_rfl) (fun _ _ => by kernel_rfl) ?_
                simp only [Act.put, List.setIfInBounds_toArray, List.set_cons_zero, List.set_cons_succ]
                refine Fre.made_val (.int .i64 (i : Int)) (by kernel_rfl) (by kernel_rfl) (by kernel_rfl) (fun _ _ => by kernel_rfl) ?_
                simp only [Act.put, List.setIfInBounds_toArray, List.set_cons_zero, List.set_cons_succ]
                refine Fre.made_val (.pointer (some ⟨q, oq + i * 23, none⟩)) (by kernel_rfl) (by kernel_rfl) (by kernel_rfl) (fun W9 hW9 => (exec_idxO (o := ⟨some 69, _, _, _, _, _⟩) 25 43 (.tmp 67) (.tmp 68) rfl q oq G.length c1 i rfl rfl hi2 23 Try.underlying25 sz_itm W9)) ?_
                simp only [Act.put, List.setIfInBounds_toArray, List.set_cons_zero, List.set_cons_succ]
                refine Fre.made_val (.pointer (some ⟨q, oq + i * 23, none⟩)) (by kernel_rfl) (by kernel_rfl) (by kernel_rfl) (fun _ _ => by kernel_rfl) ?_
                simp only [Act.put, List.setIfInBounds_toArray, List.set_cons_zero, List.set_cons_succ]
                refine Fre.made_val (.agg (bv x.1).toArray) (by kernel_rfl) (by kernel_rfl) (by kernel_rfl) (fun W9 hW9 => (exec_load_mid (o := ⟨some 71, _, _, _, _, _⟩) 27 (.tmp 70) rfl q (oq + i * 23) rfl (bv x.1) _ W9 (item_cls9 (Mem.range (Mem.call HM2.out hW9) HX.out.1 HX.out.2.1)) Try.underlying27 rfl (hszL xo))) ?_
                simp only [Act.put, List.setIfInBounds_toArray, List.set_cons_zero, List.set_cons_succ]
                refine Fre.made_val (.bool true) (by kernel_rfl) (by kernel_rfl) (by kernel_rfl) (fun W9 hW9 => (exec_neA (o := ⟨some 72, _, _, _, _, _⟩) 27 27 (.tmp 66) (.tmp 71) rfl (bv y.1).toArray (bv x.1).toArray rfl rfl (by kernel_rfl) false W9 (by have h9 := eq_hash y.1 x.1 yo xo W9; rwa [HNE.out] at h9))) ?_
                simp only [Act.put, List.setIfInBounds_toArray, List.set_cons_zero, List.set_cons_succ]
                refine Fre.made_val (.bool true) (by kernel_rfl) (by kernel_rfl) (by kernel_rfl) (fun _ _ => by kernel_rfl) ?_
                simp only [Act.put, List.setIfInBounds_toArray, List.set_cons_zero, List.set_cons_succ]
                intro w3 hx
                dsimp only [Fre.ended, List.drop]
                have H3 := hide (Mem.call HM2.out hx)
                clear hx
                go_wp2_with fail
                go_roundw
                case rel => exact ⟨a2 + 1, by omega, by go_num, H3.out⟩
                case measure => simp [intOf]; omega
          · obtain rfl : i = G.length := by omega
            go_wp2_with fail
            go_loopw [12] (fun x12 wr => ∃ j : Nat, j ≤ keep.length ∧ x12 = .int .i64 (j : Int) ∧ Mem wb wr []) (fun x12 _ => keep.length - (intOf x12).toNat)
            case atStart => exact ⟨0, by omega, rfl, HM.out⟩
            case round =>
              obtain ⟨wp, rfl⟩ : ∃ wp, wp = wr := ⟨_, rfl⟩
              obtain ⟨j, hj, rfl, hm⟩ := hrel
              have HM2 := hide hm
              clear hm
              have j0 : (0 : Int) ≤ (j : Int) := by omega
              by_cases hj2 : j < keep.length
              · have j1 : (j : Int) < (keep.length : Int) := by omega
                obtain ⟨z, hz⟩ : ∃ z, keep[j]? = some z := ⟨_, List.getElem?_eq_getElem (by omega)⟩
                obtain ⟨bk, ok, rfl, hltbk, hE⟩ := HK.out (by omega)
                obtain ⟨cs, hrz, hatz⟩ := hE j z hz
                clear hE
                obtain ⟨rfl, zo⟩ := hashLay_at.1 hatz
                obtain ⟨bb, hbb⟩ : ∃ bb, (findI l z).isSome = bb := ⟨_, rfl⟩
                have hb2 := (HKG.out.find z (List.mem_of_getElem? hz)).trans hbb
                have HZ := hide (And.intro hrz (And.intro hltbk (And.intro hbb hb2)))
                clear hrz hltbk hz hatz hbb hb2
                obtain ⟨d1, hd1⟩ : ∃ d, findD l z = d := ⟨_, rfl⟩
                obtain ⟨d2, hd2⟩ : ∃ d, findD G z = d := ⟨_, rfl⟩
                have HD := hide (And.intro hd1 hd2)
                clear hd1 hd2
                cases bb
                · go_wp2_with (first | ((with_reducible refine at_slot 137 ?_); (refine wpList_value (o := ⟨some 137, _, _, _, _, _⟩) rfl (.pointer (some ⟨bk, ok + j * 20, none⟩)) wp (exec_idxO (o := ⟨some 137, _, _, _, _, _⟩) 45 27 (.tmp 135) (.tmp 136) rfl bk ok keep.length kc j rfl rfl hj2 20 Try.underlying45 sz_hashD wp) ?_)) | ((with_reducible refine at_slot 138 ?_); (refine wpList_value (o := ⟨some 138, _, _, _, _, _⟩) rfl (.agg (bv z).toArray) wp (exec_load_mid (o := ⟨some 138, _, _, _, _, _⟩) 27 (.tmp 137) rfl bk (ok + j * 20) rfl (bv z) _ wp (Mem.range HM2.out HZ.out.1 HZ.out.2.1) Try.underlying27 rfl (hszL zo)) ?_)))
                  refine (findM wp l _ (Mem.lay HM2.out HAT.out) z zo HSZ.out d1 HD.out.1 false HZ.out.2.2.1).mono ?_
                  rintro e w10 ⟨p1, p2, rfl, p3, p4, hm⟩
                  dsimp only
                  have H10 := hide (Mem.call HM2.out (Mem.below hm))
                  clear hm
                  go_wp2_with (first | ((with_reducible refine at_slot 13 ?_); (refine wpList_newZ (o := ⟨some 13, _, _, _, _, _⟩) rfl 34 zcD (by kernel_rfl) ?_); intro w11 hn; have H11 := hide (Mem.new1 H10.out hn); clear hn; simp only [Act.put, List.setIfInBounds_toArray, List.set_cons_zero, List.set_cons_succ]) | ((with_reducible refine at_store 13 140 ?_); (with_reducible refine wpList_store_blkA (o := ⟨none, _, _, _, _, _⟩) rfl 34 (.tmp 13) (.tmp 140) rfl w10.heap.size zcD (dC d1 p1 p2).toArray 34 (Mem.blk H11.out 0 rfl) ?_ ?_ ?_ ?_ ?_ ?_); (exact (dC_sz d1 p1 p2)); (exact sz_eq zcD_sz (dC_sz d1 p1 p2)); (exact (dC_1 d1 p3 p4)); rfl; rfl; intro w12 hk hg; have H12 := hide (Mem.st H11.out 0 rfl hk hg); clear hk hg; simp only [Act.put, List.setIfInBounds_toArray, List.set_cons_zero, List.set_cons_succ]) | ((with_reducible refine at_slot 146 ?_); (refine wpList_value (o := ⟨some 146, _, _, _, _, _⟩) rfl (.pointer (some ⟨bk, ok + j * 20, none⟩)) w12 (exec_idxO (o := ⟨some 146, _, _, _, _, _⟩) 45 27 (.tmp 144) (.tmp 145) rfl bk ok keep.length kc j rfl rfl hj2 20 Try.underlying45 sz_hashD w12) ?_)) | ((with_reducible refine at_slot 147 ?_); (refine wpList_value (o := ⟨some 147, _, _, _, _, _⟩) rfl (.agg (bv z).toArray) w12 (exec_load_mid (o := ⟨some 147, _, _, _, _, _⟩) 27 (.tmp 146) rfl bk (ok + j * 20) rfl (bv z) _ w12 (Mem.range H12.out HZ.out.1 HZ.out.2.1) Try.underlying27 rfl (hszL zo)) ?_)))
                  refine (findM w12 G _ (Mem.lay H12.out HGT.out) z zo (fun x hx => HSZ.out x (HKG.out.sub x hx)) d2 HD.out.2 false HZ.out.2.2.2).mono ?_
                  rintro e w13 ⟨q1, q2, rfl, q3, q4, hm⟩
                  dsimp only
                  have H13 := hide (Mem.call H12.out (Mem.below hm))
                  clear hm
                  go_wp2_with (first | ((with_reducible refine at_slot 15 ?_); (refine wpList_newZ (o := ⟨some 15, _, _, _, _, _⟩) rfl 34 zcD (by kernel_rfl) ?_); intro w14 hn; have H14 := hide (Mem.new1 H13.out hn); clear hn; simp only [Act.put, List.setIfInBounds_toArray, List.set_cons_zero, List.set_cons_succ]) | ((with_reducible refine at_store 15 149 ?_); (with_reducible refine wpList_store_blkA (o := ⟨none, _, _, _, _, _⟩) rfl 34 (.tmp 15) (.tmp 149) rfl w13.heap.size zcD (dC d2 q1 q2).toArray 34 (Mem.blk H14.out 0 rfl) ?_ ?_ ?_ ?_ ?_ ?_); (exact (dC_sz d2 q1 q2)); (exact sz_eq zcD_sz (dC_sz d2 q1 q2)); (exact (dC_1 d2 q3 q4)); rfl; rfl; intro w15 hk hg; have H15 := hide (Mem.st H14.out 0 rfl hk hg); clear hk hg; simp only [Act.put, List.setIfInBounds_toArray, List.set_cons_zero, List.set_cons_succ]))
                  go_roundw
                  case rel => exact ⟨j + 1, by omega, by go_num, Mem.pick H15.out [] (by decide) rfl⟩
                  case measure => simp [intOf]; omega
                · go_wp2_with (first | ((with_reducible refine at_slot 137 ?_); (refine wpList_value (o := ⟨some 137, _, _, _, _, _⟩) rfl (.pointer (some ⟨bk, ok + j * 20, none⟩)) wp (exec_idxO (o := ⟨some 137, _, _, _, _, _⟩) 45 27 (.tmp 135) (.tmp 136) rfl bk ok keep.length kc j rfl rfl hj2 20 Try.underlying45 sz_hashD wp) ?_)) | ((with_reducible refine at_slot 138 ?_); (refine wpList_value (o := ⟨some 138, _, _, _, _, _⟩) rfl (.agg (bv z).toArray) wp (exec_load_mid (o := ⟨some 138, _, _, _, _, _⟩) 27 (.tmp 137) rfl bk (ok + j * 20) rfl (bv z) _ wp (Mem.range HM2.out HZ.out.1 HZ.out.2.1) Try.underlying27 rfl (hszL zo)) ?_)))
                  refine (findM wp l _ (Mem.lay HM2.out HAT.out) z zo HSZ.out d1 HD.out.1 true HZ.out.2.2.1).mono ?_
                  rintro e w16 ⟨p1, p2, rfl, p3, p4, hm⟩
                  dsimp only
                  have H16 := hide (Mem.call HM2.out (Mem.below hm))
                  clear hm
                  go_wp2_with (first | ((with_reducible refine at_slot 13 ?_); (refine wpList_newZ (o := ⟨some 13, _, _, _, _, _⟩) rfl 34 zcD (by kernel_rfl) ?_); intro w17 hn; have H17 := hide (Mem.new1 H16.out hn); clear hn; simp only [Act.put, List.setIfInBounds_toArray, List.set_cons_zero, List.set_cons_succ]) | ((with_reducible refine at_store 13 140 ?_); (with_reducible refine wpList_store_blkA (o := ⟨none, _, _, _, _, _⟩) rfl 34 (.tmp 13) (.tmp 140) rfl w16.heap.size zcD (dC d1 p1 p2).toArray 34 (Mem.blk H17.out 0 rfl) ?_ ?_ ?_ ?_ ?_ ?_); (exact (dC_sz d1 p1 p2)); (exact sz_eq zcD_sz (dC_sz d1 p1 p2)); (exact (dC_1 d1 p3 p4)); rfl; rfl; intro w18 hk hg; have H18 := hide (Mem.st H17.out 0 rfl hk hg); clear hk hg; simp only [Act.put, List.setIfInBounds_toArray, List.set_cons_zero, List.set_cons_succ]) | ((with_reducible refine at_slot 146 ?_); (refine wpList_value (o := ⟨some 146, _, _, _, _, _⟩) rfl (.pointer (some ⟨bk, ok + j * 20, none⟩)) w18 (exec_idxO (o := ⟨some 146, _, _, _, _, _⟩) 45 27 (.tmp 144) (.tmp 145) rfl bk ok keep.length kc j rfl rfl hj2 20 Try.underlying45 sz_hashD w18) ?_)) | ((with_reducible refine at_slot 147 ?_); (refine wpList_value (o := ⟨some 147, _, _, _, _, _⟩) rfl (.agg (bv z).toArray) w18 (exec_load_mid (o := ⟨some 147, _, _, _, _, _⟩) 27 (.tmp 146) rfl bk (ok + j * 20) rfl (bv z) _ w18 (Mem.range H18.out HZ.out.1 HZ.out.2.1) Try.underlying27 rfl (hszL zo)) ?_)))
                  refine (findM w18 G _ (Mem.lay H18.out HGT.out) z zo (fun x hx => HSZ.out x (HKG.out.sub x hx)) d2 HD.out.2 true HZ.out.2.2.2).mono ?_
                  rintro e w19 ⟨q1, q2, rfl, q3, q4, hm⟩
                  dsimp only
                  have H19 := hide (Mem.call H18.out (Mem.below hm))
                  clear hm
                  go_wp2_with (first | ((with_reducible refine at_slot 15 ?_); (refine wpList_newZ (o := ⟨some 15, _, _, _, _, _⟩) rfl 34 zcD (by kernel_rfl) ?_); intro w20 hn; have H20 := hide (Mem.new1 H19.out hn); clear hn; simp only [Act.put, List.setIfInBounds_toArray, List.set_cons_zero, List.set_cons_succ]) | ((with_reducible refine at_store 15 149 ?_); (with_reducible refine wpList_store_blkA (o := ⟨none, _, _, _, _, _⟩) rfl 34 (.tmp 15) (.tmp 149) rfl w19.heap.size zcD (dC d2 q1 q2).toArray 34 (Mem.blk H20.out 0 rfl) ?_ ?_ ?_ ?_ ?_ ?_); (exact (dC_sz d2 q1 q2)); (exact sz_eq zcD_sz (dC_sz d2 q1 q2)); (exact (dC_1 d2 q3 q4)); rfl; rfl; intro w21 hk hg; have H21 := hide (Mem.st H20.out 0 rfl hk hg); clear hk hg; simp only [Act.put, List.setIfInBounds_toArray, List.set_cons_zero, List.set_cons_succ]))
                  go_roundw
                  case rel => exact ⟨j + 1, by omega, by go_num, Mem.pick H21.out [] (by decide) rfl⟩
                  case measure => simp [intOf]; omega
              · obtain rfl : j = keep.length := by omega
                go_wp2_with fail
                go_loopw [17, 18] (fun x17 x18 wr => ∃ (i : Nat) (A2 : Option Addr) (c2 : Nat) (N : List Itm), i ≤ l.length ∧ x17 = .slice A2 N.length c2 ∧ x18 = .int .i64 (i : Int) ∧ AgainP hofP l i N ∧ itmsLay.At wr wr.heap.size [.slice A2 N.length c2] N ∧ Mem wb wr []) (fun _ x18 _ => l.length - (intOf x18).toNat)
                case atStart => exact ⟨0, A1, c1, G, by omega, rfl, rfl, HKG.out.again, Mem.lay HM2.out HGT.out, HM2.out⟩
                case round =>
                  obtain ⟨wr9, rfl⟩ : ∃ wr9, wr9 = wr := ⟨_, rfl⟩
                  obtain ⟨i, A2, c2, N, hi9, rfl, rfl, hag, hnt, hm⟩ := hrel
                  have HM4 := hide hm
                  have HAG := hide hag
                  have HNT := hide hnt
                  have hnl := tab_len hag.tab hag.sub
                  clear hm hag hnt
                  have i0 : (0 : Int) ≤ (i : Int) := by omega
                  by_cases hi3 : i < l.length
                  · have i1 : (i : Int) < (l.length : Int) := by omega
                    obtain ⟨b, off, rfl, hltb, hE⟩ := HA.out (by omega)
                    obtain ⟨x, hx⟩ : ∃ x, l[i]? = some x := ⟨_, List.getElem?_eq_getElem hi3⟩
                    obtain ⟨NX, had, hag2⟩ := again_step HT.out HAG.out hx
                    have hxm := List.mem_of_getElem? hx
                    have hof := tab_of HT.out hxm
                    have HAD := hide (And.intro had (And.intro hag2 hof))
                    have hxs := HSZ.out x hxm
                    clear had hag2 hof
                    obtain ⟨csx, hrx, hatx⟩ := hE i x hx
                    obtain ⟨u1, u2, rfl, xo, xd⟩ := itmLay_at.1 hatx
                    obtain ⟨u3, u4⟩ := xd.ones
                    have HX := hide (And.intro hrx (And.intro hltb (And.intro xd hx)))
                    clear hrx hatx xd hx
                    clear hE hltb
                    go_wp2_with (first | ((with_reducible refine at_slot 165 ?_); (refine wpList_value (o := ⟨some 165, _, _, _, _, _⟩) rfl (.pointer (some ⟨b, off + i * 23, none⟩)) wr9 (exec_idxO (o := ⟨some 165, _, _, _, _, _⟩) 25 43 (.tmp 163) (.tmp 164) rfl b off l.length cap i rfl rfl hi3 23 Try.underlying25 sz_itm wr9) ?_)) | ((with_reducible refine at_slot 167 ?_); (refine wpList_value (o := ⟨some 167, _, _, _, _, _⟩) rfl (.agg (dC x.2 u1 u2).toArray) wr9 (exec_load_mid (o := ⟨some 167, _, _, _, _, _⟩) 34 (.tmp 166) rfl b (off + i * 23 + 20) rfl (dC x.2 u1 u2) _ wr9 (item_drv9 xo (Mem.range HM4.out HX.out.1 HX.out.2.1)) Try.underlying34 rfl (dC_szl x.2 u1 u2)) ?_)))
                    refine (add_yesV wr9 N _ x.2 u1 u2 HNT.out (fun x hx => HSZ.out x (HAG.out.sub x hx)) (by omega) (Mem.drv HM4.out HX.out.2.2.1) hxs x.1 HAD.out.2.2 NX HAD.out.1 NX.length rfl).mono ?_
                    rintro e w22 ⟨A3, c3, ls3, rfl, hls, hm⟩
                    dsimp only
                    have H22 := hide (Mem.seq HM4.out hm)
                    have HS3 := hide hls
                    clear hm hls
                    go_wp2_with (first | ((with_reducible refine at_slot 20 ?_); (refine wpList_newZ (o := ⟨some 20, _, _, _, _, _⟩) rfl 27 zcH (by kernel_rfl) ?_); intro w23 hn; have H23 := hide (Mem.new1 H22.out hn); clear hn; simp only [Act.put, List.setIfInBounds_toArray, List.set_cons_zero, List.set_cons_succ]) | ((with_reducible refine at_store 20 170 ?_); (with_reducible refine wpList_store_blkA (o := ⟨none, _, _, _, _, _⟩) rfl 27 (.tmp 20) (.tmp 170) rfl w22.heap.size zcH (bv x.1).toArray 27 (Mem.blk H23.out 0 rfl) ?_ ?_ ?_ ?_ ?_ ?_); (exact (hszD xo)); (exact sz_eq zcH_sz (hszD xo)); (exact (bv_1 x.1)); rfl; rfl; intro w24 hk hg; have H24 := hide (Mem.st H23.out 0 rfl hk hg); clear hk hg; simp only [Act.put, List.setIfInBounds_toArray, List.set_cons_zero, List.set_cons_succ]))
                    refine Fre.wp_madeA (X := Bel) [] (by kernel_rfl) (by kernel_rfl) (by simp) (by simp) (by simp) ?_
                    refine Fre.made_val (.int .i64 0) (by kernel_rfl) (by kernel_rfl) (by kernel_rfl) (fun _ _ => by kernel_rfl) ?_
                    simp only [Act.put, List.setIfInBounds_toArray, List.set_cons_zero, List.set_cons_succ]
                    refine Fre.made_val (.bool false) (by kernel_rfl) (by kernel_rfl) (by kernel_rfl) (fun _ _ => by kernel_rfl) ?_
                    simp only [Act.put, List.setIfInBounds_toArray, List.set_cons_zero, List.set_cons_succ]
                    refine Fre.made_val (.bool false) (by kernel_rfl) (by kernel_rfl) (by kernel_rfl) (fun _ _ => by kernel_rfl) ?_
                    simp only [Act.put, List.setIfInBounds_toArray, List.set_cons_zero, List.set_cons_succ]
                    refine Fre.made_val (.agg (bv x.1).toArray) (by kernel_rfl) (by kernel_rfl) (by kernel_rfl) (fun W9 hW9 => (exec_load_mid (o := ⟨some 175, _, _, _, _, _⟩) 27 (.tmp 20) rfl w22.heap.size (0) rfl (bv x.1) _ W9 (Blk.range (Mem.blk (Mem.call H24.out hW9) 0 rfl)) Try.underlying27 rfl (hszL xo))) ?_
                    simp only [Act.put, List.setIfInBounds_toArray, List.set_cons_zero, List.set_cons_succ]
                    refine Fre.made_val (.slice (some ⟨b, off, none⟩) l.length cap) (by kernel_rfl) (by kernel_rfl) (by kernel_rfl) (fun _ _ => by kernel_rfl) ?_
                    simp only [Act.put, List.setIfInBounds_toArray, List.set_cons_zero, List.set_cons_succ]
                    refine Fre.made_val (.int .i64 (i : Int)) (by kernel_rfl) (by kernel_rfl) (by kernel_rfl) (fun _ _ => by kernel_rfl) ?_
                    simp only [Act.put, List.setIfInBounds_toArray, List.set_cons_zero, List.set_cons_succ]
                    refine Fre.made_val (.pointer (some ⟨b, off + i * 23, none⟩)) (by kernel_rfl) (by kernel_rfl) (by kernel_rfl) (fun W9 hW9 => (exec_idxO (o := ⟨some 178, _, _, _, _, _⟩) 25 43 (.tmp 176) (.tmp 177) rfl b off l.length cap i rfl rfl hi3 23 Try.underlying25 sz_itm W9)) ?_
                    simp only [Act.put, List.setIfInBounds_toArray, List.set_cons_zero, List.set_cons_succ]
                    refine Fre.made_val (.pointer (some ⟨b, off + i * 23, none⟩)) (by kernel_rfl) (by kernel_rfl) (by kernel_rfl) (fun _ _ => by kernel_rfl) ?_
                    simp only [Act.put, List.setIfInBounds_toArray, List.set_cons_zero, List.set_cons_succ]
                    refine Fre.made_val (.agg (bv x.1).toArray) (by kernel_rfl) (by kernel_rfl) (by kernel_rfl) (fun W9 hW9 => (exec_load_mid (o := ⟨some 180, _, _, _, _, _⟩) 27 (.tmp 179) rfl b (off + i * 23) rfl (bv x.1) _ W9 (item_cls9 (Mem.range (Mem.call H24.out hW9) HX.out.1 HX.out.2.1)) Try.underlying27 rfl (hszL xo))) ?_
                    simp only [Act.put, List.setIfInBounds_toArray, List.set_cons_zero, List.set_cons_succ]
                    refine Fre.made_val (.bool false) (by kernel_rfl) (by kernel_rfl) (by kernel_rfl) (fun W9 hW9 => (exec_neA (o := ⟨some 181, _, _, _, _, _⟩) 27 27 (.tmp 175) (.tmp 180) rfl (bv x.1).toArray (bv x.1).toArray rfl rfl (by kernel_rfl) true W9 (by have h9 := eq_hash x.1 x.1 xo xo W9; rwa [decide_eq_true rfl] at h9))) ?_
                    simp only [Act.put, List.setIfInBounds_toArray, List.set_cons_zero, List.set_cons_succ]
                    refine Fre.made_val (.bool false) (by kernel_rfl) (by kernel_rfl) (by kernel_rfl) (fun _ _ => by kernel_rfl) ?_
                    simp only [Act.put, List.setIfInBounds_toArray, List.set_cons_zero, List.set_cons_succ]
                    intro w25 hx
                    dsimp only [Fre.ended, List.drop]
                    have H25 := hide (Mem.call H24.out hx)
                    clear hx
                    go_wp2_with fail
                    go_roundw
                    case rel => exact ⟨i + 1, A3, c3, NX, by omega, rfl, by go_num, HAD.out.2.1, itms_now (Mem.pick H25.out [1, 2] (by decide) rfl) (fun x hx => HOL.out x (HAD.out.2.1.sub x hx)) HS3.out, Mem.pick H25.out [] (by decide) rfl⟩
                    case measure => simp [intOf]; omega
                  · obtain rfl : i = l.length := by omega
                    have hnl2 := again_len HT.out HAG.out
                    have hnl9 : (N.length : Int) = (l.length : Int) := by omega
                    go_wp2_with fail
                    refine (tableB wr9 G A1 c1 (Mem.lay HM4.out HGT.out) (fun x hx => (HSZ.out x (HKG.out.sub x hx)).1) true HKG.out.tab).mono ?_
                    rintro e w26 ⟨rfl, hb⟩
                    dsimp only
                    have H26 := hide (Mem.call HM4.out hb)
                    clear hb
                    go_wp2_with fail
                    go_ret
                    exact ⟨rfl, (HB1.out.below.trans (Below.mono (Mem.below H26.out) HB1.out.below.size))⟩
end Go.Proofs.Ytidiepbmbbflhaa
end
section
namespace Go.Proofs.Ytidiepbmbbflhaa
open Go Go.ChangeShapes Go.WideShapes Go.ChangeAt Go.RowKit
theorem Try.ownPF : ownKnob Try.prog.godebug = none := by kernel_rfl
set_option maxRecDepth 100000
theorem opensW_str {P : Program} {M : Nat} {t : TypeId} (ht : P.underlying t = some .string) (hc : P.cellsOf t = 1) : (Lay.str t).OpensW P M fun s => s.size ≤ M where
  cells := hc
  op := fun h => by
    obtain ⟨z, rfl, e, hw⟩ := DataW.trod_string ht h
    refine ⟨z, ⟨rfl, hw⟩, fun hk => hk _ ?_⟩
    rw [e]
    simp [DataW.weights]
theorem itmLay_opensW : itmLay.OpensW Try.prog reachBytes fun x => LightD x.2 where
  cells := itmLay_opens.cells
  op := fun {H enc w sp hd fuel cs y} h => by
    have hs := opensW_str (P := Try.prog) (M := reachBytes) Try.underlying9 cells_str
    have hp := opensW_struct (t := 68) (f := fun p : Pth => (p.1, p.2, ())) (fun b => (b.1, b.2.1)) (fun _ => rfl) (opensW_cons (hashLay_opens.w reachBytes) (opensW_cons hs opensW_nil)) Try.underlying68 (by kernel_rfl) (by kernel_rfl)
    have hi := opensW_struct (t := 70) (f := fun x : Inp => (x.1, x.2.1, x.2.2, ())) (fun b => (b.1, b.2.1, b.2.2.1)) (fun _ => rfl) (opensW_cons hp (opensW_cons (hashLay_opens.w reachBytes) (opensW_cons ((opens_bool (P := Try.prog) Try.underlying4 (by kernel_rfl)).w reachBytes) opensW_nil))) Try.underlying70 (by kernel_rfl) (by kernel_rfl)
    have hn := opensW_struct (t := 72) (f := fun x : Nam => (x.1, x.2, ())) (fun b => (b.1, b.2.1)) (fun _ => rfl) (opensW_cons hs (opensW_cons hi opensW_nil)) Try.underlying72 (by kernel_rfl) (by kernel_rfl)
    have hns := opensW_slice (t := 31) hn (by decide) Try.underlying31 (by kernel_rfl)
    have hb := opensW_slice (t := 32) ((opens_int (P := Try.prog) Try.underlying5 cells_u8).w reachBytes) (by decide) Try.underlying32 (by kernel_rfl)
    have hdr := opensW_struct (t := 34) (f := fun d : Drv => (d.1, d.2.1, d.2.2, ())) (fun b => (b.1, b.2.1, b.2.2.1)) (fun _ => rfl) (opensW_cons hs (opensW_cons hns (opensW_cons hb opensW_nil))) Try.underlying34 (by kernel_rfl) (by kernel_rfl)
    have ht := opensW_struct (t := 43) (f := fun x : Itm => (x.1, x.2, ())) (fun b => (b.1, b.2.1)) (fun _ => rfl) (opensW_cons (hashLay_opens.w reachBytes) (opensW_cons hdr opensW_nil)) Try.underlying43 (by kernel_rfl) (by kernel_rfl)
    obtain ⟨x, hx, hk⟩ := ht.op h
    refine ⟨x, hx, fun hw => ?_⟩
    obtain ⟨_, ⟨h1, ⟨h2, h3⟩, ⟨h4, _⟩, _⟩, _⟩ := hk hw
    have e1 : Try.prog.bytesOf namLay.t = 80 := by kernel_rfl
    have e2 : Try.prog.bytesOf (Lay.int 5 .u8).t = 1 := by kernel_rfl
    have hR : reachBytes ≤ 140737488355328 := by decide
    have h1 : x.2.1.size ≤ reachBytes := h1
    have h2 : x.2.2.1.length * Try.prog.bytesOf namLay.t ≤ reachBytes := h2
    have h4 : x.2.2.2.length * Try.prog.bytesOf (Lay.int 5 .u8).t ≤ reachBytes := h4
    rw [e1] at h2
    rw [e2] at h4
    refine ⟨by omega, by omega, by omega, fun n hn => ?_⟩
    obtain ⟨h5, ⟨⟨_, h6, _⟩, _⟩, _⟩ := h3 n hn
    have h5 : n.1.size ≤ reachBytes := h5
    have h6 : n.2.1.2.size ≤ reachBytes := h6
    exact ⟨by omega, by omega⟩
theorem open_items {H : Type} {enc : TypeId × Value → H} {w : World} {r : Reach} {b0 : Nat} {hd : Bool} {u : Value} {d : DataW H} {ps : List MemPlace}
    (hval : Value.okWide Try.prog w r b0 25 u) (h : DataW.Trod enc Try.prog w 0 (fun _ => true) hd 25 u d ps) (hsz : ∀ n ∈ d.weights Try.prog 25, n ≤ reachBytes) :
    ∃ (l : List Itm) (A : Option Addr) (cap : Nat), u = .slice A l.length cap ∧ itmsLay.At w w.heap.size [.slice A l.length cap] l ∧ ∀ x ∈ l, LightD x.2 := by
  obtain ⟨a0, len, cap, rfl⟩ := okWide_slice Try.underlying25 hval
  obtain ⟨fuel, hf⟩ := h
  have ho := opensW_slice (t := 25) itmLay_opensW (by decide) Try.underlying25 (by kernel_rfl)
  obtain ⟨l, hk, hs⟩ := ho.op hf
  obtain ⟨A, cp, e, _⟩ := slice_open hk
  injection e with e1 e2 e3
  subst e1 e2 e3
  exact ⟨l, _, _, rfl, hk, (hs hsz).2⟩
theorem open_item {H : Type} {enc : TypeId × Value → H} {w : World} {r : Reach} {b0 : Nat} {hd : Bool} {u : Value} {d : DataW H} {ps : List MemPlace}
    (hval : Value.okWide Try.prog w r b0 43 u) (h : DataW.Trod enc Try.prog w 0 (fun _ => true) hd 43 u d ps) (hsz : ∀ n ∈ d.weights Try.prog 43, n ≤ reachBytes) :
    ∃ (x : Itm) (v1 v2 : Value), u = .agg (tC x v1 v2).toArray ∧ okH x.1 ∧ DrvAt w w.heap.size x.2 v1 v2 ∧ LightD x.2 := by
  obtain ⟨cs, rfl, _⟩ := okWide_struct Try.underlying43 hval
  obtain ⟨fuel, hf⟩ := h
  obtain ⟨x, hx, hs⟩ := itmLay_opensW.op hf
  obtain ⟨v1, v2, e, h1, h2⟩ := itmLay_at.1 hx
  refine ⟨x, v1, v2, ?_, h1, h2, hs hsz⟩
  congr 1
  rw [← e]
  rfl
theorem open_hash {H : Type} {enc : TypeId × Value → H} {w : World} {r : Reach} {b0 : Nat} {hd : Bool} {u : Value} {d : DataW H} {ps : List MemPlace}
    (hval : Value.okWide Try.prog w r b0 27 u) (h : DataW.Trod enc Try.prog w 0 (fun _ => true) hd 27 u d ps) : ∃ c : Hsh, u = .agg (bv c).toArray ∧ okH c := by
  obtain ⟨l, rfl, hl, _⟩ := open_bytes Try.underlying27 Try.underlying5 cells_u8 cells_hash hval h
  exact ⟨l, rfl, hl⟩
end Go.Proofs.Ytidiepbmbbflhaa
end
section
namespace Go.Proofs.Ytidiepbmbbflhaa
open Go Go.ChangeShapes Go.WideShapes Go.ChangeAt Go.RowKit
set_option maxRecDepth 100000
theorem open_hashes {H : Type} {enc : TypeId × Value → H} {w : World} {r : Reach} {b0 : Nat} {hd : Bool} {u : Value} {d : DataW H} {ps : List MemPlace}
    (hval : Value.okWide Try.prog w r b0 45 u) (h : DataW.Trod enc Try.prog w 0 (fun _ => true) hd 45 u d ps) :
    ∃ (l : List Hsh) (A : Option Addr) (cap : Nat), u = .slice A l.length cap ∧ hashesLay.At w w.heap.size [.slice A l.length cap] l := by
  obtain ⟨a0, len, cap, rfl⟩ := okWide_slice Try.underlying45 hval
  obtain ⟨fuel, hf⟩ := h
  obtain ⟨l, hk⟩ := hashesLay_opens.op hf
  obtain ⟨A, cp, e, _⟩ := slice_open hk
  injection e with e1 e2 e3
  subst e1 e2 e3
  exact ⟨l, _, _, rfl, hk⟩
theorem classKeeps_lifted (os : Os) (started : os.Started) (H : Type) (enc : TypeId × Value → H) :
    ReturnsInHanded {} Try.checked os 4 .any (Rows.classKeepsSpec.pre6 enc Try.prog Try.f4 Rows.classKeepsRow.domain false) (Rows.classKeepsSpec.post enc Try.prog Try.f4 false true false false) := by
  refine returnsInHanded_of_change_sized (C := Try.checked) Try.ownPF started (by kernel_rfl) Try.func4
    (ChangeSpec.witness6 (enc := enc) (C := Try.checked) false ⟨#[], #[.slice none 0 0, .slice none 0 0], []⟩ 8 (by kernel_rfl) (by kernel_rfl) (by kernel_rfl) (by kernel_rfl)) ?_
  intro W base args ds gs before hval0 hW _ hsz0 _
  have hval : ∀ (j : Nat) t v, Try.f4.params[j]? = some t → args[j]? = some v → Value.okWide Try.prog W .any base t v := hval0
  have hsz : (DataW.weightsEach Try.prog (Try.f4.params.toList ++ []) (ds ++ gs)).all (· ≤ reachBytes) = true := hsz0
  have hW' := hW
  obtain ⟨p, q, hA0, hV, rfl, hfz, hnd⟩ := hW
  have hA : DataW.TrodAll enc Try.prog W 0 (fun _ => true) true Try.f4.params.toList args.toList ds p := hA0
  rw [Try.params4] at hA hval hsz
  obtain ⟨v0, v1, d0, d1, p0, p1, rfl, rfl, rfl, h0, h1⟩ := trodAll_two hA
  obtain ⟨rfl, rfl⟩ := trodVars_none hV
  have hs0 : ∀ n ∈ d0.weights Try.prog 25, n ≤ reachBytes := fun n hn => by
    have h := List.all_eq_true.1 hsz n (DataW.weights_mem_each (j := 0) (t := 25) (d := d0) rfl rfl n hn)
    simpa using h
  obtain ⟨l, A, cap, rfl, hat, hl⟩ := open_items (hval 0 25 v0 rfl rfl) h0 hs0
  obtain ⟨keep, K, kc, rfl, hkt⟩ := open_hashes (hval 1 45 v1 rfl rfl) h1
  have fin : ∀ e W', e = Ending.returned (.bool true) ∧ Below W.heap.size W W' → ∃ x, e = .returned x ∧ Rows.classKeepsSpec.post enc Try.prog Try.f4 false true false false W #[.slice A l.length cap, .slice K keep.length kc] x W' := by
    rintro e W' ⟨rfl, hb⟩
    exact ⟨_, rfl, law_end laidOut hW' rfl rfl (by kernel_rfl) Try.underlying4 (by kernel_rfl) hb⟩
  exact (keeps_any W l A cap hat hl keep K kc hkt).mono fin
theorem classKeeps_holds : Rows.ClassKeepsSaid :=
  OpenClaim.holds_of_wide 4 Try.f4 rfl rfl rfl rfl rfl rfl rfl ⟨rfl, rfl, rfl, rfl, rfl⟩ rfl rfl rfl rfl rfl (by kernel_rfl) Try.func4 (by kernel_rfl)
    (of_decide_eq_true (by kernel_rfl)) (by unfold Func.isWrapper; first | (rw [if_pos (by decide +kernel)]; kernel_rfl) | (rw [if_neg (by decide +kernel)]; exact ⟨rfl, rfl⟩))
    (fun os started H enc _ => classKeeps_lifted os started H enc)
#print axioms classKeeps_holds
end Go.Proofs.Ytidiepbmbbflhaa
end
