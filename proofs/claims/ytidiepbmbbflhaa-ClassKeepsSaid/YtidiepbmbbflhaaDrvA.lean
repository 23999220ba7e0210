/- package drv: known.all, Classes. -/
import Derived.Test.YtidiepbmbbflhaaAt
import Derived.Test.YtidiepbmbbflhaaDrvMem
import Derived.Test.YtidiepbmbbflhaaTools
import Derived.Test.YtidiepbmbbflhaaBuild
import Derived.Test.YtidiepbmbbflhaaExec
import Derived.Test.YtidiepbmbbflhaaFlat
namespace Go.Proofs.Ytidiepbmbbflhaa
open Go Go.RowKit Go.Maps
set_option maxRecDepth 100000
def evN (n : Nat) : Value := .int .i64 (n : Int)

theorem z_int (w : World) : (zeroValue 3).run Try.prog w = .ok (.int .i64 0) w := by kernel_rfl
theorem sz_hashD : (Try.prog.info? 27).map (·.size) = some 20 := by kernel_rfl
theorem hszD {h : Hsh} (hh : okH h) : (Try.prog.info? 27).map (·.size) = some (bv h).toArray.size := by
  rw [List.size_toArray, bvL, show h.length = 20 from hh]
  kernel_rfl
set_option maxHeartbeats 4000000 in
theorem all_any (w : World) (mb : Nat) (m : List (Hsh × Nat)) (hm : MapIs hV okH evN w mb m) (ks : List Hsh) (v : Value) (hv : hashesLay.At w w.heap.size [v] ks) :
    Calls Try.prog 43 #[.map (some mb), v] w fun e w' => e = .returned (.bool (ks.all fun h => (mget m h).isSome)) ∧ Below w.heap.size w w' := by
  obtain ⟨A, cap, rfl, hcl, hcm, _, hA⟩ := slice_open hv
  have hk9 : (ks.length : Int) ≤ 9223372036854775807 := by
    simp only [maxLen] at hcm
    omega
  clear hcl hcm
  have HA := hide hA
  have HM := hide hm
  clear hA hm hv
  go_enter Try.func43, Try.ntmps43
  go_wp2_with fail
  go_loopw [11] (fun y wr => ∃ j : Nat, j ≤ ks.length ∧ y = .int .i64 (j : Int) ∧ (∀ h ∈ ks.take j, (mget m h).isSome = true) ∧ Below w.heap.size w wr) (fun y _ => ks.length - (intOf y).toNat)
  case atStart => exact ⟨0, by omega, rfl, (fun h hh => by simp at hh), Below.refl _ _⟩
  case round =>
    obtain ⟨wo, rfl⟩ : ∃ wo, wo = wr := ⟨_, rfl⟩
    obtain ⟨j, hj, rfl, hall, hb⟩ := hrel
    have HB := hide hb
    have HALL := hide hall
    clear hb hall
    have j0 : (0 : Int) ≤ (j : Int) := by omega
    by_cases hj2 : j < ks.length
    · have j1 : (j : Int) < (ks.length : Int) := by omega
      obtain ⟨x, hx⟩ : ∃ x, ks[j]? = some x := ⟨_, List.getElem?_eq_getElem hj2⟩
      obtain ⟨b, off, rfl, hlb, hE⟩ := HA.out (by omega)
      obtain ⟨cs, hr, hatx⟩ := hE j x hx
      obtain ⟨rfl, hxo⟩ := hashLay_at.1 hatx
      have HX := hide (And.intro (rangeAt_same hr (HB.out.block b (by omega))) hxo)
      have hszx : (Try.prog.info? 27).map (·.size) = some (bv x).length := by have := hszD hxo; simpa using this
      have hszx2 := hszD hxo
      have hszz : zcH.size = (bv x).toArray.size := by rw [show (bv x).toArray.size = 20 by rw [List.size_toArray, bvL]; exact hxo]; kernel_rfl
      have hone : (bv x).toArray.all (·.oneCell') = true := all_oneCell_toArray (bv1 x)
      have HXX := hide hx
      clear hx hE hr hatx hxo
      by_cases hs : (mget m x).isSome = true
      · have HS := hide hs
        go_wp2_with (first | ((with_reducible refine at_slot 13 ?_); refine wpList_value (o := ⟨some 13, _, _, _, _, _⟩) rfl (.pointer (some ⟨b, off + (j : Int).toNat * 20, none⟩)) wo (exec_index_off (o := ⟨some 13, _, _, _, _, _⟩) 45 27 (.tmp 9) (.tmp 11) rfl b off ks.length cap (j : Int) .i64 rfl rfl ⟨j0, j1⟩ 20 Try.underlying45 sz_hashD wo) ?_; rw [show off + (j : Int).toNat * 20 = off + j * 20 by omega]) | ((with_reducible refine at_slot 14 ?_); refine wpList_value (o := ⟨some 14, _, _, _, _, _⟩) rfl (.agg (bv x).toArray) wo (exec_load_mid (o := ⟨some 14, _, _, _, _, _⟩) 27 (.tmp 13) rfl b (off + j * 20) rfl (bv x) _ wo HX.out.1 Try.underlying27 rfl hszx) ?_) | ((with_reducible refine at_slot 6 ?_); (with_reducible refine wpList_box (o1 := ⟨some 6, _, _, _, _, _⟩) (o2 := ⟨none, _, _, _, _, _⟩) rfl rfl 27 (.tmp 6) (.tmp 14) ?_ zcH (bv x).toArray ?_ hszx2 ?_ hone ?_ ?_ ?_); rfl; kernel_rfl; exact hszz; rfl; rfl; intro w3 hmm hbb; have H3 := hide (And.intro hmm hbb); clear hmm hbb; simp only [Act.put, List.setIfInBounds_toArray, List.set_cons_zero, List.set_cons_succ]) | ((with_reducible refine at_slot 17 ?_); refine wpList_value (o := ⟨some 17, _, _, _, _, _⟩) rfl (.agg (bv x).toArray) w3 (exec_load_blk (o := ⟨some 17, _, _, _, _, _⟩) 27 (.tmp 6) rfl wo.heap.size rfl 27 _ _ w3 H3.out.1 Try.underlying27 rfl hszx2) ?_) | ((with_reducible refine at_slot 18 ?_); refine wpList_value (o := ⟨some 18, _, _, _, _, _⟩) rfl (.tuple #[((mget m x).map evN).getD (.int .i64 0), .bool (mget m x).isSome]) w3 (exec_lookup (o := ⟨some 18, _, _, _, _, _⟩) 77 (.tmp 16) (.tmp 17) true rfl (.map (some mb)) (.agg (bv x).toArray) _ rfl rfl ((HM.out.of_eq ((H3.out.2.block mb (by have := HM.out.lt; have := HB.out.size; omega)).trans (HB.out.block mb HM.out.lt))).look_ok hash_enc HX.out.2 Try.underlying77 (z_int w3))) ?_))
        go_roundw
        case rel => exact ⟨j + 1, by omega, by go_num, (fun h hh => by rw [List.take_add_one, HXX.out] at hh; rcases List.mem_append.1 hh with hh | hh; exact HALL.out h hh; rw [show h = x from by simpa using hh]; exact HS.out), HB.out.trans (Below.mono H3.out.2 HB.out.size)⟩
        case measure => simp [intOf]; omega
      · have hs' : (mget m x).isSome = false := by simpa using hs
        have HS := hide hs'
        clear hs
        go_wp2_with (first | ((with_reducible refine at_slot 13 ?_); refine wpList_value (o := ⟨some 13, _, _, _, _, _⟩) rfl (.pointer (some ⟨b, off + (j : Int).toNat * 20, none⟩)) wo (exec_index_off (o := ⟨some 13, _, _, _, _, _⟩) 45 27 (.tmp 9) (.tmp 11) rfl b off ks.length cap (j : Int) .i64 rfl rfl ⟨j0, j1⟩ 20 Try.underlying45 sz_hashD wo) ?_; rw [show off + (j : Int).toNat * 20 = off + j * 20 by omega]) | ((with_reducible refine at_slot 14 ?_); refine wpList_value (o := ⟨some 14, _, _, _, _, _⟩) rfl (.agg (bv x).toArray) wo (exec_load_mid (o := ⟨some 14, _, _, _, _, _⟩) 27 (.tmp 13) rfl b (off + j * 20) rfl (bv x) _ wo HX.out.1 Try.underlying27 rfl hszx) ?_) | ((with_reducible refine at_slot 6 ?_); (with_reducible refine wpList_box (o1 := ⟨some 6, _, _, _, _, _⟩) (o2 := ⟨none, _, _, _, _, _⟩) rfl rfl 27 (.tmp 6) (.tmp 14) ?_ zcH (bv x).toArray ?_ hszx2 ?_ hone ?_ ?_ ?_); rfl; kernel_rfl; exact hszz; rfl; rfl; intro w3 hmm hbb; have H3 := hide (And.intro hmm hbb); clear hmm hbb; simp only [Act.put, List.setIfInBounds_toArray, List.set_cons_zero, List.set_cons_succ]) | ((with_reducible refine at_slot 17 ?_); refine wpList_value (o := ⟨some 17, _, _, _, _, _⟩) rfl (.agg (bv x).toArray) w3 (exec_load_blk (o := ⟨some 17, _, _, _, _, _⟩) 27 (.tmp 6) rfl wo.heap.size rfl 27 _ _ w3 H3.out.1 Try.underlying27 rfl hszx2) ?_) | ((with_reducible refine at_slot 18 ?_); refine wpList_value (o := ⟨some 18, _, _, _, _, _⟩) rfl (.tuple #[((mget m x).map evN).getD (.int .i64 0), .bool (mget m x).isSome]) w3 (exec_lookup (o := ⟨some 18, _, _, _, _, _⟩) 77 (.tmp 16) (.tmp 17) true rfl (.map (some mb)) (.agg (bv x).toArray) _ rfl rfl ((HM.out.of_eq ((H3.out.2.block mb (by have := HM.out.lt; have := HB.out.size; omega)).trans (HB.out.block mb HM.out.lt))).look_ok hash_enc HX.out.2 Try.underlying77 (z_int w3))) ?_))
        go_ret
        have e9 : ks.all (fun h => (mget m h).isSome) = false := by
          rw [List.all_eq_false]
          exact ⟨x, List.mem_of_getElem? HXX.out, by rw [HS.out]; decide⟩
        exact ⟨by rw [e9]; rfl, HB.out.trans (Below.mono H3.out.2 HB.out.size)⟩
    · obtain rfl : j = ks.length := by omega
      go_wp2_with fail
      go_ret
      have e9 : ks.all (fun h => (mget m h).isSome) = true := by
        rw [List.all_eq_true]
        exact fun h hh => HALL.out h (by rw [List.take_length]; exact hh)
      exact ⟨by rw [e9]; rfl, HB.out⟩
/-! Classes -/
def zcN : Array Value := (Value.string ByteArray.empty :: (bv (List.replicate 20 0) ++ [Value.string ByteArray.empty]) ++ (bv (List.replicate 20 0) ++ [Value.bool false])).toArray
theorem sz_namD : (Try.prog.info? 72).map (·.size) = some 43 := by kernel_rfl
theorem nC_len {x : Nam} (h : okN x) : (nC x).length = 43 := by
  unfold nC iC
  rw [List.length_cons, List.length_append, List.length_append, pC_len h.2.1, bvL, show x.2.2.1.length = 20 from h.2.2]
  rfl
theorem nC_one (x : Nam) : ∀ v ∈ nC x, v.oneCell' = true := by
  intro v hv
  rcases List.mem_cons.1 hv with rfl | hv
  · rfl
  · rcases List.mem_append.1 hv with hv | hv
    · exact pC_one _ v hv
    · rcases List.mem_append.1 hv with hv | hv
      · exact bv1 _ v hv
      · rw [List.mem_singleton.1 hv]; rfl
theorem nszD {x : Nam} (h : okN x) : (Try.prog.info? 72).map (·.size) = some (nC x).toArray.size := by
  rw [List.size_toArray, nC_len h]
  kernel_rfl
theorem named_cls {x : Nam} {w : World} {g : Nat} (h : okN x) (hb : Blk w g 72 (nC x).toArray) : w.rangeAt g 22 (bv x.2.2.1) := by
  have h1 := rangeAt_blk hb
  have e : (nC x).toArray.toList = ([.string x.1] ++ pC x.2.1) ++ (bv x.2.2.1 ++ [.bool x.2.2.2]) := by simp [nC, iC]
  rw [e] at h1
  have h2 := rangeAt_left (rangeAt_right h1)
  have hl : ([Value.string x.1] ++ pC x.2.1).length = 22 := by rw [List.length_append, pC_len h.2.1]; rfl
  rwa [hl, Nat.zero_add] at h2
theorem named_is {x : Nam} {w : World} {g : Nat} (h : okN x) (hb : Blk w g 72 (nC x).toArray) : w.cell? ⟨g, 42, none⟩ = some (.bool x.2.2.2) := by
  rw [hb.cell, List.getElem?_toArray]
  have e : nC x = ([.string x.1] ++ pC x.2.1 ++ bv x.2.2.1) ++ [.bool x.2.2.2] := by simp [nC, iC]
  have hl : ([Value.string x.1] ++ pC x.2.1 ++ bv x.2.2.1).length = 42 := by rw [List.length_append, List.length_append, pC_len h.2.1, bvL, show x.2.2.1.length = 20 from h.2.2]; rfl
  rw [e, List.getElem?_append_right (by omega), hl]
  rfl
def seenM (l : List Hsh) : List (Hsh × Nat) := l.map fun h => (h, 1)
theorem seen_in {l : List Hsh} {h : Hsh} (hm : h ∈ l) : ((mget (seenM l) h).map evN).getD (.int .i64 0) = .int .i64 1 := by
  cases e : mget (seenM l) h with
  | none =>
    have := mget_none.1 e (h, 1) (List.mem_map.2 ⟨h, hm, rfl⟩)
    exact absurd rfl this
  | some v =>
    obtain ⟨y, _, hy⟩ := List.mem_map.1 (mget_mem e)
    injection hy with _ hy
    subst hy
    rfl
theorem seen_out' {l : List Hsh} {h : Hsh} (hm : h ∉ l) : mget (seenM l) h = none := mget_none.2 fun p hp e => by
  obtain ⟨y, hy, rfl⟩ := List.mem_map.1 hp
  exact hm (e ▸ hy)
theorem seen_out {l : List Hsh} {h : Hsh} (hm : h ∉ l) : ((mget (seenM l) h).map evN).getD (.int .i64 0) = .int .i64 0 := by rw [seen_out' hm]; rfl
theorem clsP_step (l : List Nam) (j : Nat) (x : Nam) (hx : l[j]? = some x) : clsP (l.take (j + 1)) = if x.2.2.2 = true ∧ x.2.2.1 ∉ clsP (l.take j) then clsP (l.take j) ++ [x.2.2.1] else clsP (l.take j) := by
  rw [List.take_add_one, hx]
  unfold clsP
  rw [List.foldl_append]
  rfl
theorem clsP_len (l : List Nam) (j : Nat) : (clsP (l.take j)).length ≤ j := by
  have key : ∀ (l : List Nam) (out : List Hsh), (l.foldl (fun out x => if x.2.2.2 = true ∧ x.2.2.1 ∉ out then out ++ [x.2.2.1] else out) out).length ≤ out.length + l.length := by
    intro l
    induction l with
    | nil => intro out; exact Nat.le_refl _
    | cons x l ih =>
      intro out
      refine Nat.le_trans (ih _) ?_
      rw [List.length_cons]
      dsimp only
      split
      · rw [List.length_append, List.length_singleton]; omega
      · omega
  have h := key (l.take j) []
  rw [List.length_take, List.length_nil] at h
  unfold clsP
  omega
theorem own_ne_map {K V : Type} {ek : K → Value} {ok : K → Prop} {ev : V → Value} {w : World} {b base n s : Nat} {m : List (K × V)} {e : TypeId} {u : Value} {xs : List Value} (h : w.ownsRow base e s u n xs) (hm : MapIs ek ok ev w b m) : ∀ g, u.ownBlock = some g → g ≠ b := by
  rintro g hg rfl
  obtain ⟨es, c, h1, _⟩ := hm.at_
  rcases owned_formN h with ⟨rfl, _⟩ | ⟨g', cap, cur, rfl, _, _, _, hb, _⟩
  · cases hg
  · have hg : some g' = some g := hg
    injection hg with hg
    subst hg
    rw [show w.heap[g']? = _ from hb] at h1
    cases h1
theorem hash_src {h : Hsh} {w : World} {g : Nat} (hh : okH h) (hb : Blk w g 27 (bv h).toArray) : SrcN w 20 (some ⟨g, 0, none⟩) 1 1 (bv h) := by
  have h2 := box_src hb (bv1 h)
  rwa [bvL, show h.length = 20 from hh] at h2
theorem info_hashI : (Try.prog.info? 27).map (fun i => (i.zero, i.size, i.bytes)) = some (some (.agg zcH), 20, 20) := by kernel_rfl
set_option maxHeartbeats 4000000 in
theorem classes_any (w : World) (d : Drv) (v1 v2 : Value) (h : DrvAt w w.heap.size d v1 v2) (hl : d.2.1.length ≤ 1000000) :
    Calls Try.prog 34 #[.agg (dC d v1 v2).toArray] w fun e w' => ∃ u, e = .returned u ∧ w'.ownsRow w.heap.size 27 20 u (clsP d.2.1).length ((clsP d.2.1).flatMap bv) ∧ Below w.heap.size w w' := by
  obtain ⟨A, cap, rfl, _, _, _, hA⟩ := slice_open h.ins
  obtain ⟨ih, hih, hq0, hq1, hq2⟩ := info_parts info_hashI
  have HJ := hide (And.intro hih (And.intro hq0 (And.intro hq1 hq2)))
  clear hih hq0 hq1 hq2
  have HA := hide hA
  have l9 : (d.2.1.length : Int) ≤ 1000000 := by omega
  clear hA h
  have hmm := @run_makeMap Try.prog
  obtain ⟨w1, hw1⟩ : ∃ w1, w1 = w.alloc (.cells (dC d (.slice A d.2.1.length cap) v2).toArray 34) := ⟨_, rfl⟩
  have hk1 : Blk w1 w.heap.size 34 (dC d (.slice A d.2.1.length cap) v2).toArray := by rw [hw1]; exact Blk.new _ _ _
  have hb1 : Below w.heap.size w w1 := by rw [hw1]; exact (Below.refl _ w).alloc (Nat.le_refl _) _
  have hz1 : w1.heap.size = w.heap.size + 1 := by rw [hw1, size_alloc]
  have hm1 : MapIs hV okH evN (w1.alloc (.map #[] 0)) (w.heap.size + 1) (seenM (clsP (d.2.1.take 0))) := by rw [← hz1]; exact mapIs_new w1
  have HC9 := hide (show (w1.alloc (.map #[] 0)).cell? ⟨w.heap.size, 1, none⟩ = some (.slice A d.2.1.length cap) from ((hk1.alloc (.map #[] 0)).cell 1))
  have hb2 : Below w.heap.size w (w1.alloc (.map #[] 0)) := hb1.alloc hb1.size _
  have H0 := hide (And.intro hm1 hb2)
  rw [hw1] at HC9 H0
  clear hk1 hb1 hm1 hb2 hz1 hw1
  go_enter Try.func34, Try.ntmps34
  go_wp2_with ((with_reducible refine at_slot 9 ?_); refine wpList_value (o := ⟨some 9, _, _, _, _, _⟩) rfl (.slice A d.2.1.length cap) _ (exec_load_cell (o := ⟨some 9, _, _, _, _, _⟩) 31 (.tmp 8) rfl ⟨w.heap.size, 1, none⟩ rfl _ _ _ Try.underlying31 rfl HC9.out) ?_)
  go_loopw [2, 11] (fun x2 x11 wr => ∃ (j : Nat) (u : Value), j ≤ d.2.1.length ∧ u = x2 ∧ x11 = .int .i64 (j : Int) ∧ MapIs hV okH evN wr (w.heap.size + 1) (seenM (clsP (d.2.1.take j))) ∧ wr.ownsRow w.heap.size 27 20 u (clsP (d.2.1.take j)).length ((clsP (d.2.1.take j)).flatMap bv) ∧ Below w.heap.size w wr) (fun _ x11 _ => d.2.1.length - (intOf x11).toNat)
  case atStart => exact ⟨0, .slice none 0 0, by omega, rfl, rfl, H0.out.1, World.ownsRow_nil _ _ _ _, H0.out.2⟩
  case round =>
    obtain ⟨wo, rfl⟩ : ∃ wo, wo = wr := ⟨_, rfl⟩
    obtain ⟨j, u, hj, rfl, rfl, hmp, hown, hb⟩ := hrel
    have HI := hide (And.intro hmp (And.intro hown hb))
    clear hmp hown hb
    have j0 : (0 : Int) ≤ (j : Int) := by omega
    by_cases hj2 : j < d.2.1.length
    · have j1 : (j : Int) < (d.2.1.length : Int) := by omega
      obtain ⟨x, hx⟩ : ∃ x, d.2.1[j]? = some x := ⟨_, List.getElem?_eq_getElem hj2⟩
      obtain ⟨b, off, rfl, hlb, hE⟩ := HA.out (by omega)
      obtain ⟨cs, hr, hatx⟩ := hE j x hx
      obtain ⟨rfl, hxo⟩ := namLay_at.1 hatx
      have HX := hide (And.intro (rangeAt_same hr (HI.out.2.2.block b (by omega))) hxo)
      have hszx : (Try.prog.info? 27).map (·.size) = some (bv x.2.2.1).length := by have := hszD hxo.2.2; simpa using this
      have hszx2 := hszD hxo.2.2
      have hszz : zcH.size = (bv x.2.2.1).toArray.size := by rw [show (bv x.2.2.1).toArray.size = 20 by rw [List.size_toArray, bvL]; exact hxo.2.2]; kernel_rfl
      have hone : (bv x.2.2.1).toArray.all (·.oneCell') = true := all_oneCell_toArray (bv1 x.2.2.1)
      have hszn2 := nszD hxo
      have hszn : (Try.prog.info? 72).map (·.size) = some (nC x).length := by simpa using hszn2
      have hszzn : zcN.size = (nC x).toArray.size := by rw [show (nC x).toArray.size = 43 by rw [List.size_toArray]; exact nC_len hxo]; kernel_rfl
      have honen : (nC x).toArray.all (·.oneCell') = true := all_oneCell_toArray (nC_one x)
      have hst := clsP_step d.2.1 j x hx
      clear hx hE hr hatx hxo
      by_cases his : x.2.2.2 = true
      · by_cases hin : x.2.2.1 ∈ clsP (d.2.1.take j)
        · rw [if_neg (by rw [his]; simp [hin])] at hst
          have HT := hide hst
          have hlk := seen_in hin
          clear hst
          go_wp2_with (first | ((with_reducible refine at_slot 13 ?_); refine wpList_value (o := ⟨some 13, _, _, _, _, _⟩) rfl (.pointer (some ⟨b, off + (j : Int).toNat * 43, none⟩)) wo (exec_index_off (o := ⟨some 13, _, _, _, _, _⟩) 31 72 (.tmp 9) (.tmp 11) rfl b off d.2.1.length cap (j : Int) .i64 rfl rfl ⟨j0, j1⟩ 43 Try.underlying31 sz_namD wo) ?_; rw [show off + (j : Int).toNat * 43 = off + j * 43 by omega]) | ((with_reducible refine at_slot 14 ?_); refine wpList_value (o := ⟨some 14, _, _, _, _, _⟩) rfl (.agg (nC x).toArray) wo (exec_load_mid (o := ⟨some 14, _, _, _, _, _⟩) 72 (.tmp 13) rfl b (off + j * 43) rfl (nC x) _ wo HX.out.1 Try.underlying72 rfl hszn) ?_) | ((with_reducible refine at_slot 5 ?_); (with_reducible refine wpList_box (o1 := ⟨some 5, _, _, _, _, _⟩) (o2 := ⟨none, _, _, _, _, _⟩) rfl rfl 72 (.tmp 5) (.tmp 14) ?_ zcN (nC x).toArray ?_ hszn2 ?_ honen ?_ ?_ ?_); rfl; kernel_rfl; exact hszzn; rfl; rfl; intro w3 hmm hbb; have H3 := hide (And.intro hmm hbb); clear hmm hbb; simp only [Act.put, List.setIfInBounds_toArray, List.set_cons_zero, List.set_cons_succ]) | ((with_reducible refine at_slot 17 ?_); refine wpList_value (o := ⟨some 17, _, _, _, _, _⟩) rfl (.agg (bv x.2.2.1).toArray) w3 (exec_load_mid (o := ⟨some 17, _, _, _, _, _⟩) 27 (.tmp 16) rfl wo.heap.size (22) rfl (bv x.2.2.1) _ w3 (named_cls HX.out.2 H3.out.1) Try.underlying27 rfl hszx) ?_) | ((with_reducible refine at_slot 6 ?_); (with_reducible refine wpList_box (o1 := ⟨some 6, _, _, _, _, _⟩) (o2 := ⟨none, _, _, _, _, _⟩) rfl rfl 27 (.tmp 6) (.tmp 17) ?_ zcH (bv x.2.2.1).toArray ?_ hszx2 ?_ hone ?_ ?_ ?_); rfl; kernel_rfl; exact hszz; rfl; rfl; intro w4 hmm hbb; have H4 := hide (And.intro hmm hbb); clear hmm hbb; simp only [Act.put, List.setIfInBounds_toArray, List.set_cons_zero, List.set_cons_succ]) | ((with_reducible refine at_slot 20 ?_); refine wpList_value (o := ⟨some 20, _, _, _, _, _⟩) rfl (.bool true) w4 (exec_load_cell (o := ⟨some 20, _, _, _, _, _⟩) 4 (.tmp 19) rfl ⟨wo.heap.size, 42, none⟩ rfl _ _ w4 Try.underlying4 rfl (by have h := named_is HX.out.2 (H3.out.1.below H4.out.2 H3.out.1.lt); rwa [his] at h)) ?_) | ((with_reducible refine at_slot 23 ?_); refine wpList_value_w (o := ⟨some 23, _, _, _, _, _⟩) (by kernel_rfl) (.agg (bv x.2.2.1).toArray) w4 (exec_load_blk (o := ⟨some 23, _, _, _, _, _⟩) 27 (.tmp 6) rfl w3.heap.size rfl 27 _ _ w4 H4.out.1 Try.underlying27 rfl hszx2) ?_) | ((with_reducible refine at_slot 24 ?_); refine wpList_value_w (o := ⟨some 24, _, _, _, _, _⟩) (by kernel_rfl) (((mget (seenM (clsP (d.2.1.take j))) x.2.2.1).map evN).getD (.int .i64 0)) w4 (exec_lookup (o := ⟨some 24, _, _, _, _, _⟩) 61 (.tmp 22) (.tmp 23) false rfl (.map (some (w.heap.size + 1))) (.agg (bv x.2.2.1).toArray) _ rfl rfl ((HI.out.1.of_eq ((H4.out.2.block _ (by have := HI.out.1.lt; have := H3.out.2.size; omega)).trans (H3.out.2.block _ HI.out.1.lt))).look hash_enc HX.out.2.2.2 Try.underlying61 (z_int w4))) ?_))
          go_roundw
          case rel => exact ⟨j + 1, u, by omega, rfl, by go_num, by rw [HT.out]; exact (HI.out.1.of_eq ((H4.out.2.block _ (by have := HI.out.1.lt; have := H3.out.2.size; omega)).trans (H3.out.2.block _ HI.out.1.lt))), by rw [HT.out]; exact (owned_keepN (owned_keepN HI.out.2.1 fun g _ hl => H3.out.2.block g hl) fun g _ hl => H4.out.2.block g hl), HI.out.2.2.trans (Below.mono (H3.out.2.trans (Below.mono H4.out.2 H3.out.2.size)) HI.out.2.2.size)⟩
          case measure => simp [intOf]; omega
        · rw [if_pos ⟨his, hin⟩] at hst
          have HT := hide hst
          have hlk := seen_out hin
          clear hst
          have hcl := clsP_len d.2.1 j
          go_wp2_with (first | ((with_reducible refine at_slot 13 ?_); refine wpList_value (o := ⟨some 13, _, _, _, _, _⟩) rfl (.pointer (some ⟨b, off + (j : Int).toNat * 43, none⟩)) wo (exec_index_off (o := ⟨some 13, _, _, _, _, _⟩) 31 72 (.tmp 9) (.tmp 11) rfl b off d.2.1.length cap (j : Int) .i64 rfl rfl ⟨j0, j1⟩ 43 Try.underlying31 sz_namD wo) ?_; rw [show off + (j : Int).toNat * 43 = off + j * 43 by omega]) | ((with_reducible refine at_slot 14 ?_); refine wpList_value (o := ⟨some 14, _, _, _, _, _⟩) rfl (.agg (nC x).toArray) wo (exec_load_mid (o := ⟨some 14, _, _, _, _, _⟩) 72 (.tmp 13) rfl b (off + j * 43) rfl (nC x) _ wo HX.out.1 Try.underlying72 rfl hszn) ?_) | ((with_reducible refine at_slot 5 ?_); (with_reducible refine wpList_box (o1 := ⟨some 5, _, _, _, _, _⟩) (o2 := ⟨none, _, _, _, _, _⟩) rfl rfl 72 (.tmp 5) (.tmp 14) ?_ zcN (nC x).toArray ?_ hszn2 ?_ honen ?_ ?_ ?_); rfl; kernel_rfl; exact hszzn; rfl; rfl; intro w3 hmm hbb; have H3 := hide (And.intro hmm hbb); clear hmm hbb; simp only [Act.put, List.setIfInBounds_toArray, List.set_cons_zero, List.set_cons_succ]) | ((with_reducible refine at_slot 17 ?_); refine wpList_value (o := ⟨some 17, _, _, _, _, _⟩) rfl (.agg (bv x.2.2.1).toArray) w3 (exec_load_mid (o := ⟨some 17, _, _, _, _, _⟩) 27 (.tmp 16) rfl wo.heap.size (22) rfl (bv x.2.2.1) _ w3 (named_cls HX.out.2 H3.out.1) Try.underlying27 rfl hszx) ?_) | ((with_reducible refine at_slot 6 ?_); (with_reducible refine wpList_box (o1 := ⟨some 6, _, _, _, _, _⟩) (o2 := ⟨none, _, _, _, _, _⟩) rfl rfl 27 (.tmp 6) (.tmp 17) ?_ zcH (bv x.2.2.1).toArray ?_ hszx2 ?_ hone ?_ ?_ ?_); rfl; kernel_rfl; exact hszz; rfl; rfl; intro w4 hmm hbb; have H4 := hide (And.intro hmm hbb); clear hmm hbb; simp only [Act.put, List.setIfInBounds_toArray, List.set_cons_zero, List.set_cons_succ]) | ((with_reducible refine at_slot 20 ?_); refine wpList_value (o := ⟨some 20, _, _, _, _, _⟩) rfl (.bool true) w4 (exec_load_cell (o := ⟨some 20, _, _, _, _, _⟩) 4 (.tmp 19) rfl ⟨wo.heap.size, 42, none⟩ rfl _ _ w4 Try.underlying4 rfl (by have h := named_is HX.out.2 (H3.out.1.below H4.out.2 H3.out.1.lt); rwa [his] at h)) ?_) | ((with_reducible refine at_slot 23 ?_); refine wpList_value_w (o := ⟨some 23, _, _, _, _, _⟩) (by kernel_rfl) (.agg (bv x.2.2.1).toArray) w4 (exec_load_blk (o := ⟨some 23, _, _, _, _, _⟩) 27 (.tmp 6) rfl w3.heap.size rfl 27 _ _ w4 H4.out.1 Try.underlying27 rfl hszx2) ?_) | ((with_reducible refine at_slot 24 ?_); refine wpList_value_w (o := ⟨some 24, _, _, _, _, _⟩) (by kernel_rfl) (((mget (seenM (clsP (d.2.1.take j))) x.2.2.1).map evN).getD (.int .i64 0)) w4 (exec_lookup (o := ⟨some 24, _, _, _, _, _⟩) 61 (.tmp 22) (.tmp 23) false rfl (.map (some (w.heap.size + 1))) (.agg (bv x.2.2.1).toArray) _ rfl rfl ((HI.out.1.of_eq ((H4.out.2.block _ (by have := HI.out.1.lt; have := H3.out.2.size; omega)).trans (H3.out.2.block _ HI.out.1.lt))).look hash_enc HX.out.2.2.2 Try.underlying61 (z_int w4))) ?_) | ((with_reducible refine at_slot 28 ?_); refine wpList_value (o := ⟨some 28, _, _, _, _, _⟩) rfl (.agg (bv x.2.2.1).toArray) w4 (exec_load_blk (o := ⟨some 28, _, _, _, _, _⟩) 27 (.tmp 6) rfl w3.heap.size rfl 27 _ _ w4 H4.out.1 Try.underlying27 rfl hszx2) ?_; obtain ⟨w5, r1, r2, r3⟩ := MapIs.update (HI.out.1.of_eq ((H4.out.2.block _ (by have := HI.out.1.lt; have := H3.out.2.size; omega)).trans (H3.out.2.block _ HI.out.1.lt))) hash_enc HX.out.2.2.2 Try.underlying61 1; have HU := hide (And.intro r1 (And.intro r2 r3)); clear r1 r2 r3) | (refine wpList_mapUpdate (o := ⟨none, _, _, _, _, _⟩) rfl 61 (.tmp 27) (.tmp 28) (.const (.int .i64 1)) rfl _ _ _ rfl rfl rfl HU.out.1 ?_) | ((with_reducible refine at_slot 30 ?_); refine wpList_value (o := ⟨some 30, _, _, _, _, _⟩) rfl (.agg (bv x.2.2.1).toArray) w5 (exec_load_blk (o := ⟨some 30, _, _, _, _, _⟩) 27 (.tmp 6) rfl w3.heap.size rfl 27 _ _ w5 ((HU.out.2.2.2.1 w3.heap.size (by have := HI.out.1.lt; have := H3.out.2.size; omega)).trans H4.out.1) Try.underlying27 rfl hszx2) ?_; obtain ⟨w6, hw6⟩ : ∃ w6, w6 = w5.alloc (.cells (Value.agg (bv x.2.2.1).toArray).cells 27) := ⟨_, rfl⟩; have hb6 : Below w5.heap.size w5 w6 := (by rw [hw6]; exact (Below.refl _ w5).alloc (Nat.le_refl _) _); have hk6 : Blk w6 w5.heap.size 27 (bv x.2.2.1).toArray := (by rw [hw6]; exact Blk.new _ _ _); have H6 := hide (And.intro hb6 (And.intro (hash_src HX.out.2.2.2 hk6) (owned_keepN (owned_keepN (owned_keepN (owned_keepN HI.out.2.1 fun g _ hl => H3.out.2.block g hl) fun g _ hl => H4.out.2.block g hl) fun g hg _ => HU.out.2.2.2.1 g (own_ne_map (owned_keepN (owned_keepN HI.out.2.1 fun g _ hl => H3.out.2.block g hl) fun g _ hl => H4.out.2.block g hl) (HI.out.1.of_eq ((H4.out.2.block _ (by have := HI.out.1.lt; have := H3.out.2.size; omega)).trans (H3.out.2.block _ HI.out.1.lt))) g hg)) fun g _ hl => hb6.block g hl))); have HW6 := hide hw6; clear hb6 hk6 hw6) | ((with_reducible refine at_slot 31 ?_); refine wpList_value (o := ⟨some 31, _, _, _, _, _⟩) rfl (.slice (some ⟨w5.heap.size, 0, none⟩) 1 1) w6 (by rw [HW6.out]; exact exec_buildSliceP (o := ⟨some 31, _, _, _, _, _⟩) (v := .agg (bv x.2.2.1).toArray) 45 (.tmp 30) rfl rfl Try.underlying45 sz_hash (by omega) (by omega) (z := .agg zcH) (fun w => by kernel_rfl) (by rw [Value.cells, List.size_toArray, bvL]; exact HX.out.2.2.2) w5) ?_) | (at_builtin; ((with_reducible refine at_slot 32 ?_); refine wpList_appS (o := ⟨some 32, _, _, _, _, _⟩) rfl _ _ 45 rfl w.heap.size 27 ih _ 20 20 Try.underlying45 HJ.out.1 HJ.out.2.1 HJ.out.2.2.1 HJ.out.2.2.2 rfl (by decide) _ (clsP (d.2.1.take j)).length ((clsP (d.2.1.take j)).flatMap bv) H6.out.2.2 (some ⟨w5.heap.size, 0, none⟩) 1 1 (bv x.2.2.1) H6.out.2.1 ?hm2 ?hb2 ?hz2 rfl rfl ?_)))
          case hm2 => simp only [maxLen]; omega
          case hb2 => omega
          case hz2 => have := HI.out.2.2.size; have := H3.out.2.size; have := H4.out.2.size; have := HU.out.2.2.1; have := H6.out.1.size; omega
          intro u2 w7 own7 gr7 _
          have hmp7 : MapIs hV okH evN w7 (w.heap.size + 1) (seenM (clsP (d.2.1.take j) ++ [x.2.2.1])) := by
            have h1 := HU.out.2.1
            rw [mput_new (seen_out' hin)] at h1
            have h2 : MapIs hV okH evN w7 (w.heap.size + 1) (seenM (clsP (d.2.1.take j)) ++ [(x.2.2.1, 1)]) := h1.of_eq ((gr7.block _ (by have := h1.lt; have := H6.out.1.size; omega) (fun e => own_ne_map H6.out.2.2 (h1.below H6.out.1 h1.lt) _ e.symm rfl)).trans (H6.out.1.block _ h1.lt))
            simpa [seenM] using h2
          have hb7 : Below w.heap.size w w7 := by
            have h4 := HI.out.2.2.trans (Below.mono (H3.out.2.trans (Below.mono H4.out.2 H3.out.2.size)) HI.out.2.2.size)
            have h5 : Below w.heap.size w w5 := h4.grown HU.out.2.2.grown h4.size (fun b hb => by injection hb with hb; omega)
            exact Below.grownOwn (h5.trans (Below.mono H6.out.1 h5.size)) H6.out.2.2 (Nat.le_refl _) gr7
          have hown7 : w7.ownsRow w.heap.size 27 20 u2 (clsP (d.2.1.take j) ++ [x.2.2.1]).length ((clsP (d.2.1.take j) ++ [x.2.2.1]).flatMap bv) := by rw [List.length_append, List.flatMap_append, List.flatMap_singleton]; exact own7
          have H7 := hide (And.intro hmp7 (And.intro hown7 hb7))
          clear hmp7 hown7 hb7 own7 gr7
          go_wp2_with fail
          go_roundw
          case rel => exact ⟨j + 1, u2, by omega, rfl, by go_num, by rw [HT.out]; exact H7.out.1, by rw [HT.out]; exact H7.out.2.1, H7.out.2.2⟩
          case measure => simp [intOf]; omega
      · have his' : x.2.2.2 = false := by simpa using his
        rw [if_neg (by rw [his']; simp)] at hst
        have HT := hide hst
        clear hst his
        go_wp2_with (first | ((with_reducible refine at_slot 13 ?_); refine wpList_value (o := ⟨some 13, _, _, _, _, _⟩) rfl (.pointer (some ⟨b, off + (j : Int).toNat * 43, none⟩)) wo (exec_index_off (o := ⟨some 13, _, _, _, _, _⟩) 31 72 (.tmp 9) (.tmp 11) rfl b off d.2.1.length cap (j : Int) .i64 rfl rfl ⟨j0, j1⟩ 43 Try.underlying31 sz_namD wo) ?_; rw [show off + (j : Int).toNat * 43 = off + j * 43 by omega]) | ((with_reducible refine at_slot 14 ?_); refine wpList_value (o := ⟨some 14, _, _, _, _, _⟩) rfl (.agg (nC x).toArray) wo (exec_load_mid (o := ⟨some 14, _, _, _, _, _⟩) 72 (.tmp 13) rfl b (off + j * 43) rfl (nC x) _ wo HX.out.1 Try.underlying72 rfl hszn) ?_) | ((with_reducible refine at_slot 5 ?_); (with_reducible refine wpList_box (o1 := ⟨some 5, _, _, _, _, _⟩) (o2 := ⟨none, _, _, _, _, _⟩) rfl rfl 72 (.tmp 5) (.tmp 14) ?_ zcN (nC x).toArray ?_ hszn2 ?_ honen ?_ ?_ ?_); rfl; kernel_rfl; exact hszzn; rfl; rfl; intro w3 hmm hbb; have H3 := hide (And.intro hmm hbb); clear hmm hbb; simp only [Act.put, List.setIfInBounds_toArray, List.set_cons_zero, List.set_cons_succ]) | ((with_reducible refine at_slot 17 ?_); refine wpList_value (o := ⟨some 17, _, _, _, _, _⟩) rfl (.agg (bv x.2.2.1).toArray) w3 (exec_load_mid (o := ⟨some 17, _, _, _, _, _⟩) 27 (.tmp 16) rfl wo.heap.size (22) rfl (bv x.2.2.1) _ w3 (named_cls HX.out.2 H3.out.1) Try.underlying27 rfl hszx) ?_) | ((with_reducible refine at_slot 6 ?_); (with_reducible refine wpList_box (o1 := ⟨some 6, _, _, _, _, _⟩) (o2 := ⟨none, _, _, _, _, _⟩) rfl rfl 27 (.tmp 6) (.tmp 17) ?_ zcH (bv x.2.2.1).toArray ?_ hszx2 ?_ hone ?_ ?_ ?_); rfl; kernel_rfl; exact hszz; rfl; rfl; intro w4 hmm hbb; have H4 := hide (And.intro hmm hbb); clear hmm hbb; simp only [Act.put, List.setIfInBounds_toArray, List.set_cons_zero, List.set_cons_succ]) | ((with_reducible refine at_slot 20 ?_); refine wpList_value (o := ⟨some 20, _, _, _, _, _⟩) rfl (.bool false) w4 (exec_load_cell (o := ⟨some 20, _, _, _, _, _⟩) 4 (.tmp 19) rfl ⟨wo.heap.size, 42, none⟩ rfl _ _ w4 Try.underlying4 rfl (by have h := named_is HX.out.2 (H3.out.1.below H4.out.2 H3.out.1.lt); rwa [his'] at h)) ?_))
        go_roundw
        case rel => exact ⟨j + 1, u, by omega, rfl, by go_num, by rw [HT.out]; exact (HI.out.1.of_eq ((H4.out.2.block _ (by have := HI.out.1.lt; have := H3.out.2.size; omega)).trans (H3.out.2.block _ HI.out.1.lt))), by rw [HT.out]; exact (owned_keepN (owned_keepN HI.out.2.1 fun g _ hl => H3.out.2.block g hl) fun g _ hl => H4.out.2.block g hl), HI.out.2.2.trans (Below.mono (H3.out.2.trans (Below.mono H4.out.2 H3.out.2.size)) HI.out.2.2.size)⟩
        case measure => simp [intOf]; omega
    · obtain rfl : j = d.2.1.length := by omega
      have hown := HI.out.2.1
      rw [List.take_length] at hown
      have HO := hide hown
      clear hown
      go_wp2_with fail
      go_ret
      exact ⟨_, rfl, HO.out, HI.out.2.2⟩
end Go.Proofs.Ytidiepbmbbflhaa
