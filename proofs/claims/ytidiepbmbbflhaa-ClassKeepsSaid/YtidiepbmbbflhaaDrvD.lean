/- text.Can. -/
import Derived.Test.YtidiepbmbbflhaaAt
import Derived.Test.YtidiepbmbbflhaaDrvC
namespace Go.Proofs.Ytidiepbmbbflhaa
open Go Go.RowKit Go.Maps
set_option maxRecDepth 100000
def canAll : List Nam → ByteArray → Bool
  | [], _ => true
  | x :: l, b => canP x b && canAll l x.1
theorem canAll_step (l : List Nam) (j : Nat) (x : Nam) (hx : l[j]? = some x) (b : ByteArray) : canAll (l.drop j) b = (canP x b && canAll (l.drop (j + 1)) x.1) := by
  have hj := (List.getElem?_eq_some_iff.1 hx)
  rw [List.drop_eq_getElem_cons hj.1, hj.2]
  rfl
/-- can a derivation be written? -/
def CanP (d : Drv) : Bool := canAll d.2.1 ⟨#[]⟩ && (nameP d.1 && (decide ((d.2.1.length : Int) ≤ 8) && decide ((d.2.2.length : Int) ≤ 1000)))
set_option maxHeartbeats 2000000 in
theorem Can_any (w : World) (d : Drv) (v1 v2 : Value) (h : DrvAt w w.heap.size d v1 v2) :
    Calls Try.prog 52 #[.agg (dC d v1 v2).toArray] w fun e w' => e = .returned (.bool (CanP d)) ∧ Below w.heap.size w w' := by
  have hnm := h.name
  obtain ⟨A, cap, rfl, hcl, hcm, _, hA⟩ := slice_open h.ins
  obtain ⟨A2, cap2, rfl, hcl2, hcm2, _, _⟩ := slice_open h.rcp
  have l9 : (d.2.1.length : Int) ≤ 9223372036854775807 := by simp only [maxLen] at hcm; omega
  have k9 : (d.2.2.length : Int) ≤ 9223372036854775807 := by simp only [maxLen] at hcm2; omega
  obtain ⟨w1, hw1⟩ : ∃ w1, w1 = w.alloc (.cells (dC d (.slice A d.2.1.length cap) (.slice A2 d.2.2.length cap2)).toArray 34) := ⟨_, rfl⟩
  have hk1 : Blk w1 w.heap.size 34 (dC d (.slice A d.2.1.length cap) (.slice A2 d.2.2.length cap2)).toArray := by rw [hw1]; exact Blk.new _ _ _
  have hb1 : Below w.heap.size w w1 := by rw [hw1]; exact (Below.refl _ w).alloc (Nat.le_refl _) _
  have hz1 : w1.heap.size = w.heap.size + 1 := by rw [hw1, size_alloc]
  have c1 : w1.cell? ⟨w.heap.size, 1, none⟩ = some (.slice A d.2.1.length cap) := hk1.cell 1
  have HC := hide (And.intro (show w1.cell? ⟨w.heap.size, 0, none⟩ = some (.string d.1) from hk1.cell 0) (And.intro c1 (show w1.cell? ⟨w.heap.size, 2, none⟩ = some (.slice A2 d.2.2.length cap2) from hk1.cell 2)))
  have HB1 := hide hb1
  have HZ := hide hz1
  have HW := hide hw1
  have HA := hide hA
  clear hk1 hb1 hz1 hw1 hA h hcl hcm hcl2 hcm2
  go_enter Try.func52, Try.ntmps52
  go_wp2_with ((with_reducible refine at_slot 1 ?_); refine wpList_value (o := ⟨some 1, _, _, _, _, _⟩) rfl (.pointer (some ⟨w.heap.size, 0, none⟩)) w1 (by rw [HW.out]; kernel_rfl) ?_)
  go_loopw [3, 9] (fun x3 x9 wr => ∃ (j : Nat) (bj : ByteArray), j ≤ d.2.1.length ∧ x3 = .string bj ∧ x9 = .int .i64 (j : Int) ∧ canAll d.2.1 ⟨#[]⟩ = canAll (d.2.1.drop j) bj ∧ Below w1.heap.size w1 wr) (fun _ x9 _ => d.2.1.length - (intOf x9).toNat)
  case atStart => exact ⟨0, ⟨#[]⟩, by omega, rfl, rfl, rfl, Below.refl _ _⟩
  case round =>
    obtain ⟨wo, rfl⟩ : ∃ wo, wo = wr := ⟨_, rfl⟩
    obtain ⟨j, bj, hj, rfl, rfl, hok, hb⟩ := hrel
    have HI := hide (And.intro trivial hb)
    clear hb
    have j0 : (0 : Int) ≤ (j : Int) := by omega
    by_cases hj2 : j < d.2.1.length
    · have j1 : (j : Int) < (d.2.1.length : Int) := by omega
      obtain ⟨x, hx⟩ : ∃ x, d.2.1[j]? = some x := ⟨_, List.getElem?_eq_getElem hj2⟩
      obtain ⟨b, off, rfl, hlb, hE⟩ := HA.out (by omega)
      obtain ⟨cs, hr, hatx⟩ := hE j x hx
      obtain ⟨rfl, hxo⟩ := namLay_at.1 hatx
      have HX := hide (And.intro (rangeAt_same hr ((HI.out.2.block b (by have := HZ.out; omega)).trans (HB1.out.block b (by omega)))) hxo)
      have hszn2 := nszD hxo
      have hszn : (Try.prog.info? 72).map (·.size) = some (nC x).length := by simpa using hszn2
      have hszzn : zcN.size = (nC x).toArray.size := by rw [show (nC x).toArray.size = 43 by rw [List.size_toArray]; exact nC_len hxo]; kernel_rfl
      have honen : (nC x).toArray.all (·.oneCell') = true := all_oneCell_toArray (nC_one x)
      have hst := canAll_step d.2.1 j x hx bj
      rw [hst] at hok
      have HOK := hide hok
      clear hx hE hr hatx hxo hst hok
      go_wp2_with (first | ((with_reducible refine at_slot 11 ?_); refine wpList_value (o := ⟨some 11, _, _, _, _, _⟩) rfl (.pointer (some ⟨b, off + (j : Int).toNat * 43, none⟩)) wo (exec_index_off (o := ⟨some 11, _, _, _, _, _⟩) 31 72 (.tmp 7) (.tmp 9) rfl b off d.2.1.length cap (j : Int) .i64 rfl rfl ⟨j0, j1⟩ 43 Try.underlying31 sz_namD wo) ?_; rw [show off + (j : Int).toNat * 43 = off + j * 43 by omega]) | ((with_reducible refine at_slot 12 ?_); refine wpList_value (o := ⟨some 12, _, _, _, _, _⟩) rfl (.agg (nC x).toArray) wo (exec_load_mid (o := ⟨some 12, _, _, _, _, _⟩) 72 (.tmp 11) rfl b (off + j * 43) rfl (nC x) _ wo HX.out.1 Try.underlying72 rfl hszn) ?_) | ((with_reducible refine at_slot 5 ?_); (with_reducible refine wpList_box (o1 := ⟨some 5, _, _, _, _, _⟩) (o2 := ⟨none, _, _, _, _, _⟩) rfl rfl 72 (.tmp 5) (.tmp 12) ?_ zcN (nC x).toArray ?_ hszn2 ?_ honen ?_ ?_ ?_); rfl; kernel_rfl; exact hszzn; rfl; rfl; intro w3 hmm hbb; have H3 := hide (And.intro hmm hbb); clear hmm hbb; simp only [Act.put, List.setIfInBounds_toArray, List.set_cons_zero, List.set_cons_succ]) | ((with_reducible refine at_slot 13 ?_); refine wpList_value (o := ⟨some 13, _, _, _, _, _⟩) rfl (.agg (nC x).toArray) w3 (exec_load_blk (o := ⟨some 13, _, _, _, _, _⟩) 72 (.tmp 5) rfl wo.heap.size rfl 72 _ _ w3 H3.out.1 Try.underlying72 rfl hszn2) ?_))
      refine (can_any w3 x HX.out.2 bj).mono ?_
      rintro e w4 ⟨rfl, hb⟩
      have H4 := hide (H3.out.1.below hb H3.out.1.lt)
      have HB4 := hide (HI.out.2.trans (Below.mono (H3.out.2.trans (Below.mono hb H3.out.2.size)) HI.out.2.size))
      clear hb
      dsimp only
      by_cases hc : canP x bj = true
      · have hok := HOK.out
        rw [hc, Bool.true_and] at hok
        have HO := hide hok
        rw [hc]
        have c4 := named_name H4.out
        clear hok
        go_wp2_with fail
        go_roundw
        case rel => exact ⟨j + 1, x.1, by omega, rfl, by go_num, HO.out, HB4.out⟩
        case measure => simp [intOf]; omega
      · have hc' : canP x bj = false := by simpa using hc
        have e9 : CanP d = false := by unfold CanP; rw [HOK.out, hc']; rfl
        have HE := hide e9
        rw [hc']
        clear e9
        go_wp2_with fail
        go_ret
        exact ⟨by rw [HE.out]; rfl, HB1.out.trans (Below.mono HB4.out HB1.out.size)⟩
    · obtain rfl : j = d.2.1.length := by omega
      rw [List.drop_length] at hok
      have e9 : CanP d = (nameP d.1 && (decide ((d.2.1.length : Int) ≤ 8) && decide ((d.2.2.length : Int) ≤ 1000))) := by unfold CanP; rw [hok]; rfl
      have HE := hide e9
      clear e9 hok
      have c0 : wo.cell? ⟨w.heap.size, 0, none⟩ = some (.string d.1) := (World.cell?_of_block (HI.out.2.block w.heap.size (by have := HZ.out; omega))).trans HC.out.1
      go_wp2_with fail
      refine (name_any d.1 hnm wo).mono ?_
      rintro e w5 ⟨rfl, hb⟩
      have HB5 := hide (HI.out.2.trans (Below.mono hb HI.out.2.size))
      clear hb c0
      dsimp only
      have c1 : w5.cell? ⟨w.heap.size, 1, none⟩ = some (.slice A d.2.1.length cap) := (World.cell?_of_block (HB5.out.block w.heap.size (by have := HZ.out; omega))).trans HC.out.2.1
      have c2 : w5.cell? ⟨w.heap.size, 2, none⟩ = some (.slice A2 d.2.2.length cap2) := (World.cell?_of_block (HB5.out.block w.heap.size (by have := HZ.out; omega))).trans HC.out.2.2
      have HF := hide (HB1.out.trans (Below.mono HB5.out HB1.out.size))
      by_cases hn : nameP d.1 = true
      · rw [hn]
        by_cases h8 : (d.2.1.length : Int) ≤ 8
        · by_cases h10 : (d.2.2.length : Int) ≤ 1000
          · rw [hn, decide_eq_true h8, decide_eq_true h10] at HE
            go_wp2_with fail
            go_ret
            exact ⟨by rw [HE.out]; rfl, HF.out⟩
          · rw [hn, decide_eq_true h8, decide_eq_false h10] at HE
            go_wp2_with fail
            go_ret
            exact ⟨by rw [HE.out]; rfl, HF.out⟩
        · rw [hn, decide_eq_false h8] at HE
          go_wp2_with fail
          go_ret
          exact ⟨by rw [HE.out]; rfl, HF.out⟩
      · have hn' : nameP d.1 = false := by simpa using hn
        rw [hn'] at HE ⊢
        go_wp2_with fail
        go_ret
        exact ⟨by rw [HE.out]; rfl, HF.out⟩
end Go.Proofs.Ytidiepbmbbflhaa
