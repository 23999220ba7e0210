/- text.can. -/
import Derived.Test.YtidiepbmbbflhaaAt
import Derived.Test.YtidiepbmbbflhaaDrvB
namespace Go.Proofs.Ytidiepbmbbflhaa
open Go Go.RowKit Go.Maps
set_option maxRecDepth 100000
theorem named_name {x : Nam} {w : World} {g : Nat} (hb : Blk w g 72 (nC x).toArray) : w.cell? ⟨g, 0, none⟩ = some (.string x.1) := by
  rw [hb.cell, List.getElem?_toArray]
  rfl
theorem named_src {x : Nam} {w : World} {g : Nat} (hb : Blk w g 72 (nC x).toArray) : w.rangeAt g 1 (pC x.2.1) := by
  have h1 := rangeAt_blk hb
  have e : (nC x).toArray.toList = [.string x.1] ++ (pC x.2.1 ++ (bv x.2.2.1 ++ [.bool x.2.2.2])) := by simp [nC, iC]
  rw [e] at h1
  exact rangeAt_left (rangeAt_right h1)
theorem named_sname {x : Nam} {w : World} {g : Nat} (hx : okN x) (hb : Blk w g 72 (nC x).toArray) : w.cell? ⟨g, 21, none⟩ = some (.string x.2.1.2) := by
  have h := named_src hb
  refine h 20 _ ?_
  unfold pC
  rw [List.getElem?_append_right (by rw [bvL]; exact Nat.le_of_eq hx.2.1.1), bvL, show x.2.1.1.length = 20 from hx.2.1.1]
  rfl
def zeroH : Hsh := List.replicate 20 0
def zeroP : Pth := (zeroH, ⟨#[]⟩)
theorem zeroH_ok : okH zeroH := rfl
theorem zeroP_ok : okP zeroP := ⟨rfl, Nat.zero_le _⟩
/-- can an input be written, behind a name? -/
def canP (x : Nam) (b : ByteArray) : Bool := nameP x.1 && (!Op.bytesLess x.1.toList b.toList && !(x.1.toList == b.toList)) && (if x.2.2.2 = true then decide (x.2.1 = zeroP) else nameP x.2.1.2 && decide (x.2.2.1 = zeroH))
set_option maxHeartbeats 2000000 in
theorem can_any (w : World) (x : Nam) (hx : okN x) (b : ByteArray) :
    Calls Try.prog 62 #[.agg (nC x).toArray, .string b] w fun e w' => e = .returned (.bool (canP x b)) ∧ Below w.heap.size w w' := by
  obtain ⟨w1, hw1⟩ : ∃ w1, w1 = w.alloc (.cells (nC x).toArray 72) := ⟨_, rfl⟩
  have hk1 : Blk w1 w.heap.size 72 (nC x).toArray := by rw [hw1]; exact Blk.new _ _ _
  have hb1 : Below w.heap.size w w1 := by rw [hw1]; exact (Below.refl _ w).alloc (Nat.le_refl _) _
  have H1 := hide (And.intro hk1 hb1)
  have HW := hide hw1
  have c1 := named_name hk1
  clear hk1 hb1 hw1
  go_enter Try.func62, Try.ntmps62
  go_wp2_with ((with_reducible refine at_slot 2 ?_); refine wpList_value (o := ⟨some 2, _, _, _, _, _⟩) rfl (.pointer (some ⟨w.heap.size, 0, none⟩)) w1 (by rw [HW.out]; kernel_rfl) ?_)
  refine (name_any x.1 hx.1 w1).mono ?_
  rintro e w2 ⟨rfl, hb⟩
  have H2 := hide (H1.out.1.below hb H1.out.1.lt)
  have HB := hide (H1.out.2.trans (Below.mono hb H1.out.2.size))
  have c2 := named_name H2.out
  clear hb c1
  dsimp only
  by_cases hn : nameP x.1 = true
  · rw [hn]
    cases h1 : Op.bytesLess x.1.toList b.toList with
    | true =>
      have hcn : canP x b = false := by unfold canP; simp [h1]
      have HC := hide hcn
      clear hcn
      go_wp2_with fail
      go_ret
      exact ⟨by rw [HC.out]; rfl, HB.out⟩
    | false =>
      cases h2 : (x.1.toList == b.toList) with
      | true =>
        have hcn : canP x b = false := by unfold canP; simp [h2]
        have HC := hide hcn
        clear hcn
        go_wp2_with fail
        go_ret
        exact ⟨by rw [HC.out]; rfl, HB.out⟩
      | false =>
        by_cases his : x.2.2.2 = true
        · have hcn : canP x b = decide (x.2.1 = zeroP) := by unfold canP; rw [hn, h1, h2, if_pos his]; rfl
          have c42 : w2.cell? ⟨w.heap.size, 42, none⟩ = some (.bool true) := by have h := named_is hx H2.out; rwa [his] at h
          have HC := hide hcn
          clear hcn
          go_wp2_with (first | ((with_reducible refine at_slot 20 ?_); refine wpList_value (o := ⟨some 20, _, _, _, _, _⟩) rfl (.agg (pC x.2.1).toArray) w2 (exec_load_mid (o := ⟨some 20, _, _, _, _, _⟩) 68 (.tmp 19) rfl w.heap.size (1) rfl (pC x.2.1) _ w2 (named_src H2.out) Try.underlying68 rfl (by have := psz hx.2.1; simpa using this)) ?_) | ((with_reducible refine at_slot 21 ?_); refine wpList_value (o := ⟨some 21, _, _, _, _, _⟩) rfl (.agg (pC zeroP).toArray) w2 (by kernel_rfl) ?_) | ((with_reducible refine at_slot 22 ?_); refine wpList_value (o := ⟨some 22, _, _, _, _, _⟩) rfl (.bool (decide (x.2.1 = zeroP))) w2 (exec_binop_agg (o := ⟨some 22, _, _, _, _, _⟩) .eql 68 (.tmp 20) (.tmp 21) _ rfl (pC x.2.1).toArray (pC zeroP).toArray rfl rfl (by kernel_rfl) _ (fun W => bin_eq_path x.2.1 zeroP hx.2.1 zeroP_ok W) w2) ?_))
          go_ret
          exact ⟨by rw [HC.out]; rfl, HB.out⟩
        · have his' : x.2.2.2 = false := by simpa using his
          have hcn : canP x b = (nameP x.2.1.2 && decide (x.2.2.1 = zeroH)) := by unfold canP; rw [hn, h1, h2, if_neg his]; rfl
          have c42 : w2.cell? ⟨w.heap.size, 42, none⟩ = some (.bool false) := by have h := named_is hx H2.out; rwa [his'] at h
          have c21 : w2.cell? ⟨w.heap.size, 21, none⟩ = some (.string x.2.1.2) := named_sname hx H2.out
          go_wp2_with fail
          refine (name_any x.2.1.2 hx.2.1.2 w2).mono ?_
          rintro e w3 ⟨rfl, hb⟩
          have H3 := hide (H2.out.below hb H2.out.lt)
          have HB3 := hide (HB.out.trans (Below.mono hb HB.out.size))
          clear hb
          dsimp only
          by_cases hn2 : nameP x.2.1.2 = true
          · rw [hn2, Bool.true_and] at hcn
            rw [hn2]
            have HC := hide hcn
            clear hcn
            go_wp2_with (first | ((with_reducible refine at_slot 31 ?_); refine wpList_value_w (o := ⟨some 31, _, _, _, _, _⟩) (by kernel_rfl) (.agg (bv x.2.2.1).toArray) w3 (exec_load_mid (o := ⟨some 31, _, _, _, _, _⟩) 27 (.tmp 30) rfl w.heap.size (22) rfl (bv x.2.2.1) _ w3 (named_cls hx H3.out) Try.underlying27 rfl (by have := hszD hx.2.2; simpa using this)) ?_) | ((with_reducible refine at_slot 32 ?_); refine wpList_value_w (o := ⟨some 32, _, _, _, _, _⟩) (by kernel_rfl) (.agg (bv zeroH).toArray) w3 (by kernel_rfl) ?_) | ((with_reducible refine at_slot 33 ?_); refine wpList_value_w (o := ⟨some 33, _, _, _, _, _⟩) (by kernel_rfl) (.bool (decide (x.2.2.1 = zeroH))) w3 (exec_binop_agg (o := ⟨some 33, _, _, _, _, _⟩) .eql 27 (.tmp 31) (.tmp 32) _ rfl (bv x.2.2.1).toArray (bv zeroH).toArray rfl rfl (by kernel_rfl) _ (fun W => bin_eq_hash x.2.2.1 zeroH hx.2.2 zeroH_ok W) w3) ?_))
            go_ret
            exact ⟨by rw [HC.out]; rfl, HB3.out⟩
          · have hn2' : nameP x.2.1.2 = false := by simpa using hn2
            rw [hn2', Bool.false_and] at hcn
            rw [hn2']
            have HC := hide hcn
            clear hcn
            go_wp2_with fail
            go_ret
            exact ⟨by rw [HC.out]; rfl, HB3.out⟩
  · have hn' : nameP x.1 = false := by simpa using hn
    rw [hn']
    have hcn : canP x b = false := by unfold canP; simp [hn']
    have HC := hide hcn
    clear hcn
    go_wp2_with fail
    go_ret
    exact ⟨by rw [HC.out]; rfl, HB.out⟩
end Go.Proofs.Ytidiepbmbbflhaa
