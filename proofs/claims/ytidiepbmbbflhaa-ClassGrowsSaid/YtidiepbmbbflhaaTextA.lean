/- base.Path, text.line. -/
import Derived.Test.YtidiepbmbbflhaaAt
import Derived.Test.YtidiepbmbbflhaaLetters
import Derived.Test.YtidiepbmbbflhaaDrvD
import Derived.Test.YtidiepbmbbflhaaBel
import Derived.Test.YtidiepbmbbflhaaStr
namespace Go.Proofs.Ytidiepbmbbflhaa
open Go Go.RowKit Go.Maps
set_option maxRecDepth 100000
theorem path_hash {p : Pth} {w : World} {g : Nat} (_ : okP p) (hb : Blk w g 68 (pC p).toArray) : w.rangeAt g 0 (bv p.1) := by
  have h1 := rangeAt_blk hb
  exact rangeAt_left (c2 := [.string p.2]) (by simpa [pC] using h1)
theorem path_name {p : Pth} {w : World} {g : Nat} (h : okP p) (hb : Blk w g 68 (pC p).toArray) : w.cell? ⟨g, 20, none⟩ = some (.string p.2) := by
  rw [hb.cell, List.getElem?_toArray]
  have hl : (bv p.1).length = 20 := by rw [bvL]; exact h.1
  rw [show pC p = bv p.1 ++ [.string p.2] from rfl, List.getElem?_append_right (by omega), hl]
  rfl
/-- a path's text -/
def pathS (p : Pth) : ByteArray := ⟨(lettersP p.1).toArray⟩ ++ ⟨#[45]⟩ ++ p.2
theorem name_small {s : ByteArray} (h : nameP s = true) : s.size ≤ 24 := by
  unfold nameP restP at h
  simp only [Bool.and_eq_true] at h
  have := of_decide_eq_true h.2.2.1
  omega
theorem path_small {h : Hsh} {s : ByteArray} (hh : okH h) (hs : s.size ≤ 24) : (⟨(lettersP h).toArray⟩ : ByteArray).size + (⟨#[45]⟩ : ByteArray).size ≤ 9223372036854775807 ∧ (⟨(lettersP h).toArray⟩ ++ ⟨#[45]⟩ : ByteArray).size + s.size ≤ 9223372036854775807 := by
  have hll := letters_len h
  have hpl : h.length = 20 := hh
  have hs1 : (⟨(lettersP h).toArray⟩ : ByteArray).size = (lettersP h).length := rfl
  have hs2 : (⟨#[45]⟩ : ByteArray).size = 1 := rfl
  rw [ByteArray.size_append, hs1, hs2]
  omega
set_option maxHeartbeats 4000000 in
theorem path_any (w : World) (p : Pth) (hp : okP p) :
    Calls Try.prog 65 #[.agg (pC p).toArray] w fun e w' => e = .returned (if nameP p.2 = true then .tuple #[.string (pathS p), .int .i64 0] else .tuple #[.string ⟨#[]⟩, .int .i64 2]) ∧ Below w.heap.size w w' := by
  obtain ⟨w1, hw1⟩ : ∃ w1, w1 = w.alloc (.cells (pC p).toArray 68) := ⟨_, rfl⟩
  have hb1 : Below w.heap.size w w1 := by rw [hw1]; exact (Below.refl _ w).alloc (Nat.le_refl _) _
  have hk1 : Blk w1 w.heap.size 68 (pC p).toArray := by rw [hw1]; exact Blk.new _ _ _
  have c20 := path_name hp hk1
  have H1 := hide (And.intro hk1 hb1)
  have HW1 := hide hw1
  clear hk1 hb1 hw1
  go_enter Try.func65, Try.ntmps65
  go_wp2_with ((with_reducible refine at_slot 1 ?_); refine wpList_value (o := ⟨some 1, _, _, _, _, _⟩) rfl (.pointer (some ⟨w.heap.size, 0, none⟩)) w1 (by rw [HW1.out]; kernel_rfl) ?_)
  refine (name_any p.2 hp.2 w1).mono ?_
  rintro e w2 ⟨rfl, hb⟩
  dsimp only
  have HK := hide (And.intro (H1.out.1.below hb H1.out.1.lt) (H1.out.2.trans (Below.mono hb H1.out.2.size)))
  clear hb
  by_cases hn : nameP p.2 = true
  · have HL := hide (path_small hp.1 (name_small hn))
    rw [hn]
    go_wp2_with fail
    refine Fre.wp_made (X := Bel) 7 [] (by kernel_rfl) (by kernel_rfl) (by simp) (by simp) (by simp) ?_
    simp only [List.take_succ_cons, List.take_zero, List.drop_succ_cons, List.drop_zero]
    refine Fre.made_val (.pointer (some ⟨w.heap.size, 0, none⟩)) (by kernel_rfl) (by kernel_rfl) (by kernel_rfl) (fun _ _ => by kernel_rfl) ?_
    simp only [Act.put, List.setIfInBounds_toArray, List.set_cons_zero, List.set_cons_succ]
    refine Fre.made_val (.agg (bv p.1).toArray) (by kernel_rfl) (by kernel_rfl) (by kernel_rfl) (fun W9 hW9 => exec_load_mid (o := ⟨some 9, _, _, _, _, _⟩) 27 (.tmp 8) rfl w.heap.size (0) rfl (bv p.1) _ W9 (path_hash hp (HK.out.1.below hW9 HK.out.1.lt)) Try.underlying27 rfl (by have := hszD hp.1; simpa using this)) ?_
    simp only [Act.put, List.setIfInBounds_toArray, List.set_cons_zero, List.set_cons_succ]
    refine Fre.made_call (.string ⟨(lettersP p.1).toArray⟩) 64 #[.agg (bv p.1).toArray] (by kernel_rfl) (by kernel_rfl) (by kernel_rfl) (fun W9 => by kernel_rfl) (fun W9 hW9 => (letters_any W9 p.1 hp.1)) ?_
    simp only [Act.put, List.setIfInBounds_toArray, List.set_cons_zero, List.set_cons_succ]
    refine Fre.made_val (.string (⟨(lettersP p.1).toArray⟩ ++ ⟨#[45]⟩)) (by kernel_rfl) (by kernel_rfl) (by kernel_rfl) (fun W9 hW9 => exec_concat (o := ⟨some 11, _, _, _, _, _⟩) 9 (.tmp 10) (.const (.string ⟨#[45]⟩)) 9 rfl (⟨(lettersP p.1).toArray⟩) (⟨#[45]⟩) rfl rfl (by have := HL.out; exact this.1) W9) ?_
    simp only [Act.put, List.setIfInBounds_toArray, List.set_cons_zero, List.set_cons_succ]
    refine Fre.made_val (.pointer (some ⟨w.heap.size, 20, none⟩)) (by kernel_rfl) (by kernel_rfl) (by kernel_rfl) (fun _ _ => by kernel_rfl) ?_
    simp only [Act.put, List.setIfInBounds_toArray, List.set_cons_zero, List.set_cons_succ]
    refine Fre.made_val (.string p.2) (by kernel_rfl) (by kernel_rfl) (by kernel_rfl) (fun W9 hW9 => exec_load_cell (o := ⟨some 13, _, _, _, _, _⟩) 9 (.tmp 12) rfl ⟨w.heap.size, 20, none⟩ rfl _ _ W9 Try.underlying9 rfl (path_name hp (HK.out.1.below hW9 HK.out.1.lt))) ?_
    simp only [Act.put, List.setIfInBounds_toArray, List.set_cons_zero, List.set_cons_succ]
    refine Fre.made_val (.string ((⟨(lettersP p.1).toArray⟩ ++ ⟨#[45]⟩) ++ p.2)) (by kernel_rfl) (by kernel_rfl) (by kernel_rfl) (fun W9 hW9 => exec_concat (o := ⟨some 14, _, _, _, _, _⟩) 9 (.tmp 11) (.tmp 13) 9 rfl ((⟨(lettersP p.1).toArray⟩ ++ ⟨#[45]⟩)) (p.2) rfl rfl (by have := HL.out; exact this.2) W9) ?_
    simp only [Act.put, List.setIfInBounds_toArray, List.set_cons_zero, List.set_cons_succ]
    intro w4 hx4
    have H4 := hide (HK.out.2.trans (Below.mono hx4 HK.out.2.size))
    clear hx4
    dsimp only [Fre.ended, List.drop]
    go_wp2_with fail
    refine bodyPost_ret (v := .tuple #[.string (pathS p), .int .i64 0]) (by simp [results, Try.results65, pathS, go_sem]) rfl ?_
    exact ⟨rfl, H4.out⟩
  · have hn' : nameP p.2 = false := by simpa using hn
    rw [hn']
    go_wp2_with fail
    refine bodyPost_ret (v := .tuple #[.string ⟨#[]⟩, .int .i64 2]) (by simp [results, Try.results65, go_sem]) rfl ?_
    exact ⟨rfl, HK.out.2⟩
/-- an input's line -/
def lineS (x : Nam) : ByteArray := if x.2.2.2 = true then ⟨#[99, 108, 97, 115, 115, 32]⟩ ++ x.1 ++ ⟨#[32]⟩ ++ ⟨(lettersP x.2.2.1).toArray⟩ else ⟨#[115, 114, 99, 32]⟩ ++ x.1 ++ ⟨#[32]⟩ ++ pathS x.2.1
theorem pathS_size (p : Pth) : (pathS p).size = (lettersP p.1).length + 1 + p.2.size := by
  rw [pathS, ByteArray.size_append, ByteArray.size_append]
  rfl
theorem line_small1 {x : Nam} (h : okN x) (hs : x.1.size ≤ 24) : (⟨#[99, 108, 97, 115, 115, 32]⟩ : ByteArray).size + x.1.size ≤ 9223372036854775807 ∧ (⟨#[99, 108, 97, 115, 115, 32]⟩ ++ x.1 : ByteArray).size + (⟨#[32]⟩ : ByteArray).size ≤ 9223372036854775807 ∧ (⟨#[99, 108, 97, 115, 115, 32]⟩ ++ x.1 ++ ⟨#[32]⟩ : ByteArray).size + (⟨(lettersP x.2.2.1).toArray⟩ : ByteArray).size ≤ 9223372036854775807 := by
  have hll := letters_len x.2.2.1
  have hpl : x.2.2.1.length = 20 := h.2.2
  have hs1 : (⟨(lettersP x.2.2.1).toArray⟩ : ByteArray).size = (lettersP x.2.2.1).length := rfl
  have hs2 : (⟨#[32]⟩ : ByteArray).size = 1 := rfl
  have hs3 : (⟨#[99, 108, 97, 115, 115, 32]⟩ : ByteArray).size = 6 := rfl
  simp only [ByteArray.size_append, hs1, hs2, hs3]
  omega
theorem line_small2 {x : Nam} (h : okN x) (hs : x.1.size ≤ 24) (hp : x.2.1.2.size ≤ 24) : (⟨#[115, 114, 99, 32]⟩ : ByteArray).size + x.1.size ≤ 9223372036854775807 ∧ (⟨#[115, 114, 99, 32]⟩ ++ x.1 : ByteArray).size + (⟨#[32]⟩ : ByteArray).size ≤ 9223372036854775807 ∧ (⟨#[115, 114, 99, 32]⟩ ++ x.1 ++ ⟨#[32]⟩ : ByteArray).size + (pathS x.2.1).size ≤ 9223372036854775807 := by
  have hll := letters_len x.2.1.1
  have hpl : x.2.1.1.length = 20 := h.2.1.1
  have hs2 : (⟨#[32]⟩ : ByteArray).size = 1 := rfl
  have hs3 : (⟨#[115, 114, 99, 32]⟩ : ByteArray).size = 4 := rfl
  simp only [ByteArray.size_append, pathS_size, hs2, hs3]
  omega
set_option maxHeartbeats 4000000 in
theorem line_any (w : World) (x : Nam) (hx : okN x) (hnm : x.1.size ≤ 24) (hsrc : x.2.2.2 = false → nameP x.2.1.2 = true) :
    Calls Try.prog 53 #[.agg (nC x).toArray] w fun e w' => e = .returned (.string (lineS x)) ∧ Below w.heap.size w w' := by
  obtain ⟨w1, hw1⟩ : ∃ w1, w1 = w.alloc (.cells (nC x).toArray 72) := ⟨_, rfl⟩
  have hb1 : Below w.heap.size w w1 := by rw [hw1]; exact (Below.refl _ w).alloc (Nat.le_refl _) _
  have hk1 : Blk w1 w.heap.size 72 (nC x).toArray := by rw [hw1]; exact Blk.new _ _ _
  have H1 := hide (And.intro hk1 hb1)
  have HW1 := hide hw1
  clear hk1 hb1 hw1
  by_cases his : x.2.2.2 = true
  · have HIS := hide his
    have c42 := named_is hx H1.out.1
    rw [his] at c42
    have HL := hide (line_small1 (x := x) hx hnm)
    clear his
    go_enter Try.func53, Try.ntmps53
    go_wp2_with ((with_reducible refine at_slot 1 ?_); refine wpList_value (o := ⟨some 1, _, _, _, _, _⟩) rfl (.pointer (some ⟨w.heap.size, 0, none⟩)) w1 (by rw [HW1.out]; kernel_rfl) ?_)
    refine Fre.wp_made (X := Bel) 9 [] (by kernel_rfl) (by kernel_rfl) (by simp) (by simp) (by simp) ?_
    simp only [List.take_succ_cons, List.take_zero, List.drop_succ_cons, List.drop_zero]
    refine Fre.made_val (.pointer (some ⟨w.heap.size, 0, none⟩)) (by kernel_rfl) (by kernel_rfl) (by kernel_rfl) (fun _ _ => by kernel_rfl) ?_
    simp only [Act.put, List.setIfInBounds_toArray, List.set_cons_zero, List.set_cons_succ]
    refine Fre.made_val (.string x.1) (by kernel_rfl) (by kernel_rfl) (by kernel_rfl) (fun W9 hW9 => exec_load_cell (o := ⟨some 9, _, _, _, _, _⟩) 9 (.tmp 8) rfl ⟨w.heap.size, 0, none⟩ rfl _ _ W9 Try.underlying9 rfl (named_name (H1.out.1.below hW9 H1.out.1.lt))) ?_
    simp only [Act.put, List.setIfInBounds_toArray, List.set_cons_zero, List.set_cons_succ]
    refine Fre.made_val (.string (⟨#[99, 108, 97, 115, 115, 32]⟩ ++ x.1)) (by kernel_rfl) (by kernel_rfl) (by kernel_rfl) (fun W9 hW9 => exec_concat (o := ⟨some 10, _, _, _, _, _⟩) 9 (.const (.string ⟨#[99, 108, 97, 115, 115, 32]⟩)) (.tmp 9) 9 rfl (⟨#[99, 108, 97, 115, 115, 32]⟩) (x.1) rfl rfl HL.out.1 W9) ?_
    simp only [Act.put, List.setIfInBounds_toArray, List.set_cons_zero, List.set_cons_succ]
    refine Fre.made_val (.string ((⟨#[99, 108, 97, 115, 115, 32]⟩ ++ x.1) ++ ⟨#[32]⟩)) (by kernel_rfl) (by kernel_rfl) (by kernel_rfl) (fun W9 hW9 => exec_concat (o := ⟨some 11, _, _, _, _, _⟩) 9 (.tmp 10) (.const (.string ⟨#[32]⟩)) 9 rfl ((⟨#[99, 108, 97, 115, 115, 32]⟩ ++ x.1)) (⟨#[32]⟩) rfl rfl HL.out.2.1 W9) ?_
    simp only [Act.put, List.setIfInBounds_toArray, List.set_cons_zero, List.set_cons_succ]
    refine Fre.made_val (.pointer (some ⟨w.heap.size, 1, none⟩)) (by kernel_rfl) (by kernel_rfl) (by kernel_rfl) (fun _ _ => by kernel_rfl) ?_
    simp only [Act.put, List.setIfInBounds_toArray, List.set_cons_zero, List.set_cons_succ]
    refine Fre.made_val (.pointer (some ⟨w.heap.size, 22, none⟩)) (by kernel_rfl) (by kernel_rfl) (by kernel_rfl) (fun _ _ => by kernel_rfl) ?_
    simp only [Act.put, List.setIfInBounds_toArray, List.set_cons_zero, List.set_cons_succ]
    refine Fre.made_val (.agg (bv x.2.2.1).toArray) (by kernel_rfl) (by kernel_rfl) (by kernel_rfl) (fun W9 hW9 => exec_load_mid (o := ⟨some 14, _, _, _, _, _⟩) 27 (.tmp 13) rfl w.heap.size (22) rfl (bv x.2.2.1) _ W9 (named_cls hx (H1.out.1.below hW9 H1.out.1.lt)) Try.underlying27 rfl (by have := hszD hx.2.2; simpa using this)) ?_
    simp only [Act.put, List.setIfInBounds_toArray, List.set_cons_zero, List.set_cons_succ]
    refine Fre.made_call (.string ⟨(lettersP x.2.2.1).toArray⟩) 64 #[.agg (bv x.2.2.1).toArray] (by kernel_rfl) (by kernel_rfl) (by kernel_rfl) (fun W9 => by kernel_rfl) (fun W9 hW9 => (letters_any W9 x.2.2.1 hx.2.2)) ?_
    simp only [Act.put, List.setIfInBounds_toArray, List.set_cons_zero, List.set_cons_succ]
    refine Fre.made_val (.string ((⟨#[99, 108, 97, 115, 115, 32]⟩ ++ x.1 ++ ⟨#[32]⟩) ++ ⟨(lettersP x.2.2.1).toArray⟩)) (by kernel_rfl) (by kernel_rfl) (by kernel_rfl) (fun W9 hW9 => exec_concat (o := ⟨some 16, _, _, _, _, _⟩) 9 (.tmp 11) (.tmp 15) 9 rfl ((⟨#[99, 108, 97, 115, 115, 32]⟩ ++ x.1 ++ ⟨#[32]⟩)) (⟨(lettersP x.2.2.1).toArray⟩) rfl rfl HL.out.2.2 W9) ?_
    simp only [Act.put, List.setIfInBounds_toArray, List.set_cons_zero, List.set_cons_succ]
    intro w4 hx4
    have H4 := hide (H1.out.2.trans (Below.mono hx4 H1.out.2.size))
    clear hx4
    dsimp only [Fre.ended, List.drop]
    go_wp2_with fail
    go_ret
    exact ⟨by rw [lineS, if_pos HIS.out]; rfl, H4.out⟩
  · have his' : x.2.2.2 = false := by simpa using his
    have HIS := hide his
    have c42 := named_is hx H1.out.1
    rw [his'] at c42
    have hszp : (Try.prog.info? 68).map (·.size) = some (pC x.2.1).length := by have := psz hx.2.1; simpa using this
    have hpn := hsrc his'
    have c0 := named_name H1.out.1
    have HL := hide (line_small2 (x := x) hx hnm (name_small hpn))
    have HPN := hide hpn
    clear his his' hsrc hpn
    go_enter Try.func53, Try.ntmps53
    go_wp2_with (first | ((with_reducible refine at_slot 1 ?_); (refine wpList_value (o := ⟨some 1, _, _, _, _, _⟩) rfl (.pointer (some ⟨w.heap.size, 0, none⟩)) w1 (by rw [HW1.out]; kernel_rfl) ?_)) | ((with_reducible refine at_slot 20 ?_); (refine wpList_value (o := ⟨some 20, _, _, _, _, _⟩) rfl (.agg (pC x.2.1).toArray) w1 (exec_load_mid (o := ⟨some 20, _, _, _, _, _⟩) 68 (.tmp 19) rfl w.heap.size (1) rfl (pC x.2.1) _ w1 (named_src H1.out.1) Try.underlying68 rfl hszp) ?_)))
    refine (path_any w1 x.2.1 hx.2.1).mono ?_
    rintro e w2 ⟨rfl, hb⟩
    rw [if_pos HPN.out]
    dsimp only
    have c0' := named_name (H1.out.1.below hb H1.out.1.lt)
    have H2 := hide (H1.out.2.trans (Below.mono hb H1.out.2.size))
    have hs1 := HL.out.1
    have hs2 := HL.out.2.1
    have hs3 := HL.out.2.2
    clear hb c0 c42
    go_wp2_with (first | ((with_reducible refine at_slot 26 ?_); (refine wpList_value (o := ⟨some 26, _, _, _, _, _⟩) rfl (.string (⟨#[115, 114, 99, 32]⟩ ++ x.1)) w2 (exec_concat (o := ⟨some 26, _, _, _, _, _⟩) _ _ _ _ rfl ⟨#[115, 114, 99, 32]⟩ x.1 rfl rfl hs1 w2) ?_)) | ((with_reducible refine at_slot 27 ?_); (refine wpList_value (o := ⟨some 27, _, _, _, _, _⟩) rfl (.string (⟨#[115, 114, 99, 32]⟩ ++ x.1 ++ ⟨#[32]⟩)) w2 (exec_concat (o := ⟨some 27, _, _, _, _, _⟩) _ _ _ _ rfl (⟨#[115, 114, 99, 32]⟩ ++ x.1) ⟨#[32]⟩ rfl rfl hs2 w2) ?_)) | ((with_reducible refine at_slot 29 ?_); (refine wpList_value (o := ⟨some 29, _, _, _, _, _⟩) rfl (.string (⟨#[115, 114, 99, 32]⟩ ++ x.1 ++ ⟨#[32]⟩ ++ pathS x.2.1)) w2 (exec_concat (o := ⟨some 29, _, _, _, _, _⟩) _ _ _ _ rfl (⟨#[115, 114, 99, 32]⟩ ++ x.1 ++ ⟨#[32]⟩) (pathS x.2.1) rfl rfl hs3 w2) ?_)))
    go_ret
    exact ⟨by rw [lineS, if_neg HIS.out]; rfl, H2.out⟩
end Go.Proofs.Ytidiepbmbbflhaa
