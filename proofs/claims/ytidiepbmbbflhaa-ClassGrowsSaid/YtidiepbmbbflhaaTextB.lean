/- text.shown. -/
import Derived.Test.YtidiepbmbbflhaaAt
import Derived.Test.YtidiepbmbbflhaaTextA
import Derived.OwnWalk
namespace Go.Proofs.Ytidiepbmbbflhaa
open Go Go.RowKit Go.Maps
set_option maxRecDepth 100000
def digitsL : List UInt8 := [48, 49, 50, 51, 52, 53, 54, 55, 56, 57, 97, 98, 99, 100, 101, 102]
def digitAt (k : Int) : UInt8 := digitsL.getD k.toNat 0
def digitS : ByteArray := ⟨#[48, 49, 50, 51, 52, 53, 54, 55, 56, 57, 97, 98, 99, 100, 101, 102]⟩
theorem digit_run (k : Int) (h0 : 0 ≤ k) (h1 : k < 16) (t : TypeId) (ht : Try.prog.underlying t = some .string) (w : World) : (Instr.index t (.string digitS) (.int .u8 k)).run Try.prog w = .ok (.int .u8 ((digitAt k).toNat : Int)) w := by
  obtain ⟨n, rfl⟩ := Int.eq_ofNat_of_zero_le h0
  have h := run_index_string (P := Try.prog) w t digitS .u8 (n : Int) ht
  have h3 : ∀ k : Fin 16, (digitS[k.val]'(k.isLt)).toNat = (digitAt (k.val : Int)).toNat := by decide
  have h2 : 0 ≤ (n : Int) ∧ (n : Int) < (digitS.size : Int) := ⟨by omega, by rw [show digitS.size = 16 from rfl]; omega⟩
  rw [h, dif_pos h2]
  have h4 := h3 ⟨n, by omega⟩
  dsimp only at h4
  have h5 : (digitS[(n : Int).toNat]'(by rw [Int.toNat_natCast]; exact (show n < 16 by omega))).toNat = (digitAt (n : Int)).toNat := h4
  rw [h5]
theorem exec_index_s {P : Program} {ρ : Operand → Value} {o : Oper} (t : TypeId) (x y : Operand) (ho : o.op = .index t x y) (s : ByteArray) (k : IntKind) (i : Int) (hx : ρ x = .string s) (hy : ρ y = .int k i) (v : Value) (hv : ∀ W, (Instr.index t (.string s) (.int k i)).run P W = .ok v W) (W : World) : (execOp ρ o).run P W = .ok (.value v) W := by
  unfold execOp
  simp only [ho, hx, hy, Sem.run_bind, hv W, Result.andThen_ok, Sem.run_pure]
theorem u8_low (c : Int) (h0 : 0 ≤ c) (h1 : c ≤ 255) : bits .and .u8 c 15 = c % 16 := bits_mask .u8 8 (by decide) wraps_u8 4 (by decide) c h0 (by omega)
theorem box_srcN {w : World} {g n m : Nat} {t : TypeId} {cs : List Value} (hb : Blk w g t cs.toArray) (hl : cs.length = m * n) (h1 : ∀ u ∈ cs, u.oneCell' = true) : SrcN w n (some ⟨g, 0, none⟩) m m cs :=
  ⟨hl, (fun h => by cases h), h1, fun ad had j u hu => by
    injection had with had
    subst had
    rw [Addr.add_mid, Nat.zero_add, hb.cell]
    simpa using hu⟩
/-- a row of two cells that was made -/
def RowV (xs : List Value) (u : Value) (w : World) : Prop := ∃ r, u = .slice (some ⟨r, 0, none⟩) 2 2 ∧ SrcN w 1 (some ⟨r, 0, none⟩) 2 2 xs
theorem rowV_new (W : World) (a b : Int) : RowV [.int .u8 a, .int .u8 b] (.slice (some ⟨W.heap.size, 0, none⟩) 2 2) (W.alloc (.cells #[.int .u8 a, .int .u8 b] 5)) :=
  ⟨_, rfl, box_srcN (n := 1) (m := 2) (Blk.new _ _ _) rfl (fun v hv => by simp only [List.mem_cons, List.not_mem_nil, or_false] at hv; rcases hv with rfl | rfl <;> rfl)⟩
theorem rowV_ok (xs : List Value) : Fre.MadeOk Bel (RowV xs) := ⟨fun u w w' ⟨r, h1, h2⟩ hx => ⟨r, h1, h2.below hx⟩⟩
def shownB (b : List Int) : List UInt8 := b.flatMap fun c => [digitAt (c / 16), digitAt (c % 16)]
/-- bytes as digits -/
def shownP (b : List Int) : List UInt8 := if b = [] then [45] else shownB b
theorem shownB_len (b : List Int) : (shownB b).length = 2 * b.length := by
  induction b with
  | nil => rfl
  | cons c b ih => rw [shownB, List.flatMap_cons, List.length_append, show (b.flatMap fun c => [digitAt (c / 16), digitAt (c % 16)]) = shownB b from rfl, ih]; simp; omega
theorem shown_step (b : List Int) (j : Nat) (c : Int) (h : b[j]? = some c) : bv (shownB (b.take (j + 1))) = bv (shownB (b.take j)) ++ [.int .u8 ((digitAt (c / 16)).toNat : Int), .int .u8 ((digitAt (c % 16)).toNat : Int)] := by
  rw [List.take_add_one, h, shownB, List.flatMap_append]
  simp [bv, shownB]
theorem own_cellN {w : World} {base g n cap s : Nat} {e : TypeId} {xs : List Value} (h : w.ownsRow base e s (.slice (some ⟨g, 0, none⟩) n cap) n xs) (j : Nat) (v : Value) (hv : xs[j]? = some v) : w.cell? ⟨g, j, none⟩ = some v := by
  obtain ⟨_, h | ⟨g', cap', cur, e1, _, hb, _, _, _, ht⟩⟩ := h
  · cases h.1
  · injection e1 with e1 _ _
    injection e1 with e1
    injection e1 with e1
    subst e1
    have hb' : Blk w g e cur := hb
    rw [hb'.cell]
    rw [← ht, List.getElem?_take] at hv
    split at hv
    · simpa using hv
    · cases hv
theorem exec_convert {P : Program} {ρ : Operand → Value} {o : Oper} (src dst : TypeId) (x : Operand) (ho : o.op = .convert src dst x) (v : Value) (hx : ρ x = v) (u : Value) {W : World} (hr : (convert src dst v).run P W = .ok u W) : (execOp ρ o).run P W = .ok (.value u) W := by
  unfold execOp
  simp only [ho, hx, Sem.run_bind, hr, Result.andThen_ok, Sem.run_pure]
set_option maxHeartbeats 4000000 in
theorem shown_any (w : World) (b : List Int) (v : Value) (h : bytesLay.At w w.heap.size [v] b) (hl : b.length ≤ 1000000) :
    Calls Try.prog 55 #[v] w fun e w' => e = .returned (.string ⟨(shownP b).toArray⟩) ∧ Below w.heap.size w w' := by
  obtain ⟨iu8, hih, hq0, hq1, hq2⟩ := info_parts info_byte
  have HK := hide (And.intro hih (And.intro hq0 (And.intro hq1 hq2)))
  clear hih hq0 hq1 hq2
  obtain ⟨A, cap, rfl, hcl, hcm, _, hA⟩ := slice_open h
  have HA := hide hA
  clear hA h hcm hcl
  by_cases hb0 : b = []
  · subst hb0
    go_enter Try.func55, Try.ntmps55
    go_wp2_with fail
    go_ret
    exact ⟨rfl, Below.refl _ _⟩
  · have hpos : 0 < b.length := List.length_pos_iff.2 hb0
    have e1 : ((b.length : Int) == 0) = false := by simpa using hb0
    go_enter Try.func55, Try.ntmps55
    go_wp2_with (at_make; refine wpList_make_own _ rfl _ _ 32 rfl w.heap.size 5 iu8 _ 1 Try.underlying32 HK.out.1 HK.out.2.1 HK.out.2.2.1 _ _ _ (2 * b.length) rfl rfl ?hC ?hB ?hM ?hZ ?_)
    case hC => omega
    case hB => have := HK.out.2.2.2; rw [this]; omega
    case hM => simp only [maxLen]; omega
    case hZ => exact Nat.le_refl _
    intro w2 own2 gr2
    have H2 := hide (And.intro own2 ((Below.refl _ w).grown gr2 (Nat.le_refl _) (fun k hk => by cases hk)))
    clear own2 gr2
    go_wp2_with fail
    go_loopw [3, 15] (fun x3 x15 wr => ∃ (j : Nat) (u : Value), j ≤ b.length ∧ u = x3 ∧ x15 = .int .i64 (j : Int) ∧ wr.ownsRow w.heap.size 5 1 u (2 * j) (bv (shownB (b.take j))) ∧ Below w.heap.size w wr) (fun _ x15 _ => b.length - (intOf x15).toNat)
    case atStart => exact ⟨0, _, by omega, rfl, rfl, H2.out.1, H2.out.2⟩
    case round =>
      obtain ⟨wo, rfl⟩ : ∃ wo, wo = wr := ⟨_, rfl⟩
      obtain ⟨j, x3, hj, rfl, rfl, hown, hbw⟩ := hrel
      have HI := hide (And.intro hown hbw)
      clear hown hbw
      have j0 : (0 : Int) ≤ (j : Int) := by omega
      by_cases hj2 : j < b.length
      · have j1 : (j : Int) < (b.length : Int) := by omega
        obtain ⟨c, hx⟩ : ∃ c, b[j]? = some c := ⟨_, List.getElem?_eq_getElem hj2⟩
        obtain ⟨bb, off, rfl, hlb, hE⟩ := HA.out (by omega)
        obtain ⟨cs, hr, hcs, hcw⟩ := hE j c hx
        subst hcs
        have hcb := bounds_u8 hcw
        have c0 : 0 ≤ c := hcb.1
        have c1 : c ≤ 255 := by omega
        have hc9 : wo.cell? ⟨bb, off + j, none⟩ = some (.int .u8 c) := by have h9 := rangeAt_same hr (HI.out.2.block bb (by omega)) 0 _ rfl; rwa [show off + j * (Lay.int 5 IntKind.u8).n + 0 = off + j by show off + j * 1 + 0 = off + j; omega] at h9
        have HXX := hide hx
        have HC9 := hide hc9
        clear hx hE hr hcw hc9
        go_wp2_with (first | ((with_reducible refine at_slot 17 ?_); refine wpList_value (o := ⟨some 17, _, _, _, _, _⟩) rfl (.pointer (some ⟨bb, off + (j : Int).toNat * 1, none⟩)) wo (exec_index_off (o := ⟨some 17, _, _, _, _, _⟩) 32 5 (.tmp 13) (.tmp 15) rfl bb off b.length cap (j : Int) .i64 rfl rfl ⟨j0, j1⟩ 1 Try.underlying32 (by kernel_rfl) wo) ?_; rw [show off + (j : Int).toNat * 1 = off + j by omega]) | ((with_reducible refine at_slot 18 ?_); refine wpList_value (o := ⟨some 18, _, _, _, _, _⟩) rfl (.int .u8 c) wo (exec_load_cell (o := ⟨some 18, _, _, _, _, _⟩) 5 (.tmp 17) rfl ⟨bb, off + j, none⟩ rfl _ _ wo Try.underlying5 rfl HC9.out) ?_))
        refine Fre.wp_made (X := Bel) 8 [(26, RowV [.int .u8 ((digitAt (c / 16)).toNat : Int), .int .u8 ((digitAt (c % 16)).toNat : Int)])] (by kernel_rfl) (by kernel_rfl) (by intro p hp; rw [List.mem_singleton.1 hp]; exact rowV_ok _) (by simp) (by simp) ?_
        simp only [List.take_succ_cons, List.take_zero, List.drop_succ_cons, List.drop_zero]
        refine Fre.made_val (x3) (by kernel_rfl) (by kernel_rfl) (by kernel_rfl) (fun _ _ => by kernel_rfl) ?_
        simp only [Act.put, List.setIfInBounds_toArray, List.set_cons_zero, List.set_cons_succ]
        refine Fre.made_val (.int .u8 c) (by kernel_rfl) (by kernel_rfl) (by kernel_rfl) (fun _ _ => by kernel_rfl) ?_
        simp only [Act.put, List.setIfInBounds_toArray, List.set_cons_zero, List.set_cons_succ]
        refine Fre.made_val (.int .u8 (c / 16)) (by kernel_rfl) (by kernel_rfl) (by kernel_rfl) (fun W9 hW9 => ?hs1) ?_
        case hs1 =>
          go_simp
          done
        simp only [Act.put, List.setIfInBounds_toArray, List.set_cons_zero, List.set_cons_succ]
        refine Fre.made_val (.int .u8 ((digitAt (c / 16)).toNat : Int)) (by kernel_rfl) (by kernel_rfl) (by kernel_rfl) (fun W9 hW9 => exec_index_s (o := ⟨some 22, _, _, _, _, _⟩) 9 (.const (.string ⟨#[48, 49, 50, 51, 52, 53, 54, 55, 56, 57, 97, 98, 99, 100, 101, 102]⟩)) (.tmp 21) rfl digitS .u8 (c / 16) rfl rfl _ (fun W => digit_run (c / 16) (by omega) (by omega) 9 Try.underlying9 W) W9) ?_
        simp only [Act.put, List.setIfInBounds_toArray, List.set_cons_zero, List.set_cons_succ]
        refine Fre.made_val (.int .u8 c) (by kernel_rfl) (by kernel_rfl) (by kernel_rfl) (fun _ _ => by kernel_rfl) ?_
        simp only [Act.put, List.setIfInBounds_toArray, List.set_cons_zero, List.set_cons_succ]
        refine Fre.made_val (.int .u8 (c % 16)) (by kernel_rfl) (by kernel_rfl) (by kernel_rfl) (fun W9 hW9 => ?hs2) ?_
        case hs2 =>
          go_simp
          exact u8_low c c0 c1
        simp only [Act.put, List.setIfInBounds_toArray, List.set_cons_zero, List.set_cons_succ]
        refine Fre.made_val (.int .u8 ((digitAt (c % 16)).toNat : Int)) (by kernel_rfl) (by kernel_rfl) (by kernel_rfl) (fun W9 hW9 => exec_index_s (o := ⟨some 25, _, _, _, _, _⟩) 9 (.const (.string ⟨#[48, 49, 50, 51, 52, 53, 54, 55, 56, 57, 97, 98, 99, 100, 101, 102]⟩)) (.tmp 24) rfl digitS .u8 (c % 16) rfl rfl _ (fun W => digit_run (c % 16) (by omega) (by omega) 9 Try.underlying9 W) W9) ?_
        simp only [Act.put, List.setIfInBounds_toArray, List.set_cons_zero, List.set_cons_succ]
        refine Fre.made_new 26 _ (by kernel_rfl) (by kernel_rfl) rfl rfl (fun W hW => ⟨.slice (some ⟨W.heap.size, 0, none⟩) 2 2, W.alloc (.cells #[.int .u8 ((digitAt (c / 16)).toNat : Int), .int .u8 ((digitAt (c % 16)).toNat : Int)] 5), by kernel_rfl, (Below.refl _ W).alloc (Nat.le_refl _) _, rowV_new W _ _⟩) ?_
        simp only [Act.put, List.setIfInBounds_toArray, List.set_cons_zero, List.set_cons_succ]
        intro w4 hx4
        dsimp only [Fre.ended, List.drop]
        rintro u26 ⟨r, rfl, hsr⟩
        have HO4 := hide (And.intro (owned_keepN HI.out.1 fun g _ hl => hx4.block g hl) (And.intro hsr (HI.out.2.trans (Below.mono hx4 HI.out.2.size))))
        clear hsr hx4
        go_wp2_with (at_builtin; ((with_reducible refine at_slot 27 ?_); refine wpList_appS (o := ⟨some 27, _, _, _, _, _⟩) rfl _ _ 32 rfl w.heap.size 5 iu8 _ 1 1 Try.underlying32 HK.out.1 HK.out.2.1 HK.out.2.2.1 HK.out.2.2.2 rfl (by decide) _ (2 * j) (bv (shownB (b.take j))) HO4.out.1 (some ⟨r, 0, none⟩) 2 2 [.int .u8 ((digitAt (c / 16)).toNat : Int), .int .u8 ((digitAt (c % 16)).toNat : Int)] HO4.out.2.1 ?hm1 ?hb1 ?hz1 rfl rfl ?_))
        case hm1 => simp only [maxLen]; omega
        case hb1 => omega
        case hz1 => exact HO4.out.2.2.size
        intro u5 w5 own5 gr5 _
        have hsn : bv (shownB (b.take (j + 1))) = bv (shownB (b.take j)) ++ [.int .u8 ((digitAt (c / 16)).toNat : Int), .int .u8 ((digitAt (c % 16)).toNat : Int)] := shown_step b j c HXX.out
        rw [← hsn] at own5
        have HO5 := hide (And.intro own5 (HO4.out.2.2.grown gr5 HO4.out.2.2.size (fun k hk => (owned_ltN HO4.out.1 hk).1)))
        clear own5 gr5 hsn
        go_wp2_with fail
        go_roundw
        case rel => exact ⟨j + 1, u5, by omega, rfl, by go_num, HO5.out.1, HO5.out.2⟩
        case measure => simp [intOf]; omega
      · obtain rfl : j = b.length := by omega
        have hown := HI.out.1
        rw [List.take_length] at hown
        obtain ⟨g, cap3, rfl⟩ := owned_placeN hown (by omega)
        have hlen := shownB_len b
        have hcv := run_convert_bytes_back (P := Try.prog) wo 32 9 5 ⟨g, 0, none⟩ cap3 (shownB b) Try.underlying32 Try.underlying5 Try.underlying9 (by
          intro k hk
          have h9 : wo.cell? ⟨g, k, none⟩ = some (.int .u8 ((shownB b)[k].toNat : Int)) := own_cellN hown k (.int .u8 ((shownB b)[k].toNat : Int)) (by rw [bv, List.getElem?_map, List.getElem?_eq_getElem hk]; rfl)
          rw [Addr.add_mid, Nat.zero_add]
          exact h9)
        rw [hlen] at hcv
        have HE := hide (And.intro HI.out.2 hcv)
        clear hown hlen hcv
        go_wp2_with ((with_reducible refine at_slot 30 ?_); refine wpList_value (o := ⟨some 30, _, _, _, _, _⟩) rfl (.string ⟨(shownB b).toArray⟩) wo (exec_convert (o := ⟨some 30, _, _, _, _, _⟩) 32 9 (.tmp 29) rfl _ rfl _ HE.out.2) ?_)
        go_ret
        exact ⟨by rw [shownP, if_neg hb0]; rfl, HE.out.1⟩
end Go.Proofs.Ytidiepbmbbflhaa
