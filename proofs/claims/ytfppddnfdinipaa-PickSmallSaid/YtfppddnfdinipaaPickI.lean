/- package pick: put and take. -/
import Derived.Test.YtfppddnfdinipaaPickH
import Derived.Test.YtfppddnfdinipaaFreAll
namespace Go.Proofs.Ytfppddnfdinipaa
open Go Go.RowKit Go.Maps
set_option maxRecDepth 100000
/-- a box is laid and filled -/
theorem wpList_box {P : Program} {ops : Array Oper} {rest : List Oper} {o1 o2 : Oper} {a : Act} {w : World} {Q : Exit → Act → World → Prop} (hg1 : o1.guard = none) (hg2 : o2.guard = none) (ty : TypeId) (x y : Operand) (ho2 : o2.op = .store ty x y) (zc cells : Array Value)
    (hr : (execOp a.eval o1).run P w = .ok (.value (.pointer (some ⟨w.heap.size, 0, none⟩))) (w.alloc (.cells zc ty)))
    (hi : (P.info? ty).map (·.size) = some cells.size) (hz : zc.size = cells.size) (h1 : cells.all (·.oneCell') = true)
    (hx : (a.put o1.dst (.pointer (some ⟨w.heap.size, 0, none⟩))).eval x = .pointer (some ⟨w.heap.size, 0, none⟩)) (hy : (a.put o1.dst (.pointer (some ⟨w.heap.size, 0, none⟩))).eval y = .agg cells)
    (h : ∀ w', Blk w' w.heap.size ty cells → Below w.heap.size w w' → wpList P ops Q rest ((a.put o1.dst (.pointer (some ⟨w.heap.size, 0, none⟩))).put o2.dst undef) w') : wpList P ops Q (o1 :: o2 :: rest) a w := by
  refine wpList_value hg1 _ _ hr ?_
  refine wpList_store_blkA hg2 ty x y ho2 w.heap.size zc cells ty (Blk.new _ _ _) hi hz h1 hx hy ?_
  intro w' hb hg
  refine h w' hb (((Below.refl _ w).alloc (Nat.le_refl _) _).grown hg (by rw [size_alloc]; omega) ?_)
  intro k hk
  injection hk with hk
  omega
theorem rangeAt_same {w w' : World} {b o : Nat} {cs : List Value} (h : w.rangeAt b o cs) (he : w'.heap[b]? = w.heap[b]?) : w'.rangeAt b o cs := by
  intro j v hv
  have := h j v hv
  unfold World.cell? at this ⊢
  dsimp only at this ⊢
  rw [he]
  exact this
def zcP : Array Value := (bv (List.replicate 20 0) ++ [Value.string ByteArray.empty]).toArray
def zcH : Array Value := (bv (List.replicate 20 0)).toArray
/-- a row of paths in memory, outside of F -/
def PthsAt (w : World) (F : Nat → Prop) (v : Value) (ps : List Pth) : Prop := ∃ A cap, v = .slice A ps.length cap ∧ (0 < ps.length → ∃ b off, A = some ⟨b, off, none⟩ ∧ b < w.heap.size ∧ ¬ F b ∧ ∀ (j : Nat) p, ps[j]? = some p → w.rangeAt b (off + j * 21) (pC p) ∧ okP p)
def pcnt (ps : List Pth) (q : Pth) : Nat := ps.countP fun x => decide (x = q)
def cntK (is : Bool) (cnt : Pth → Nat) (ps : List Pth) (k : Nat) : Pth → Nat := fun q => if is then cnt q + pcnt (ps.take k) q else cnt q - pcnt (ps.take k) q
theorem count_next {ps : List Pth} {k : Nat} {p : Pth} (h : ps[k]? = some p) (q : Pth) : pcnt (ps.take (k + 1)) q = pcnt (ps.take k) q + if q = p then 1 else 0 := by
  unfold pcnt
  rw [List.take_add_one, h, List.countP_append]
  congr 1
  by_cases e : q = p
  · subst e; simp
  · rw [if_neg e]
    simp [Ne.symm e]
theorem pcnt_take (ps : List Pth) (k : Nat) (q : Pth) : pcnt (ps.take k) q ≤ pcnt ps q := List.Sublist.countP_le (List.take_sublist _ _)
theorem pcnt_len (ps : List Pth) (q : Pth) : pcnt ps q ≤ ps.length := List.countP_le_length
theorem cntK_zero (is : Bool) (cnt : Pth → Nat) (ps : List Pth) : cntK is cnt ps 0 = cnt := by
  funext q
  unfold cntK pcnt
  simp
theorem cntK_put {cnt : Pth → Nat} {ps : List Pth} {k : Nat} {p : Pth} (h : ps[k]? = some p) : cntK true cnt ps (k + 1) = upd (cntK true cnt ps k) p (cntK true cnt ps k p + 1) := by
  funext q
  unfold cntK upd
  simp only [if_true]
  rw [count_next h]
  by_cases e : q = p
  · subst e; simp; omega
  · simp [e]
theorem cntK_take {cnt : Pth → Nat} {ps : List Pth} {k : Nat} {p : Pth} (h : ps[k]? = some p) (hc : ∀ q, pcnt ps q ≤ cnt q) : cntK false cnt ps (k + 1) = upd (cntK false cnt ps k) p (cntK false cnt ps k p - 1) ∧ 0 < cntK false cnt ps k p := by
  have h1 : ∀ q, pcnt (ps.take (k + 1)) q ≤ cnt q := fun q => Nat.le_trans (pcnt_take _ _ _) (hc q)
  refine ⟨?_, ?_⟩
  · funext q
    unfold cntK upd
    simp only [Bool.false_eq_true, if_false]
    rw [count_next h]
    by_cases e : q = p
    · subst e; simp; omega
    · simp [e]
  · unfold cntK
    simp only [Bool.false_eq_true, if_false]
    have := h1 p
    rw [count_next h, if_pos rfl] at this
    omega
/-- what a search keeps while what is there turns -/
def Keeps (S S' : Sst) : Prop := S'.cm = S.cm ∧ S'.cv = S.cv ∧ S'.steps = S.steps ∧ S'.fuel = S.fuel
theorem Keeps.refl (S : Sst) : Keeps S S := ⟨rfl, rfl, rfl, rfl⟩
theorem Keeps.trans {S S' S'' : Sst} (h : Keeps S S') (k : Keeps S' S'') : Keeps S S'' := ⟨k.1.trans h.1, k.2.1.trans h.2.1, k.2.2.1.trans h.2.2.1, k.2.2.2.trans h.2.2.2⟩
theorem TurnQ.keeps {own : Hsh} {S S' : Sst} {h : Hsh} {p : Pth} {is : Bool} (hq : TurnQ own S S' h p is) : Keeps S S' := ⟨hq.cm, hq.cv, hq.steps, hq.fuel⟩
theorem Keeps.row {S S' : Sst} (h : Keeps S S') (p : Pth) : cvL S' p = cvL S p ∧ clsL S' p = clsL S p := by
  unfold cvL clsL
  rw [h.1, h.2.1]
  exact ⟨rfl, rfl⟩
theorem srch25 {w : World} {s cb tb hb : Nat} {c : Cvs} {S : Sst} (ho : okH c.own) (h : Blk w s 104 (srchCells c cb tb hb S).toArray) : w.cell? ⟨s, 25, none⟩ = some (.map (some tb)) := by
  rw [h.cell]
  have := (srch_at c cb tb hb S ho).2.2.2.2.2.2.1
  simpa using this
set_option maxHeartbeats 4000000 in
theorem put_any {B : Nat} {w : World} {s cb tb hb : Nat} {c : Cvs} {S : Sst} {U : List Hsh} {V : List Pth} {cnt : Pth → Nat} {M : Pth → List Hsh} (hU : U.length ≤ 100000 ∧ ∀ h ∈ U, okH h) (hV : V.length ≤ 100000) (ps : List Pth) (hl : ps.length ≤ 1000000) (hps : ∀ p ∈ ps, p ∈ V) (hc : ∀ q, cnt q + ps.length ≤ 1000000) (v : Value) (hv : PthsAt w (S.foot s cb tb hb) v ps) (hS : SAt B w s cb tb hb c S) (hI : InvP c.own U V S cnt M (there cnt M)) :
    Calls Try.prog 93 #[.pointer (some ⟨s, 0, none⟩), v] w fun e w' => e = .returned (.tuple #[]) ∧ ∃ S', SLeft B w s cb tb hb c S S' w' ∧ InvP c.own U V S' (cntK true cnt ps ps.length) M (there (cntK true cnt ps ps.length) M) ∧ Keeps S S' := by
  obtain ⟨A, cap, rfl, hA⟩ := hv
  have H0 := hide (And.intro hS (And.intro hI hA))
  clear hS hI hA
  go_enter Try.func93, Try.ntmps93
  go_wp2_with fail
  go_loopw [10] (fun x wr => ∃ k S1, k ≤ ps.length ∧ x = .int .i64 ((k : Nat) : Int) ∧ SLeft B w s cb tb hb c S S1 wr ∧ InvP c.own U V S1 (cntK true cnt ps k) M (there (cntK true cnt ps k) M) ∧ Keeps S S1) (fun x _ => ps.length - (intOf x).toNat)
  case atStart => exact ⟨0, S, by omega, rfl, .refl H0.out.1, by rw [cntK_zero]; exact H0.out.2.1, .refl S⟩
  case round =>
    obtain ⟨wo, rfl⟩ : ∃ wo, wo = wr := ⟨_, rfl⟩
    obtain ⟨k, S1, hk, rfl, hl1, hI1, hk1⟩ := hrel
    have H1 := hide (And.intro hl1 (And.intro hI1 hk1))
    clear hl1 hI1 hk1
    have k0 : (0 : Int) ≤ (k : Int) := by omega
    have k9 : (ps.length : Int) ≤ 1000000 := by omega
    by_cases hk2 : k < ps.length
    · have k1 : (k : Int) < (ps.length : Int) := by omega
      obtain ⟨p, hpk⟩ : ∃ p, ps[k]? = some p := ⟨_, List.getElem?_eq_getElem hk2⟩
      have hpV := hps p (List.mem_of_getElem? hpk)
      obtain ⟨b, off, rfl, hlt, hnf, hE⟩ := H0.out.2.2 (by omega)
      obtain ⟨hr, hp⟩ := hE k p hpk
      have hrr := rangeAt_same hr (H1.out.1.2.1.block b hlt hnf)
      have HPK := hide hpk
      obtain ⟨m, hm⟩ : ∃ m : Nat, m = cntK true cnt ps k p := ⟨_, rfl⟩
      have hm9 : m ≤ 1000000 := by
        have := hc p
        rw [hm]; unfold cntK
        have h2 := pcnt_take ps k p
        have h3 := pcnt_len ps p
        simp; omega
      have htm : tmN S1 p = (m : Int) := by rw [hm]; exact H1.out.2.1.tm p
      have HM := hide (And.intro hm htm)
      obtain ⟨vv, hvv⟩ : ∃ vv : Int, vv = (m : Int) + 1 := ⟨_, rfl⟩
      have HVV := hide hvv
      have hv9 : -1 ≤ vv ∧ vv ≤ 1000001 := by omega
      clear hE hr hpk hm htm hvv
      go_wp2_with (first | (refine wpList_value (o := ⟨some 12, _, _, _, _, _⟩) rfl (.pointer (some ⟨b, off + (k : Int).toNat * 21, none⟩)) wo (exec_index_off (o := ⟨some 12, _, _, _, _, _⟩) 24 53 (.tmp 8) (.tmp 10) rfl b off ps.length cap (k : Int) .i64 rfl rfl ⟨k0, k1⟩ 21 Try.underlying24 sz_path wo) ?_; rw [show off + (k : Int).toNat * 21 = off + k * 21 by omega]) | (refine wpList_value (o := ⟨some 13, _, _, _, _, _⟩) rfl (.agg (pC p).toArray) wo (exec_load_mid (o := ⟨some 13, _, _, _, _, _⟩) 53 (.tmp 12) rfl b (off + k * 21) rfl (pC p) _ wo hrr Try.underlying53 rfl (by have := psz hp; simpa using this)) ?_; simp only [Act.put, List.setIfInBounds_toArray, List.set_cons_zero, List.set_cons_succ]) | ((with_reducible refine wpList_box (o1 := ⟨some 5, _, _, _, _, _⟩) (o2 := ⟨none, _, _, _, _, _⟩) rfl rfl 53 (.tmp 5) (.tmp 13) ?_ zcP (pC p).toArray ?_ (psz hp) ?_ ?_ ?_ ?_ ?_); rfl; kernel_rfl; (simp only [List.size_toArray, pC_len hp]; kernel_rfl); exact all_oneCell_toArray (pC_one p); rfl; rfl; intro w2 hm2 hb2; have H2 := hide (And.intro hm2 hb2); clear hm2 hb2; dsimp only [Act.put]))
      have hS2 := H1.out.1.1.below H2.out.2
      have hstb : s ≠ tb := fun e => map_not_cells hS2.tmap (by rw [← e]; exact hS2.blk)
      have hgtb : wo.heap.size ≠ tb := fun e => by have := H1.out.1.1.tmap.lt; omega
      have HX := hide (fun (W9 : World) (hx : EntX tb S1.tm p w2 W9) => (⟨(EntX.other hx hS2.blk.lt hstb).trans hS2.blk, (EntX.other hx H2.out.1.lt hgtb).trans H2.out.1⟩ : Blk W9 s 104 (srchCells c cb tb hb S1).toArray ∧ Blk W9 wo.heap.size 53 (pC p).toArray))
      have HS2 := hide hS2
      clear hS2 hstb hgtb
      have HE := hide (show cntK true cnt ps (k + 1) = upd (cntK true cnt ps k) p (m + 1) from by rw [cntK_put HPK.out, HM.out.1])
      refine Fre.wp_made (X := (EntX tb S1.tm p)) 9 [(21, EntTT tb S1.tm p (.int .i64 (m : Int))), (22, EntST tb S1.tm p)] (by kernel_rfl) (by kernel_rfl) (by simp only [List.forall_mem_cons]; exact ⟨entTT_ok, entST_ok, fun p hp => by cases hp⟩) (by simp) (by simp) ?_
      simp only [List.take_succ_cons, List.take_zero, List.drop_succ_cons, List.drop_zero]
      refine Fre.made_val (.pointer (some ⟨s, 0, none⟩)) (by kernel_rfl) (by kernel_rfl) (by kernel_rfl) (fun _ _ => by kernel_rfl) ?_
      simp only [Act.put, List.setIfInBounds_toArray, List.set_cons_zero, List.set_cons_succ]
      refine Fre.made_val (.pointer (some ⟨s, 0, none⟩)) (by kernel_rfl) (by kernel_rfl) (by kernel_rfl) (fun _ _ => by kernel_rfl) ?_
      simp only [Act.put, List.setIfInBounds_toArray, List.set_cons_zero, List.set_cons_succ]
      refine Fre.made_val (.pointer (some ⟨s, 25, none⟩)) (by kernel_rfl) (by kernel_rfl) (by kernel_rfl) (fun _ _ => by kernel_rfl) ?_
      simp only [Act.put, List.setIfInBounds_toArray, List.set_cons_zero, List.set_cons_succ]
      refine Fre.made_val (.map (some tb)) (by kernel_rfl) (by kernel_rfl) (by kernel_rfl) (fun W9 hW9 => exec_load_cell (o := ⟨some 17, _, _, _, _, _⟩) 101 (.tmp 16) rfl ⟨s, 25, none⟩ rfl _ _ W9 Try.underlying101 rfl (srch25 HS2.out.own (HX.out W9 hW9).1)) ?_
      simp only [Act.put, List.setIfInBounds_toArray, List.set_cons_zero, List.set_cons_succ]
      refine Fre.made_val (.agg (pC p).toArray) (by kernel_rfl) (by kernel_rfl) (by kernel_rfl) (fun W9 hW9 => exec_load_blk (o := ⟨some 18, _, _, _, _, _⟩) 53 (.tmp 5) rfl wo.heap.size rfl 53 _ _ W9 ((HX.out W9 hW9).2) Try.underlying53 rfl (psz hp)) ?_
      simp only [Act.put, List.setIfInBounds_toArray, List.set_cons_zero, List.set_cons_succ]
      refine Fre.made_val (.int .i64 (m : Int)) (by kernel_rfl) (by kernel_rfl) (by kernel_rfl) (fun W9 hW9 => exec_lookup (o := ⟨some 19, _, _, _, _, _⟩) 101 (.tmp 17) (.tmp 18) false rfl (.map (some tb)) (.agg (pC p).toArray) _ rfl rfl (by have hx9 : EntX tb S1.tm p w2 W9 := hW9; have := look_x HS2.out hp hx9; rw [HM.out.2] at this; exact this)) ?_
      simp only [Act.put, List.setIfInBounds_toArray, List.set_cons_zero, List.set_cons_succ]
      refine Fre.made_val (.int .i64 vv) (by kernel_rfl) (by kernel_rfl) (by kernel_rfl) (fun W9 hW9 => ?hs1) ?_
      case hs1 =>
        go_simp
        rw [HVV.out]
        exact wrapI9 _ (by omega)
      simp only [Act.put, List.setIfInBounds_toArray, List.set_cons_zero, List.set_cons_succ]
      refine Fre.made_new 21 _ (by kernel_rfl) (by kernel_rfl) rfl rfl (fun W9 hW9 => ?hent) ?_
      case hent =>
        have hx9 : EntX tb S1.tm p w2 W9 := hW9
        obtain ⟨w', st, r1, r2, r3, r4⟩ := ent_stepT HS2.out hp hx9
        rw [HM.out.2] at r1
        exact ⟨_, w', exec_mapEntry (o := ⟨some 21, _, _, _, _, _⟩) 101 (.tmp 17) (.tmp 18) rfl _ _ _ rfl rfl r1, r4, st, rfl, r2, r3⟩
      simp only [Act.put, List.setIfInBounds_toArray, List.set_cons_zero, List.set_cons_succ]
      refine Fre.made_new1 21 _ 22 _ (by kernel_rfl) rfl (by kernel_rfl) rfl rfl (fun u W9 hW9 hu => by obtain ⟨st, rfl, h1, h2⟩ := hu; exact ⟨.int .i64 (st : Nat), W9, by kernel_rfl, Fre.Ext.refl W9, st, rfl, h1, h2⟩) ?_
      simp only [Act.put, List.setIfInBounds_toArray, List.set_cons_zero, List.set_cons_succ]
      show ∀ w', _ → _
      intro w3 hx3
      simp only [Fre.ended]
      have hx3 : EntX tb S1.tm p w2 w3 := hx3
      intro u21 _
      rintro u22 ⟨st, rfl, hm3, hst3⟩
      simp only [Act.put, List.setIfInBounds_toArray, List.set_cons_zero, List.set_cons_succ]
      obtain ⟨w4, r4, hl4⟩ := HS2.out.counted hp vv hx3 hm3 hst3
      refine wpList_entryStore (o := ⟨none, _, _, _, _, _⟩) rfl 101 (.tmp 17) (.tmp 22) (.tmp 20) rfl _ _ _ rfl rfl rfl r4 ?_
      have hbx : Blk w4 wo.heap.size 53 (pC p).toArray := (hl4.2.1.block _ H2.out.1.lt (fun hf => by have := (H1.out.1.1.foot_lt hf).1; omega)).trans H2.out.1
      have hI4 : InvP c.own U V (S1.setT p vv) (cntK true cnt ps (k + 1)) M (there (cntK true cnt ps k) M) := by
        rw [HE.out, HVV.out]
        have := H1.out.2.1.counted p (m + 1)
        rwa [show (((m + 1) : Nat) : Int) = (m : Int) + 1 by omega] at this
      have hkp : Keeps S1 (S1.setT p vv) := ⟨rfl, rfl, rfl, rfl⟩
      have htv : tmN (S1.setT p vv) p = vv := by rw [tmN_setT, if_pos rfl]
      obtain ⟨S2, hSS⟩ : ∃ S2, S2 = S1.setT p vv := ⟨_, rfl⟩
      rw [← hSS] at hl4 hI4 hkp htv
      have H4 := hide (And.intro hl4 (And.intro hbx (And.intro hI4 (And.intro hkp htv))))
      clear hl4 hbx hI4 hkp htv hSS hm3 hst3 hx3 r4
      go_wp2_with fail
      refine Fre.wp_made (X := Blw) 6 [] (by kernel_rfl) (by kernel_rfl) (by simp) (by simp) (by simp) ?_
      simp only [List.take_succ_cons, List.take_zero, List.drop_succ_cons, List.drop_zero]
      refine Fre.made_val (.pointer (some ⟨s, 0, none⟩)) (by kernel_rfl) (by kernel_rfl) (by kernel_rfl) (fun _ _ => by kernel_rfl) ?_
      simp only [Act.put, List.setIfInBounds_toArray, List.set_cons_zero, List.set_cons_succ]
      refine Fre.made_val (.pointer (some ⟨s, 0, none⟩)) (by kernel_rfl) (by kernel_rfl) (by kernel_rfl) (fun _ _ => by kernel_rfl) ?_
      simp only [Act.put, List.setIfInBounds_toArray, List.set_cons_zero, List.set_cons_succ]
      refine Fre.made_val (.pointer (some ⟨s, 25, none⟩)) (by kernel_rfl) (by kernel_rfl) (by kernel_rfl) (fun _ _ => by kernel_rfl) ?_
      simp only [Act.put, List.setIfInBounds_toArray, List.set_cons_zero, List.set_cons_succ]
      refine Fre.made_val (.map (some tb)) (by kernel_rfl) (by kernel_rfl) (by kernel_rfl) (fun W9 hW9 => exec_load_cell (o := ⟨some 26, _, _, _, _, _⟩) 101 (.tmp 25) rfl ⟨s, 25, none⟩ rfl _ _ W9 Try.underlying101 rfl ((H4.out.1.1.below (blw hW9)).cells.2.2.2.2.2.2.1)) ?_
      simp only [Act.put, List.setIfInBounds_toArray, List.set_cons_zero, List.set_cons_succ]
      refine Fre.made_val (.agg (pC p).toArray) (by kernel_rfl) (by kernel_rfl) (by kernel_rfl) (fun W9 hW9 => exec_load_blk (o := ⟨some 27, _, _, _, _, _⟩) 53 (.tmp 5) rfl wo.heap.size rfl 53 _ _ W9 (H4.out.2.1.below (blw hW9) H4.out.2.1.lt) Try.underlying53 rfl (psz hp)) ?_
      simp only [Act.put, List.setIfInBounds_toArray, List.set_cons_zero, List.set_cons_succ]
      refine Fre.made_val (.int .i64 vv) (by kernel_rfl) (by kernel_rfl) (by kernel_rfl) (fun W9 hW9 => exec_lookup (o := ⟨some 28, _, _, _, _, _⟩) 101 (.tmp 26) (.tmp 27) false rfl (.map (some tb)) (.agg (pC p).toArray) _ rfl rfl (by have := (H4.out.1.1.below (blw hW9)).look_t hp; rw [H4.out.2.2.2.2] at this; exact this)) ?_
      simp only [Act.put, List.setIfInBounds_toArray, List.set_cons_zero, List.set_cons_succ]
      show ∀ w', _ → _
      intro w5 hb5
      simp only [Fre.ended]
      have hb5 : Below w4.heap.size w4 w5 := hb5
      have H5 := hide (And.intro (H4.out.1.grow hb5) (And.intro (H4.out.2.1.below hb5 H4.out.2.1.lt) (H4.out.2.2)))
      clear hb5
      by_cases hgt : 1 < vv
      · go_wp2_with fail
        go_roundw
        case rel =>
          refine ⟨k + 1, S2, by omega, by go_num, H1.out.1.trans (SLeft.from H2.out.2 H5.out.1), H5.out.2.2.1.say (fun x q => ?_), H1.out.2.2.trans H5.out.2.2.2.1⟩
          rw [HE.out]
          refine there_same ?_ x q
          rw [← HM.out.1]
          have := HVV.out
          omega
        case measure => simp [intOf]; omega
      · go_wp2_with fail
        have hrow := H5.out.1.1.row p
        rw [H5.out.2.2.1.cls p] at hrow
        have hL9 : (M p).length ≤ 100000 := by have := (H5.out.2.2.1.lens hU.1 hV).2.1 p; rw [H5.out.2.2.1.cls p] at this; exact this
        obtain ⟨A2, cap2, hcv, _, _, _, _⟩ := slice_open hrow.at_
        have HCV := hide hcv
        clear hrow hcv
        refine Fre.wp_madeA (X := Blw) [] (by kernel_rfl) (by kernel_rfl) (by simp) (by simp) (by simp) ?_
        refine Fre.made_val (.pointer (some ⟨s, 0, none⟩)) (by kernel_rfl) (by kernel_rfl) (by kernel_rfl) (fun _ _ => by kernel_rfl) ?_
        simp only [Act.put, List.setIfInBounds_toArray, List.set_cons_zero, List.set_cons_succ]
        refine Fre.made_val (.pointer (some ⟨s, 0, none⟩)) (by kernel_rfl) (by kernel_rfl) (by kernel_rfl) (fun _ _ => by kernel_rfl) ?_
        simp only [Act.put, List.setIfInBounds_toArray, List.set_cons_zero, List.set_cons_succ]
        refine Fre.made_val (.pointer (some ⟨s, 24, none⟩)) (by kernel_rfl) (by kernel_rfl) (by kernel_rfl) (fun _ _ => by kernel_rfl) ?_
        simp only [Act.put, List.setIfInBounds_toArray, List.set_cons_zero, List.set_cons_succ]
        refine Fre.made_val (.map (some cb)) (by kernel_rfl) (by kernel_rfl) (by kernel_rfl) (fun W9 hW9 => exec_load_cell (o := ⟨some 33, _, _, _, _, _⟩) 100 (.tmp 32) rfl ⟨s, 24, none⟩ rfl _ _ W9 Try.underlying100 rfl ((H5.out.1.1.below (blw hW9)).cells.2.2.2.2.2.1)) ?_
        simp only [Act.put, List.setIfInBounds_toArray, List.set_cons_zero, List.set_cons_succ]
        refine Fre.made_val (.agg (pC p).toArray) (by kernel_rfl) (by kernel_rfl) (by kernel_rfl) (fun W9 hW9 => exec_load_blk (o := ⟨some 34, _, _, _, _, _⟩) 53 (.tmp 5) rfl wo.heap.size rfl 53 _ _ W9 (H5.out.2.1.below (blw hW9) H5.out.2.1.lt) Try.underlying53 rfl (psz hp)) ?_
        simp only [Act.put, List.setIfInBounds_toArray, List.set_cons_zero, List.set_cons_succ]
        refine Fre.made_val (.slice A2 (M p).length cap2) (by kernel_rfl) (by kernel_rfl) (by kernel_rfl) (fun W9 hW9 => exec_lookup (o := ⟨some 35, _, _, _, _, _⟩) 100 (.tmp 33) (.tmp 34) false rfl (.map (some cb)) (.agg (pC p).toArray) _ rfl rfl (by have := (H5.out.1.1.below (blw hW9)).look_c hp; rw [HCV.out] at this; exact this)) ?_
        simp only [Act.put, List.setIfInBounds_toArray, List.set_cons_zero, List.set_cons_succ]
        refine Fre.made_val (.int .i64 ((M p).length : Int)) (by kernel_rfl) (by kernel_rfl) (by kernel_rfl) (fun W9 hW9 => ?hs2) ?_
        case hs2 =>
          go_simp
        simp only [Act.put, List.setIfInBounds_toArray, List.set_cons_zero, List.set_cons_succ]
        refine Fre.made_val (.int .i64 0) (by kernel_rfl) (by kernel_rfl) (by kernel_rfl) (fun _ _ => by kernel_rfl) ?_
        simp only [Act.put, List.setIfInBounds_toArray, List.set_cons_zero, List.set_cons_succ]
        show ∀ w', _ → _
        intro w6 hb6
        simp only [Fre.ended]
        have hb6 : Below w5.heap.size w5 w6 := hb6
        have H6 := hide (And.intro (H5.out.1.grow hb6) (H5.out.2.1.below hb6 H5.out.2.1.lt))
        clear hb6
        go_wp2_with fail
        go_loopw [37] (fun x w7 => ∃ j S3, j ≤ (M p).length ∧ x = .int .i64 ((j : Nat) : Int) ∧ SLeft B w6 s cb tb hb c S2 S3 w7 ∧ InvP c.own U V S3 (cntK true cnt ps (k + 1)) M (flip true (cntK true cnt ps k) M p j) ∧ Keeps S2 S3) (fun x _ => (M p).length - (intOf x).toNat)
        case atStart =>
          refine ⟨0, S2, by omega, rfl, .refl H6.out.1.1, H5.out.2.2.1.say (flip_first ?_), .refl _⟩
          simp only [if_true]
          rw [← HM.out.1]
          have := HVV.out
          omega
        case round =>
          obtain ⟨j, S3, hj, rfl, hl3, hI3, hk3⟩ := hrel
          have H7 := hide (And.intro hl3 (And.intro hI3 hk3))
          clear hl3 hI3 hk3
          have j0 : (0 : Int) ≤ (j : Int) := by omega
          have j9 : ((M p).length : Int) ≤ 100000 := by omega
          by_cases hj2 : j < (M p).length
          · have j1 : (j : Int) < ((M p).length : Int) := by omega
            obtain ⟨x, hx⟩ : ∃ x, (M p)[j]? = some x := ⟨_, List.getElem?_eq_getElem hj2⟩
            have hr3 := H7.out.1.1.row p
            rw [(H7.out.2.2.row p).1, (H7.out.2.2.row p).2, H5.out.2.2.1.cls p, HCV.out] at hr3
            obtain ⟨A', cap', e', _, _, _, hA'⟩ := slice_open hr3.at_
            injection e' with e1 _ e3
            subst e1
            subst e3
            obtain ⟨b2, off2, rfl, hlt2, hE2⟩ := hA' (by omega)
            obtain ⟨cs, hr2, hat⟩ := hE2 j x hx
            obtain ⟨rfl, hx20⟩ := hashLay_at.1 hat
            have hpb : Blk wr wo.heap.size 53 (pC p).toArray := ((H7.out.1.2.1.block _ H6.out.2.lt (fun hf => (H5.out.1.2.2 _ hf).elim (fun h => by have := (H1.out.1.1.foot_lt h).1; omega) (fun h => by have := H2.out.1.lt; omega))).trans H6.out.2)
            have HPB := hide hpb
            clear hpb
            have HXJ := hide hx
            clear hr3 hE2 hat hA' hx
            go_wp2_with (first | (refine wpList_value (o := ⟨some 39, _, _, _, _, _⟩) rfl (.pointer (some ⟨b2, off2 + (j : Int).toNat * 20, none⟩)) wr (exec_index_off (o := ⟨some 39, _, _, _, _, _⟩) 25 23 (.tmp 35) (.tmp 37) rfl b2 off2 (M p).length cap2 (j : Int) .i64 rfl rfl ⟨j0, j1⟩ 20 Try.underlying25 sz_hash wr) ?_; rw [show off2 + (j : Int).toNat * 20 = off2 + j * 20 by omega]) | (refine wpList_value (o := ⟨some 40, _, _, _, _, _⟩) rfl (.agg (bv x).toArray) wr (exec_load_mid (o := ⟨some 40, _, _, _, _, _⟩) 23 (.tmp 39) rfl b2 (off2 + j * 20) rfl (bv x) _ wr hr2 Try.underlying23 rfl (by have := hsz hx20; simpa using this)) ?_; simp only [Act.put, List.setIfInBounds_toArray, List.set_cons_zero, List.set_cons_succ]) | ((with_reducible refine wpList_box (o1 := ⟨some 7, _, _, _, _, _⟩) (o2 := ⟨none, _, _, _, _, _⟩) rfl rfl 23 (.tmp 7) (.tmp 40) ?_ zcH (bv x).toArray ?_ (hsz hx20) ?_ ?_ ?_ ?_ ?_); rfl; kernel_rfl; (simp only [List.size_toArray, bvL]; rw [hx20]; kernel_rfl); exact all_oneCell_toArray (bv1 x); rfl; rfl; intro w8 hm8 hb8; have H8 := hide (And.intro hm8 hb8); clear hm8 hb8; dsimp only [Act.put]) | (refine wpList_value (o := ⟨some 42, _, _, _, _, _⟩) rfl (.agg (bv x).toArray) w8 (exec_load_blk (o := ⟨some 42, _, _, _, _, _⟩) 23 (.tmp 7) rfl wr.heap.size rfl 23 _ _ w8 H8.out.1 Try.underlying23 rfl (hsz hx20)) ?_) | (refine wpList_value (o := ⟨some 43, _, _, _, _, _⟩) rfl (.agg (pC p).toArray) w8 (exec_load_blk (o := ⟨some 43, _, _, _, _, _⟩) 53 (.tmp 5) rfl wo.heap.size rfl 53 _ _ w8 (HPB.out.below H8.out.2 HPB.out.lt) Try.underlying53 rfl (psz hp)) ?_))
            refine (turn_any x hx20 p hp true ((H7.out.2.1.lens hU.1 hV).1 x) (H7.out.2.1.lens hU.1 hV).2.2 (H7.out.1.1.below H8.out.2)).mono ?_
            rintro e w9 ⟨rfl, S4, hl9, hq9⟩
            have H9 := hide (And.intro hl9 hq9)
            clear hl9 hq9
            dsimp only
            go_wp2_with fail
            go_roundw
            case rel => exact ⟨j + 1, S4, by omega, by go_num, H7.out.1.trans (SLeft.from H8.out.2 H9.out.1), H7.out.2.1.flipped HXJ.out hpV H9.out.2, H7.out.2.2.trans H9.out.2.keeps⟩
            case measure => simp [intOf]; omega
          · obtain rfl : j = (M p).length := by omega
            go_wp2_with fail
            go_roundw
            case rel =>
              refine ⟨k + 1, S3, by omega, by go_num, H1.out.1.trans (SLeft.from H2.out.2 (H6.out.1.trans H7.out.1)), H7.out.2.1.say (fun x q => ?_), H1.out.2.2.trans (H5.out.2.2.2.1.trans H7.out.2.2)⟩
              rw [HE.out]
              refine flip_last ?_ x q
              simp only [if_true]
              have := HVV.out
              omega
            case measure => simp [intOf]; omega
    · obtain rfl : k = ps.length := by omega
      go_wp2_with fail
      go_end0
      exact ⟨rfl, S1, H1.out.1, H1.out.2.1, H1.out.2.2⟩
set_option maxHeartbeats 4000000 in
theorem take_any {B : Nat} {w : World} {s cb tb hb : Nat} {c : Cvs} {S : Sst} {U : List Hsh} {V : List Pth} {cnt : Pth → Nat} {M : Pth → List Hsh} (hU : U.length ≤ 100000 ∧ ∀ h ∈ U, okH h) (hV : V.length ≤ 100000) (ps : List Pth) (hl : ps.length ≤ 1000000) (hps : ∀ p ∈ ps, p ∈ V) (hc0 : ∀ q, pcnt ps q ≤ cnt q) (hc : ∀ q, cnt q ≤ 1000000) (v : Value) (hv : PthsAt w (S.foot s cb tb hb) v ps) (hS : SAt B w s cb tb hb c S) (hI : InvP c.own U V S cnt M (there cnt M)) :
    Calls Try.prog 120 #[.pointer (some ⟨s, 0, none⟩), v] w fun e w' => e = .returned (.tuple #[]) ∧ ∃ S', SLeft B w s cb tb hb c S S' w' ∧ InvP c.own U V S' (cntK false cnt ps ps.length) M (there (cntK false cnt ps ps.length) M) ∧ Keeps S S' := by
  obtain ⟨A, cap, rfl, hA⟩ := hv
  have H0 := hide (And.intro hS (And.intro hI hA))
  clear hS hI hA
  go_enter Try.func120, Try.ntmps120
  go_wp2_with fail
  go_loopw [10] (fun x wr => ∃ k S1, k ≤ ps.length ∧ x = .int .i64 ((k : Nat) : Int) ∧ SLeft B w s cb tb hb c S S1 wr ∧ InvP c.own U V S1 (cntK false cnt ps k) M (there (cntK false cnt ps k) M) ∧ Keeps S S1) (fun x _ => ps.length - (intOf x).toNat)
  case atStart => exact ⟨0, S, by omega, rfl, .refl H0.out.1, by rw [cntK_zero]; exact H0.out.2.1, .refl S⟩
  case round =>
    obtain ⟨wo, rfl⟩ : ∃ wo, wo = wr := ⟨_, rfl⟩
    obtain ⟨k, S1, hk, rfl, hl1, hI1, hk1⟩ := hrel
    have H1 := hide (And.intro hl1 (And.intro hI1 hk1))
    clear hl1 hI1 hk1
    have k0 : (0 : Int) ≤ (k : Int) := by omega
    have k9 : (ps.length : Int) ≤ 1000000 := by omega
    by_cases hk2 : k < ps.length
    · have k1 : (k : Int) < (ps.length : Int) := by omega
      obtain ⟨p, hpk⟩ : ∃ p, ps[k]? = some p := ⟨_, List.getElem?_eq_getElem hk2⟩
      have hpV := hps p (List.mem_of_getElem? hpk)
      obtain ⟨b, off, rfl, hlt, hnf, hE⟩ := H0.out.2.2 (by omega)
      obtain ⟨hr, hp⟩ := hE k p hpk
      have hrr := rangeAt_same hr (H1.out.1.2.1.block b hlt hnf)
      have HPK := hide hpk
      obtain ⟨m, hm⟩ : ∃ m : Nat, m = cntK false cnt ps k p := ⟨_, rfl⟩
      have hm9 : m ≤ 1000000 := by
        have := hc p
        rw [hm]; unfold cntK
        simp; omega
      have htm : tmN S1 p = (m : Int) := by rw [hm]; exact H1.out.2.1.tm p
      have HM := hide (And.intro hm htm)
      obtain ⟨vv, hvv⟩ : ∃ vv : Int, vv = (m : Int) - 1 := ⟨_, rfl⟩
      have HVV := hide hvv
      have hv9 : -1 ≤ vv ∧ vv ≤ 1000001 := by omega
      clear hE hr hpk hm htm hvv
      go_wp2_with (first | (refine wpList_value (o := ⟨some 12, _, _, _, _, _⟩) rfl (.pointer (some ⟨b, off + (k : Int).toNat * 21, none⟩)) wo (exec_index_off (o := ⟨some 12, _, _, _, _, _⟩) 24 53 (.tmp 8) (.tmp 10) rfl b off ps.length cap (k : Int) .i64 rfl rfl ⟨k0, k1⟩ 21 Try.underlying24 sz_path wo) ?_; rw [show off + (k : Int).toNat * 21 = off + k * 21 by omega]) | (refine wpList_value (o := ⟨some 13, _, _, _, _, _⟩) rfl (.agg (pC p).toArray) wo (exec_load_mid (o := ⟨some 13, _, _, _, _, _⟩) 53 (.tmp 12) rfl b (off + k * 21) rfl (pC p) _ wo hrr Try.underlying53 rfl (by have := psz hp; simpa using this)) ?_; simp only [Act.put, List.setIfInBounds_toArray, List.set_cons_zero, List.set_cons_succ]) | ((with_reducible refine wpList_box (o1 := ⟨some 5, _, _, _, _, _⟩) (o2 := ⟨none, _, _, _, _, _⟩) rfl rfl 53 (.tmp 5) (.tmp 13) ?_ zcP (pC p).toArray ?_ (psz hp) ?_ ?_ ?_ ?_ ?_); rfl; kernel_rfl; (simp only [List.size_toArray, pC_len hp]; kernel_rfl); exact all_oneCell_toArray (pC_one p); rfl; rfl; intro w2 hm2 hb2; have H2 := hide (And.intro hm2 hb2); clear hm2 hb2; dsimp only [Act.put]))
      have hS2 := H1.out.1.1.below H2.out.2
      have hstb : s ≠ tb := fun e => map_not_cells hS2.tmap (by rw [← e]; exact hS2.blk)
      have hgtb : wo.heap.size ≠ tb := fun e => by have := H1.out.1.1.tmap.lt; omega
      have HX := hide (fun (W9 : World) (hx : EntX tb S1.tm p w2 W9) => (⟨(EntX.other hx hS2.blk.lt hstb).trans hS2.blk, (EntX.other hx H2.out.1.lt hgtb).trans H2.out.1⟩ : Blk W9 s 104 (srchCells c cb tb hb S1).toArray ∧ Blk W9 wo.heap.size 53 (pC p).toArray))
      have HS2 := hide hS2
      clear hS2 hstb hgtb
      have HE := hide (show cntK false cnt ps (k + 1) = upd (cntK false cnt ps k) p (m - 1) from by rw [(cntK_take HPK.out hc0).1, HM.out.1])
      have hm0 : 0 < m := by rw [HM.out.1]; exact (cntK_take HPK.out hc0).2
      refine Fre.wp_made (X := (EntX tb S1.tm p)) 9 [(21, EntTT tb S1.tm p (.int .i64 (m : Int))), (22, EntST tb S1.tm p)] (by kernel_rfl) (by kernel_rfl) (by simp only [List.forall_mem_cons]; exact ⟨entTT_ok, entST_ok, fun p hp => by cases hp⟩) (by simp) (by simp) ?_
      simp only [List.take_succ_cons, List.take_zero, List.drop_succ_cons, List.drop_zero]
      refine Fre.made_val (.pointer (some ⟨s, 0, none⟩)) (by kernel_rfl) (by kernel_rfl) (by kernel_rfl) (fun _ _ => by kernel_rfl) ?_
      simp only [Act.put, List.setIfInBounds_toArray, List.set_cons_zero, List.set_cons_succ]
      refine Fre.made_val (.pointer (some ⟨s, 0, none⟩)) (by kernel_rfl) (by kernel_rfl) (by kernel_rfl) (fun _ _ => by kernel_rfl) ?_
      simp only [Act.put, List.setIfInBounds_toArray, List.set_cons_zero, List.set_cons_succ]
      refine Fre.made_val (.pointer (some ⟨s, 25, none⟩)) (by kernel_rfl) (by kernel_rfl) (by kernel_rfl) (fun _ _ => by kernel_rfl) ?_
      simp only [Act.put, List.setIfInBounds_toArray, List.set_cons_zero, List.set_cons_succ]
      refine Fre.made_val (.map (some tb)) (by kernel_rfl) (by kernel_rfl) (by kernel_rfl) (fun W9 hW9 => exec_load_cell (o := ⟨some 17, _, _, _, _, _⟩) 101 (.tmp 16) rfl ⟨s, 25, none⟩ rfl _ _ W9 Try.underlying101 rfl (srch25 HS2.out.own (HX.out W9 hW9).1)) ?_
      simp only [Act.put, List.setIfInBounds_toArray, List.set_cons_zero, List.set_cons_succ]
      refine Fre.made_val (.agg (pC p).toArray) (by kernel_rfl) (by kernel_rfl) (by kernel_rfl) (fun W9 hW9 => exec_load_blk (o := ⟨some 18, _, _, _, _, _⟩) 53 (.tmp 5) rfl wo.heap.size rfl 53 _ _ W9 ((HX.out W9 hW9).2) Try.underlying53 rfl (psz hp)) ?_
      simp only [Act.put, List.setIfInBounds_toArray, List.set_cons_zero, List.set_cons_succ]
      refine Fre.made_val (.int .i64 (m : Int)) (by kernel_rfl) (by kernel_rfl) (by kernel_rfl) (fun W9 hW9 => exec_lookup (o := ⟨some 19, _, _, _, _, _⟩) 101 (.tmp 17) (.tmp 18) false rfl (.map (some tb)) (.agg (pC p).toArray) _ rfl rfl (by have hx9 : EntX tb S1.tm p w2 W9 := hW9; have := look_x HS2.out hp hx9; rw [HM.out.2] at this; exact this)) ?_
      simp only [Act.put, List.setIfInBounds_toArray, List.set_cons_zero, List.set_cons_succ]
      refine Fre.made_val (.int .i64 vv) (by kernel_rfl) (by kernel_rfl) (by kernel_rfl) (fun W9 hW9 => ?hs3) ?_
      case hs3 =>
        go_simp
        rw [HVV.out]
        exact wrapI9 _ (by omega)
      simp only [Act.put, List.setIfInBounds_toArray, List.set_cons_zero, List.set_cons_succ]
      refine Fre.made_new 21 _ (by kernel_rfl) (by kernel_rfl) rfl rfl (fun W9 hW9 => ?hent) ?_
      case hent =>
        have hx9 : EntX tb S1.tm p w2 W9 := hW9
        obtain ⟨w', st, r1, r2, r3, r4⟩ := ent_stepT HS2.out hp hx9
        rw [HM.out.2] at r1
        exact ⟨_, w', exec_mapEntry (o := ⟨some 21, _, _, _, _, _⟩) 101 (.tmp 17) (.tmp 18) rfl _ _ _ rfl rfl r1, r4, st, rfl, r2, r3⟩
      simp only [Act.put, List.setIfInBounds_toArray, List.set_cons_zero, List.set_cons_succ]
      refine Fre.made_new1 21 _ 22 _ (by kernel_rfl) rfl (by kernel_rfl) rfl rfl (fun u W9 hW9 hu => by obtain ⟨st, rfl, h1, h2⟩ := hu; exact ⟨.int .i64 (st : Nat), W9, by kernel_rfl, Fre.Ext.refl W9, st, rfl, h1, h2⟩) ?_
      simp only [Act.put, List.setIfInBounds_toArray, List.set_cons_zero, List.set_cons_succ]
      show ∀ w', _ → _
      intro w3 hx3
      simp only [Fre.ended]
      have hx3 : EntX tb S1.tm p w2 w3 := hx3
      intro u21 _
      rintro u22 ⟨st, rfl, hm3, hst3⟩
      simp only [Act.put, List.setIfInBounds_toArray, List.set_cons_zero, List.set_cons_succ]
      obtain ⟨w4, r4, hl4⟩ := HS2.out.counted hp vv hx3 hm3 hst3
      refine wpList_entryStore (o := ⟨none, _, _, _, _, _⟩) rfl 101 (.tmp 17) (.tmp 22) (.tmp 20) rfl _ _ _ rfl rfl rfl r4 ?_
      have hbx : Blk w4 wo.heap.size 53 (pC p).toArray := (hl4.2.1.block _ H2.out.1.lt (fun hf => by have := (H1.out.1.1.foot_lt hf).1; omega)).trans H2.out.1
      have hI4 : InvP c.own U V (S1.setT p vv) (cntK false cnt ps (k + 1)) M (there (cntK false cnt ps k) M) := by
        rw [HE.out, HVV.out]
        have := H1.out.2.1.counted p (m - 1)
        rwa [show (((m - 1) : Nat) : Int) = (m : Int) - 1 by omega] at this
      have hkp : Keeps S1 (S1.setT p vv) := ⟨rfl, rfl, rfl, rfl⟩
      have htv : tmN (S1.setT p vv) p = vv := by rw [tmN_setT, if_pos rfl]
      obtain ⟨S2, hSS⟩ : ∃ S2, S2 = S1.setT p vv := ⟨_, rfl⟩
      rw [← hSS] at hl4 hI4 hkp htv
      have H4 := hide (And.intro hl4 (And.intro hbx (And.intro hI4 (And.intro hkp htv))))
      clear hl4 hbx hI4 hkp htv hSS hm3 hst3 hx3 r4
      go_wp2_with fail
      refine Fre.wp_made (X := Blw) 6 [] (by kernel_rfl) (by kernel_rfl) (by simp) (by simp) (by simp) ?_
      simp only [List.take_succ_cons, List.take_zero, List.drop_succ_cons, List.drop_zero]
      refine Fre.made_val (.pointer (some ⟨s, 0, none⟩)) (by kernel_rfl) (by kernel_rfl) (by kernel_rfl) (fun _ _ => by kernel_rfl) ?_
      simp only [Act.put, List.setIfInBounds_toArray, List.set_cons_zero, List.set_cons_succ]
      refine Fre.made_val (.pointer (some ⟨s, 0, none⟩)) (by kernel_rfl) (by kernel_rfl) (by kernel_rfl) (fun _ _ => by kernel_rfl) ?_
      simp only [Act.put, List.setIfInBounds_toArray, List.set_cons_zero, List.set_cons_succ]
      refine Fre.made_val (.pointer (some ⟨s, 25, none⟩)) (by kernel_rfl) (by kernel_rfl) (by kernel_rfl) (fun _ _ => by kernel_rfl) ?_
      simp only [Act.put, List.setIfInBounds_toArray, List.set_cons_zero, List.set_cons_succ]
      refine Fre.made_val (.map (some tb)) (by kernel_rfl) (by kernel_rfl) (by kernel_rfl) (fun W9 hW9 => exec_load_cell (o := ⟨some 26, _, _, _, _, _⟩) 101 (.tmp 25) rfl ⟨s, 25, none⟩ rfl _ _ W9 Try.underlying101 rfl ((H4.out.1.1.below (blw hW9)).cells.2.2.2.2.2.2.1)) ?_
      simp only [Act.put, List.setIfInBounds_toArray, List.set_cons_zero, List.set_cons_succ]
      refine Fre.made_val (.agg (pC p).toArray) (by kernel_rfl) (by kernel_rfl) (by kernel_rfl) (fun W9 hW9 => exec_load_blk (o := ⟨some 27, _, _, _, _, _⟩) 53 (.tmp 5) rfl wo.heap.size rfl 53 _ _ W9 (H4.out.2.1.below (blw hW9) H4.out.2.1.lt) Try.underlying53 rfl (psz hp)) ?_
      simp only [Act.put, List.setIfInBounds_toArray, List.set_cons_zero, List.set_cons_succ]
      refine Fre.made_val (.int .i64 vv) (by kernel_rfl) (by kernel_rfl) (by kernel_rfl) (fun W9 hW9 => exec_lookup (o := ⟨some 28, _, _, _, _, _⟩) 101 (.tmp 26) (.tmp 27) false rfl (.map (some tb)) (.agg (pC p).toArray) _ rfl rfl (by have := (H4.out.1.1.below (blw hW9)).look_t hp; rw [H4.out.2.2.2.2] at this; exact this)) ?_
      simp only [Act.put, List.setIfInBounds_toArray, List.set_cons_zero, List.set_cons_succ]
      show ∀ w', _ → _
      intro w5 hb5
      simp only [Fre.ended]
      have hb5 : Below w4.heap.size w4 w5 := hb5
      have H5 := hide (And.intro (H4.out.1.grow hb5) (And.intro (H4.out.2.1.below hb5 H4.out.2.1.lt) (H4.out.2.2)))
      clear hb5
      by_cases hgt : 0 < vv
      · go_wp2_with fail
        go_roundw
        case rel =>
          refine ⟨k + 1, S2, by omega, by go_num, H1.out.1.trans (SLeft.from H2.out.2 H5.out.1), H5.out.2.2.1.say (fun x q => ?_), H1.out.2.2.trans H5.out.2.2.2.1⟩
          rw [HE.out]
          refine there_same ?_ x q
          rw [← HM.out.1]
          have := HVV.out
          omega
        case measure => simp [intOf]; omega
      · go_wp2_with fail
        have hrow := H5.out.1.1.row p
        rw [H5.out.2.2.1.cls p] at hrow
        have hL9 : (M p).length ≤ 100000 := by have := (H5.out.2.2.1.lens hU.1 hV).2.1 p; rw [H5.out.2.2.1.cls p] at this; exact this
        obtain ⟨A2, cap2, hcv, _, _, _, _⟩ := slice_open hrow.at_
        have HCV := hide hcv
        clear hrow hcv
        refine Fre.wp_madeA (X := Blw) [] (by kernel_rfl) (by kernel_rfl) (by simp) (by simp) (by simp) ?_
        refine Fre.made_val (.pointer (some ⟨s, 0, none⟩)) (by kernel_rfl) (by kernel_rfl) (by kernel_rfl) (fun _ _ => by kernel_rfl) ?_
        simp only [Act.put, List.setIfInBounds_toArray, List.set_cons_zero, List.set_cons_succ]
        refine Fre.made_val (.pointer (some ⟨s, 0, none⟩)) (by kernel_rfl) (by kernel_rfl) (by kernel_rfl) (fun _ _ => by kernel_rfl) ?_
        simp only [Act.put, List.setIfInBounds_toArray, List.set_cons_zero, List.set_cons_succ]
        refine Fre.made_val (.pointer (some ⟨s, 24, none⟩)) (by kernel_rfl) (by kernel_rfl) (by kernel_rfl) (fun _ _ => by kernel_rfl) ?_
        simp only [Act.put, List.setIfInBounds_toArray, List.set_cons_zero, List.set_cons_succ]
        refine Fre.made_val (.map (some cb)) (by kernel_rfl) (by kernel_rfl) (by kernel_rfl) (fun W9 hW9 => exec_load_cell (o := ⟨some 33, _, _, _, _, _⟩) 100 (.tmp 32) rfl ⟨s, 24, none⟩ rfl _ _ W9 Try.underlying100 rfl ((H5.out.1.1.below (blw hW9)).cells.2.2.2.2.2.1)) ?_
        simp only [Act.put, List.setIfInBounds_toArray, List.set_cons_zero, List.set_cons_succ]
        refine Fre.made_val (.agg (pC p).toArray) (by kernel_rfl) (by kernel_rfl) (by kernel_rfl) (fun W9 hW9 => exec_load_blk (o := ⟨some 34, _, _, _, _, _⟩) 53 (.tmp 5) rfl wo.heap.size rfl 53 _ _ W9 (H5.out.2.1.below (blw hW9) H5.out.2.1.lt) Try.underlying53 rfl (psz hp)) ?_
        simp only [Act.put, List.setIfInBounds_toArray, List.set_cons_zero, List.set_cons_succ]
        refine Fre.made_val (.slice A2 (M p).length cap2) (by kernel_rfl) (by kernel_rfl) (by kernel_rfl) (fun W9 hW9 => exec_lookup (o := ⟨some 35, _, _, _, _, _⟩) 100 (.tmp 33) (.tmp 34) false rfl (.map (some cb)) (.agg (pC p).toArray) _ rfl rfl (by have := (H5.out.1.1.below (blw hW9)).look_c hp; rw [HCV.out] at this; exact this)) ?_
        simp only [Act.put, List.setIfInBounds_toArray, List.set_cons_zero, List.set_cons_succ]
        refine Fre.made_val (.int .i64 ((M p).length : Int)) (by kernel_rfl) (by kernel_rfl) (by kernel_rfl) (fun W9 hW9 => ?hs4) ?_
        case hs4 =>
          go_simp
        simp only [Act.put, List.setIfInBounds_toArray, List.set_cons_zero, List.set_cons_succ]
        refine Fre.made_val (.int .i64 0) (by kernel_rfl) (by kernel_rfl) (by kernel_rfl) (fun _ _ => by kernel_rfl) ?_
        simp only [Act.put, List.setIfInBounds_toArray, List.set_cons_zero, List.set_cons_succ]
        show ∀ w', _ → _
        intro w6 hb6
        simp only [Fre.ended]
        have hb6 : Below w5.heap.size w5 w6 := hb6
        have H6 := hide (And.intro (H5.out.1.grow hb6) (H5.out.2.1.below hb6 H5.out.2.1.lt))
        clear hb6
        go_wp2_with fail
        go_loopw [37] (fun x w7 => ∃ j S3, j ≤ (M p).length ∧ x = .int .i64 ((j : Nat) : Int) ∧ SLeft B w6 s cb tb hb c S2 S3 w7 ∧ InvP c.own U V S3 (cntK false cnt ps (k + 1)) M (flip false (cntK false cnt ps k) M p j) ∧ Keeps S2 S3) (fun x _ => (M p).length - (intOf x).toNat)
        case atStart =>
          refine ⟨0, S2, by omega, rfl, .refl H6.out.1.1, H5.out.2.2.1.say (flip_first ?_), .refl _⟩
          simp only [Bool.false_eq_true, if_false]
          rw [← HM.out.1]
          have := HVV.out
          omega
        case round =>
          obtain ⟨j, S3, hj, rfl, hl3, hI3, hk3⟩ := hrel
          have H7 := hide (And.intro hl3 (And.intro hI3 hk3))
          clear hl3 hI3 hk3
          have j0 : (0 : Int) ≤ (j : Int) := by omega
          have j9 : ((M p).length : Int) ≤ 100000 := by omega
          by_cases hj2 : j < (M p).length
          · have j1 : (j : Int) < ((M p).length : Int) := by omega
            obtain ⟨x, hx⟩ : ∃ x, (M p)[j]? = some x := ⟨_, List.getElem?_eq_getElem hj2⟩
            have hr3 := H7.out.1.1.row p
            rw [(H7.out.2.2.row p).1, (H7.out.2.2.row p).2, H5.out.2.2.1.cls p, HCV.out] at hr3
            obtain ⟨A', cap', e', _, _, _, hA'⟩ := slice_open hr3.at_
            injection e' with e1 _ e3
            subst e1
            subst e3
            obtain ⟨b2, off2, rfl, hlt2, hE2⟩ := hA' (by omega)
            obtain ⟨cs, hr2, hat⟩ := hE2 j x hx
            obtain ⟨rfl, hx20⟩ := hashLay_at.1 hat
            have hpb : Blk wr wo.heap.size 53 (pC p).toArray := ((H7.out.1.2.1.block _ H6.out.2.lt (fun hf => (H5.out.1.2.2 _ hf).elim (fun h => by have := (H1.out.1.1.foot_lt h).1; omega) (fun h => by have := H2.out.1.lt; omega))).trans H6.out.2)
            have HPB := hide hpb
            clear hpb
            have HXJ := hide hx
            clear hr3 hE2 hat hA' hx
            go_wp2_with (first | (refine wpList_value (o := ⟨some 39, _, _, _, _, _⟩) rfl (.pointer (some ⟨b2, off2 + (j : Int).toNat * 20, none⟩)) wr (exec_index_off (o := ⟨some 39, _, _, _, _, _⟩) 25 23 (.tmp 35) (.tmp 37) rfl b2 off2 (M p).length cap2 (j : Int) .i64 rfl rfl ⟨j0, j1⟩ 20 Try.underlying25 sz_hash wr) ?_; rw [show off2 + (j : Int).toNat * 20 = off2 + j * 20 by omega]) | (refine wpList_value (o := ⟨some 40, _, _, _, _, _⟩) rfl (.agg (bv x).toArray) wr (exec_load_mid (o := ⟨some 40, _, _, _, _, _⟩) 23 (.tmp 39) rfl b2 (off2 + j * 20) rfl (bv x) _ wr hr2 Try.underlying23 rfl (by have := hsz hx20; simpa using this)) ?_; simp only [Act.put, List.setIfInBounds_toArray, List.set_cons_zero, List.set_cons_succ]) | ((with_reducible refine wpList_box (o1 := ⟨some 7, _, _, _, _, _⟩) (o2 := ⟨none, _, _, _, _, _⟩) rfl rfl 23 (.tmp 7) (.tmp 40) ?_ zcH (bv x).toArray ?_ (hsz hx20) ?_ ?_ ?_ ?_ ?_); rfl; kernel_rfl; (simp only [List.size_toArray, bvL]; rw [hx20]; kernel_rfl); exact all_oneCell_toArray (bv1 x); rfl; rfl; intro w8 hm8 hb8; have H8 := hide (And.intro hm8 hb8); clear hm8 hb8; dsimp only [Act.put]) | (refine wpList_value (o := ⟨some 42, _, _, _, _, _⟩) rfl (.agg (bv x).toArray) w8 (exec_load_blk (o := ⟨some 42, _, _, _, _, _⟩) 23 (.tmp 7) rfl wr.heap.size rfl 23 _ _ w8 H8.out.1 Try.underlying23 rfl (hsz hx20)) ?_) | (refine wpList_value (o := ⟨some 43, _, _, _, _, _⟩) rfl (.agg (pC p).toArray) w8 (exec_load_blk (o := ⟨some 43, _, _, _, _, _⟩) 53 (.tmp 5) rfl wo.heap.size rfl 53 _ _ w8 (HPB.out.below H8.out.2 HPB.out.lt) Try.underlying53 rfl (psz hp)) ?_))
            refine (turn_any x hx20 p hp false ((H7.out.2.1.lens hU.1 hV).1 x) (H7.out.2.1.lens hU.1 hV).2.2 (H7.out.1.1.below H8.out.2)).mono ?_
            rintro e w9 ⟨rfl, S4, hl9, hq9⟩
            have H9 := hide (And.intro hl9 hq9)
            clear hl9 hq9
            dsimp only
            go_wp2_with fail
            go_roundw
            case rel => exact ⟨j + 1, S4, by omega, by go_num, H7.out.1.trans (SLeft.from H8.out.2 H9.out.1), H7.out.2.1.flipped HXJ.out hpV H9.out.2, H7.out.2.2.trans H9.out.2.keeps⟩
            case measure => simp [intOf]; omega
          · obtain rfl : j = (M p).length := by omega
            go_wp2_with fail
            go_roundw
            case rel =>
              refine ⟨k + 1, S3, by omega, by go_num, H1.out.1.trans (SLeft.from H2.out.2 (H6.out.1.trans H7.out.1)), H7.out.2.1.say (fun x q => ?_), H1.out.2.2.trans (H5.out.2.2.2.1.trans H7.out.2.2)⟩
              rw [HE.out]
              refine flip_last ?_ x q
              simp only [Bool.false_eq_true, if_false]
              have := HVV.out
              omega
            case measure => simp [intOf]; omega
    · obtain rfl : k = ps.length := by omega
      go_wp2_with fail
      go_end0
      exact ⟨rfl, S1, H1.out.1, H1.out.2.1, H1.out.2.2⟩
end Go.Proofs.Ytfppddnfdinipaa
