/- spenceref04: a write is kept; what flushes, what wakes. spenceref04: a write of the document's device. spenceref04: what is read of a sector. a bit is spoilt: the device's, the document's. spenceref04: a bit is spoilt; deeds of the document's device as one's own. spencekit: KeptBytes, SameBytes. spencekit: SameBytes. spencekit.OverBytes: what was told is written over. spencelaw04: both devices tell the same. package dev: where there is no device. package blob: a field's map. package blob: the iterator over the sectors of runs. -/
import Derived.Test.YtfppddnfdinipaaMBE4
import Derived.Test.YtfppddnfdinipaaMBE3
import Derived.Deep.QuietTactic
import Derived.BigQuiet
import Derived.Test.YtfppddnfdinipaaMBE1
import Derived.Test.YtfppddnfdinipaaMBE2
import Derived.RangeFuncNested
import Derived.RangeFuncBound
import Derived.RangeFuncCalls
import Derived.RangeFuncLeaves
import Derived.Shelf.Abstract
import Derived.OwnWalkIn
import Derived.TacticsInMore
import Derived.LoopNIn
import Derived.LoopIn
section
namespace Go.Proofs.Ytfppddnfdinipaa
open Go Go.RowKit
set_option maxRecDepth 100000
set_option maxHeartbeats 1000000 in
theorem rkeep_any {g ra c n q c2 : Nat} {vw : Value} {de fu : Int} {dn : Bool} (K : List (List UInt8)) (x : Nat) (b : List UInt8) (w : World) (hn : n ≤ 8192) (hKn : K.length = n) (hK : ∀ b ∈ K, b.length = 64) (hx : x < n) (hb64 : b.length = 64)
    (hb : Blk w g 179 (rdv (.slice (some ⟨ra, 0, none⟩) (n * 64) c) vw de fu dn)) (ha : w.ownsRow 0 5 1 (.slice (some ⟨ra, 0, none⟩) (n * 64) c) (n * 64) (keptCells K)) (hq : w.ownsRow 0 5 1 (.slice (some ⟨q, 0, none⟩) 64 c2) 64 (bv b)) :
    Calls Try.prog 136 #[.pointer (some ⟨g, 0, none⟩), .agg #[.int .i64 (x : Int), .slice (some ⟨q, 0, none⟩) 64 c2]] w fun e w' => e = .returned (.tuple #[]) ∧ w'.ownsRow 0 5 1 (.slice (some ⟨ra, 0, none⟩) (n * 64) c) (n * 64) (keptCells (K.set x b)) ∧ Turned (fun k => k = ra) w w' := by
  obtain ⟨cur, hcur, hcs, hnc, hup⟩ := own_upd ha
  rw [Nat.mul_one] at hcs hup
  have c0 := (hb.cell 0).trans (rdv0 ..)
  have hlt := hb.lt
  have hraw : ra < w.heap.size := (owned_ltN ha rfl).2
  have hqw : q < w.heap.size := (owned_ltN hq rfl).2
  have i0 : (0 : Int) ≤ (x : Int) := by omega
  have i1 : (x : Int) ≤ 8192 := by omega
  have HUP := hide (And.intro hup (And.intro hq hcur))
  have HKS := hide (kept_set K x b hK hb64 (by omega))
  clear hb ha hup hq hcur hK hKn
  have hbx0 := Blk.new w 228 #[.int .i64 (x : Int), .slice (some ⟨q, 0, none⟩) 64 c2]
  go_enter Try.func136, Try.ntmps136
  go_wp2_with fail
  obtain ⟨w1, hw1⟩ : ∃ w1, w1 = w.alloc (.cells #[.int .i64 (x : Int), .slice (some ⟨q, 0, none⟩) 64 c2] 228) := ⟨_, rfl⟩
  rw [← hw1] at hbx0 ⊢
  have hB1 : Below w.heap.size w w1 := by rw [hw1]; exact (Below.refl _ _).alloc (Nat.le_refl _) _
  have HBX := hide hbx0
  have hbx : w.heap.size < w1.heap.size := hbx0.lt
  have hg1 : g < w1.heap.size := by omega
  have c0 := (hB1.cell (p := ⟨g, 0, none⟩) hlt).trans c0
  clear hw1 hbx0
  refine wp_made 10 [] (by kernel_rfl) (by kernel_rfl) (by intro p hp; cases hp) List.nodup_nil (by intro t ht; cases ht) ?_
  simp only [List.take_succ_cons, List.take_zero, List.drop_succ_cons, List.drop_zero]
  refine made_val (.pointer (some ⟨g, 0, none⟩)) (by kernel_rfl) (by kernel_rfl) (by kernel_rfl) (fun _ _ => by kernel_rfl) ?_
  simp only [Act.put, List.setIfInBounds_toArray, List.set_cons_zero, List.set_cons_succ]
  refine made_val (.pointer (some ⟨g, 0, none⟩)) (by kernel_rfl) (by kernel_rfl) (by kernel_rfl) (fun _ _ => by kernel_rfl) ?_
  simp only [Act.put, List.setIfInBounds_toArray, List.set_cons_zero, List.set_cons_succ]
  refine made_val (.pointer (some ⟨g, 0, none⟩)) (by kernel_rfl) (by kernel_rfl) (by kernel_rfl) (fun _ _ => by kernel_rfl) ?_
  simp only [Act.put, List.setIfInBounds_toArray, List.set_cons_zero, List.set_cons_succ]
  refine made_val (.slice (some ⟨ra, 0, none⟩) (n * 64) c) (by kernel_rfl) (by kernel_rfl) (by kernel_rfl) (fun W hW => exec_load_slice (o := ⟨some 7, _, _, _, _, _⟩) 66 5 (.tmp 6) rfl ⟨g, 0, none⟩ rfl _ W Try.underlying66 ((hW.cell (p := ⟨g, 0, none⟩) hg1).trans c0)) ?_
  simp only [Act.put, List.setIfInBounds_toArray, List.set_cons_zero, List.set_cons_succ]
  refine made_val (.pointer (some ⟨w.heap.size, 0, none⟩)) (by kernel_rfl) (by kernel_rfl) (by kernel_rfl) (fun _ _ => by kernel_rfl) ?_
  simp only [Act.put, List.setIfInBounds_toArray, List.set_cons_zero, List.set_cons_succ]
  refine made_val (.int .i64 (x : Int)) (by kernel_rfl) (by kernel_rfl) (by kernel_rfl) (fun W hW => exec_load_cell (o := ⟨some 9, _, _, _, _, _⟩) 3 (.tmp 8) rfl ⟨w.heap.size, 0, none⟩ rfl _ _ W Try.underlying3 rfl ((hW.cell (p := ⟨w.heap.size, 0, none⟩) hbx).trans (HBX.out.cell 0))) ?_
  simp only [Act.put, List.setIfInBounds_toArray, List.set_cons_zero, List.set_cons_succ]
  refine made_val (.int .i64 ((x : Int) * 64)) (by kernel_rfl) (by kernel_rfl) (by kernel_rfl) (fun W hW => ?hmul) ?_
  case hmul =>
    go_simp
    first | done | exact IntWalk.wrap64_in _ (by omega) | (simp [IntKind.wrap, IntKind.signed, IntKind.bits]; omega)
  simp only [Act.put, List.setIfInBounds_toArray, List.set_cons_zero, List.set_cons_succ]
  rw [show (x : Int) * 64 = ((x * 64 : Nat) : Int) by omega]
  refine made_val (.slice (if c = x * 64 then some ⟨ra, 0, none⟩ else (some (⟨ra, 0, none⟩ : Addr)).map (·.add (x * 64))) (n * 64 - x * 64) (c - x * 64)) (by kernel_rfl) (by kernel_rfl) (by kernel_rfl) (fun W _ => exec_slice (o := ⟨some 11, _, _, _, _, _⟩) 66 (.tmp 7) (some (.tmp 10)) none none rfl _ (fun W => run_sliceAt_from 66 5 Try.underlying66 size5 (some ⟨ra, 0, none⟩) (n * 64) c (x * 64) (by omega) W) W) ?_
  simp only [Act.put, List.setIfInBounds_toArray, List.set_cons_zero, List.set_cons_succ]
  rw [if_neg (show ¬ c = x * 64 by omega), show (some (⟨ra, 0, none⟩ : Addr)).map (·.add (x * 64)) = some ⟨ra, x * 64, none⟩ by simp [Addr.add_mid]]
  refine made_val (.pointer (some ⟨w.heap.size, 1, none⟩)) (by kernel_rfl) (by kernel_rfl) (by kernel_rfl) (fun _ _ => by kernel_rfl) ?_
  simp only [Act.put, List.setIfInBounds_toArray, List.set_cons_zero, List.set_cons_succ]
  refine made_val (.slice (some ⟨q, 0, none⟩) 64 c2) (by kernel_rfl) (by kernel_rfl) (by kernel_rfl) (fun W hW => exec_load_slice (o := ⟨some 13, _, _, _, _, _⟩) 66 5 (.tmp 12) rfl ⟨w.heap.size, 1, none⟩ rfl _ W Try.underlying66 ((hW.cell (p := ⟨w.heap.size, 1, none⟩) hbx).trans (HBX.out.cell 1))) ?_
  simp only [Act.put, List.setIfInBounds_toArray, List.set_cons_zero, List.set_cons_succ]
  show ∀ w', _ → _
  intro w4 hb4
  simp only [ended]
  have hb4 : Below w1.heap.size w1 w4 := hb4
  have hB4 : Below w.heap.size w w4 := hB1.trans (Below.mono hb4 (by omega))
  have hcur4 := HUP.out.2.2.below hB4 hraw
  have hq4 : w4.ownsRow 0 5 1 (.slice (some ⟨q, 0, none⟩) 64 c2) 64 (bv b) := owned_keepN HUP.out.2.1 fun k _ hl => hB4.block k hl
  have hsrc : Src w4 (some ⟨q, 0, none⟩) 64 c2 (bv b) := by
    have h := hq4
    rw [show 64 = b.length from hb64.symm] at h ⊢
    exact owned_src0 h
  have hbl : (bv b).length = 64 := by rw [bvL, hb64]
  have hmin : (bv b).length = Nat.min 64 (n * 64 - x * 64) := by rw [hbl]; exact (Nat.min_eq_left (by omega)).symm
  refine wpList_copyS (o := ⟨some 14, _, _, _, _, _⟩) rfl (.tmp 11) (.tmp 13) 66 66 rfl 5 Try.underlying66 size5 ra (x * 64) (n * 64 - x * 64) (c - x * 64) (some ⟨q, 0, none⟩) 64 c2 cur 5 hcur4 (bv b) hmin hsrc (by rw [hbl]; omega) rfl rfl ?_
  intro w5 hb5 hg5
  have H5 := hide (And.intro hb5 (And.intro hg5 hB4))
  clear hb5 hg5 hcur4 hq4 hsrc hmin hB4 hb4
  simp only [Act.put, List.setIfInBounds_toArray, List.set_cons_zero, List.set_cons_succ]
  go_wp2_with fail
  go_end0
  refine ⟨rfl, ?_, (Turned.of_below H5.out.2.2 _).trans (Turned.of_grown H5.out.2.1 (fun k h _ => by injection h with h; exact h.symm))⟩
  rw [HKS.out]
  exact HUP.out.1 w5 (x * 64) (bv b) (by rw [hbl]; omega) H5.out.1
theorem wait_at (us : List (Int × Value)) (i : Nat) (u : Int × Value) (h : us[i]? = some u) : ((waitCells us).drop (i * 2)).take 2 = [.int .i64 u.1, u.2] := by
  unfold waitCells
  refine flat_at (s := 2) (us.map fun u => [.int .i64 u.1, u.2]) i [.int .i64 u.1, u.2] ?_ ?_
  · intro b hb
    obtain ⟨l, hl, rfl⟩ := List.mem_map.1 hb
    rfl
  · simp [h]
theorem sz_wait : (Try.prog.info? 228).map (·.size) = some 2 := by kernel_rfl
theorem RefBlk.slice {w : World} {F : Nat → Prop} {g ra c : Nat} {vw : Value} {us : List (Int × Value)} {D : Dv} (h : RefBlk w F g ra c vw us D) : ∃ A cp, vw = .slice A D.pend.length cp := by
  rcases owned_formN h.row with ⟨h, h0, _⟩ | ⟨r, cap, _, h, _⟩
  · exact ⟨none, 0, by rw [h, h0]⟩
  · exact ⟨_, cap, h⟩
/-- all that was pending has settled -/
theorem rleft_settled {w w' : World} {F : Nat → Prop} {g ra c : Nat} {vw : Value} {us : List (Int × Value)} {D : Dv} {K : List (List UInt8)} {de fu : Int} {dn : Bool} (h : RefBlk w F g ra c vw us D) (hl : K.length = D.kept.length) (hb : Blk w' g 179 (rdv (.slice (some ⟨ra, 0, none⟩) (D.kept.length * 64) c) (.slice none 0 0) de fu dn))
    (ha : w'.ownsRow 0 5 1 (.slice (some ⟨ra, 0, none⟩) (D.kept.length * 64) c) (D.kept.length * 64) (keptCells K)) (ht : Turned (fun k => k = g ∨ k = ra) w w') (hok : Dv.Ok { de := de, fu := fu, dn := dn, kept := K, pend := [] }) : RLeft w F g { de := de, fu := fu, dn := dn, kept := K, pend := [] } w' := by
  refine ⟨F, ⟨ra, c, .slice none 0 0, [], h.fg, h.fa, fun k hk => (by cases hk), fun k hf => Nat.lt_of_lt_of_le (h.flt k hf) ht.size, by rw [hl]; exact hb, by rw [hl]; exact ha, ⟨rfl, .inl ⟨rfl, rfl⟩⟩, ⟨rfl, fun i p hp => by simp at hp⟩, hok⟩, ht.mono fun k _ hk => ?_, fun _ h => .inl h⟩
  rcases hk with rfl | rfl
  · exact h.fg
  · exact h.fa
set_option maxHeartbeats 1000000 in
theorem rflush_any {D : Dv} {F : Nat → Prop} {g : Nat} (w : World) (h : RefAt w F g D) (hde : D.de ≤ 1000000000) (hm : D.pend.length ≤ 100000) :
    Calls Try.prog 134 #[.pointer (some ⟨g, 0, none⟩)] w fun e w' => e = .returned (.int .i64 D.flush.1) ∧ RLeft w F g D.flush.2 w' := by
  have h0 := h
  obtain ⟨ra, c, vw, us, hr⟩ := h
  obtain ⟨A, cp, rfl⟩ := hr.slice
  have hb := hr.blk
  have HR := hide (And.intro h0 hr)
  have hnk := hr.ok.n2
  clear h0
  cases hdn : D.dn with
  | true =>
    rw [show D.flush = (10, D) by simp [Dv.flush, hdn]]
    rw [hdn] at hb
    have c4 := (hb.cell 4).trans (rdv4 ..)
    have hlt := hb.lt
    clear hb hr
    go_enter Try.func134, Try.ntmps134
    go_wp2
    go_ret
    exact ⟨rfl, .same HR.out.1⟩
  | false =>
    rw [hdn] at hb
    have c4 := (hb.cell 4).trans (rdv4 ..)
    have hlt := hb.lt
    rcases tick_cases D.de D.fu with ⟨hf, ht⟩ | ⟨fu', ht, hf⟩
    · have ok' := hr.ok.ticked ht D.pend hr.ok.p64 true
      rw [show D.flush = (10, { D with de := D.de, fu := 0, dn := true }) by simp [Dv.flush, hdn, ht]]
      have HT := hide (And.intro ht (And.intro hr.ok.de hr.ok.fu))
      have HX := hide (And.intro ok' hb)
      clear ok' ht hb hr
      go_enter Try.func134, Try.ntmps134
      go_wp2_with fail
      refine (rdeed_any _ ⟨HT.out.2.1, hde⟩ HT.out.2.2 HX.out.2).mono ?_
      rintro e w1 ⟨rfl, hb1, hg1⟩
      rw [HT.out.1] at hb1 ⊢
      rw [show decide ((10 : Int) = 0) = false from rfl]
      dsimp only at hb1 ⊢
      have H1 := hide (And.intro hb1 hg1)
      clear hb1 hg1
      go_wp2_with fail
      go_ret
      have h2 := rleft_own HR.out.2 (D' := { D with de := D.de, fu := 0, dn := true }) H1.out.1 H1.out.2 rfl rfl HX.out.1
      exact ⟨rfl, F, ⟨_, _, _, _, h2.1⟩, h2.2, fun _ h => .inl h⟩
    · have ok' := hr.ok.settled (fun _ => true) false (show 0 ≤ D.de + 1 by have := hr.ok.de; omega) (show 0 ≤ fu' ∧ fu' ≤ 9223372036854775807 by have := hr.ok.fu; exact ⟨hf.1 this.1, by omega⟩)
      rw [show D.flush = (0, { de := D.de + 1, fu := fu', dn := false, kept := settleL (fun _ => true) 0 D.pend D.kept, pend := [] }) by simp [Dv.flush, hdn, ht]]
      have HT := hide (And.intro ht (And.intro hr.ok.de hr.ok.fu))
      have HX := hide (And.intro ok' hb)
      clear ok' ht hb hr
      go_enter Try.func134, Try.ntmps134
      go_wp2_with fail
      refine (rdeed_any _ ⟨HT.out.2.1, hde⟩ HT.out.2.2 HX.out.2).mono ?_
      rintro e w1 ⟨rfl, hb1, hg1⟩
      rw [HT.out.1] at hb1 ⊢
      rw [show decide ((0 : Int) = 0) = true from rfl]
      dsimp only at hb1 ⊢
      have hne1 : ∀ {n s : Nat} {e : TypeId} {v : Value} {xs : List Value}, w.ownsRow 0 e s v n xs → e ≠ 179 → w1.ownsRow 0 e s v n xs := fun h2 he => owned_keepN h2 fun k hv hl => hg1.block k hl (fun e' => owned_neN h2 HR.out.2.blk he (by rw [hv, e']))
      have ha1 := hne1 HR.out.2.all (by decide)
      have hw1 := hne1 HR.out.2.row (by decide)
      have hq1 : ∀ (i : Nat) (p : Int × List UInt8), D.pend[i]? = some p → ∃ q c, us[i]? = some (p.1, .slice (some ⟨q, 0, none⟩) 64 c) ∧ q ≠ ra ∧ w1.ownsRow 0 5 1 (.slice (some ⟨q, 0, none⟩) 64 c) 64 (bv p.2) := fun i p hp => by
        obtain ⟨q, c, h1, _, h3, h4⟩ := HR.out.2.wts.2 i p hp
        exact ⟨q, c, h1, h3, hne1 h4 (by decide)⟩
      have hgr : g ≠ ra := fun e => owned_neN HR.out.2.all HR.out.2.blk (by decide) (by rw [e]; rfl)
      have hlt1 := hb1.lt
      have H1 := hide (And.intro (And.intro hb1 hg1) (And.intro ha1 (And.intro hw1 (And.intro hq1 hgr))))
      clear hb1 hg1 hne1 ha1 hw1 hq1 hgr
      go_wp2_with fail
      go_loopw [3] (fun v wr => ∃ i : Nat, i ≤ D.pend.length ∧ v = .int .i64 (i : Int) ∧ wr.ownsRow 0 5 1 (.slice (some ⟨ra, 0, none⟩) (D.kept.length * 64) c) (D.kept.length * 64) (keptCells (settleL (fun _ => true) 0 (D.pend.take i) D.kept)) ∧ Turned (fun k => k = ra) w1 wr) (fun v _ => D.pend.length - (intOf v).toNat)
      case atStart => exact ⟨0, by omega, rfl, by simpa [settleL] using H1.out.2.1, Turned.refl _ _⟩
      case round =>
        obtain ⟨i, hi, rfl, ha, ht⟩ := hrel
        have hgb : Blk wr g 179 (rdv (.slice (some ⟨ra, 0, none⟩) (D.kept.length * 64) c) (.slice A D.pend.length cp) (D.de + 1) fu' false) := (ht.block g hlt1 H1.out.2.2.2.2).trans H1.out.1.1
        have c1 := (hgb.cell 1).trans (rdv1 ..)
        have f1 := hgb.frozen 1
        have hltr := hgb.lt
        have HW := hide (And.intro ha (And.intro ht hgb))
        clear ha ht hgb
        by_cases hil : i < D.pend.length
        · have i1 : (i : Int) < (D.pend.length : Int) := by omega
          have i0 : (0 : Int) ≤ (i : Int) := by omega
          obtain ⟨rw_, cap', hvp⟩ := owned_placeN H1.out.2.2.1 (by omega)
          injection hvp with e1 _ e2
          subst e1 e2
          obtain ⟨⟨x0, b⟩, hpj⟩ : ∃ p, D.pend[i]? = some p := ⟨D.pend[i]'hil, List.getElem?_eq_getElem _⟩
          have hpo := HR.out.2.ok.p64 _ (List.mem_of_getElem? hpj)
          obtain ⟨x, rfl⟩ : ∃ x : Nat, x0 = (x : Int) := ⟨x0.toNat, by have := hpo.2.1; dsimp only at this; omega⟩
          have hx : x < D.kept.length := by have := hpo.2.2; dsimp only at this; omega
          have hb64 : b.length = 64 := hpo.1
          obtain ⟨q, c2, hu, hqr, hqo⟩ := H1.out.2.2.2.1 i _ hpj
          have hwr : wr.ownsRow 0 228 2 (.slice (some ⟨rw_, 0, none⟩) D.pend.length cp) D.pend.length (waitCells us) := owned_keepN H1.out.2.2.1 fun k hv hl => HW.out.2.1.block k hl (fun e => by
            have hv : some rw_ = some k := hv
            injection hv with hv
            exact owned_ne2 H1.out.2.2.1 H1.out.2.1 (by decide) rfl rfl (by rw [hv, e]))
          have hrange : wr.rangeAt rw_ (i * 2) [.int .i64 (x : Int), .slice (some ⟨q, 0, none⟩) 64 c2] := own_range hwr (i * 2) 2 _ (wait_at us i _ hu)
          have hqw : wr.ownsRow 0 5 1 (.slice (some ⟨q, 0, none⟩) 64 c2) 64 (bv b) := owned_keepN hqo fun k hv hl => HW.out.2.1.block k hl (fun e => by
            have hv : some q = some k := hv
            injection hv with hv
            exact hqr (by rw [hv, e]))
          have cw0 : wr.cell? ⟨rw_, i * 2, none⟩ = some (.int .i64 (x : Int)) := hrange 0 _ rfl
          have cw1 : wr.cell? ⟨rw_, i * 2 + 1, none⟩ = some (.slice (some ⟨q, 0, none⟩) 64 c2) := hrange 1 _ rfl
          have HRA := hide hqw
          have HP := hide hpj
          clear hrange hqw hwr hqo hu hpj hpo
          go_wp2_with fail
          have hKl : (settleL (fun _ => true) 0 (D.pend.take i) D.kept).length = D.kept.length := settle_len ..
          have hKa : ∀ b ∈ settleL (fun _ => true) 0 (D.pend.take i) D.kept, b.length = 64 := settle_all _ _ _ _ (fun p hp => (HR.out.2.ok.p64 p (List.mem_of_mem_take hp)).1) HR.out.2.ok.k64
          refine (rkeep_any _ x b wr hnk hKl hKa hx hb64 HW.out.2.2 HW.out.1 HRA.out).mono ?_
          rintro e w2 ⟨rfl, ha2, ht2⟩
          have H2 := hide (And.intro ha2 (HW.out.2.1.trans ht2))
          clear ha2 ht2 hKl hKa
          dsimp only
          go_wp2_with fail
          go_roundw
          case rel =>
            refine ⟨i + 1, by omega, by go_num, ?_, H2.out.2⟩
            rw [settle_take _ _ _ i _ HP.out, if_pos rfl]
            exact H2.out.1
          case measure => simp [intOf]; omega
        · obtain rfl : i = D.pend.length := by omega
          go_wp2_with fail
          go_ret
          have hb5 := HW.out.2.2.set_ 1 (.slice none 0 0)
          rw [rdv_set1] at hb5
          have ha5 := HW.out.1
          rw [List.take_length] at ha5
          refine ⟨rfl, rleft_settled HR.out.2 (settle_len ..) hb5 (owned_keepN ha5 fun k hk _ => Below.heap_setCell wr ⟨g, 1, none⟩ _ k (fun e => ?_)) ?_ HX.out.1⟩
          · have hk : some ra = some k := hk
            injection hk with hk
            have e : k = g := e
            exact H1.out.2.2.2.2 (by rw [hk, e])
          · exact (((Turned.of_grown (S := fun k => k = g ∨ k = ra) H1.out.1.2 (fun k h _ => .inl (by injection h with h; exact h.symm))).trans (HW.out.2.1.mono fun _ _ h => .inr h))).setCell (fun _ => .inl rfl) _
set_option maxHeartbeats 1000000 in
theorem rwake_any {D : Dv} {F : Nat → Prop} {g : Nat} (z : Int) (hz : -9223372036854775808 ≤ z ∧ z ≤ 9223372036854775807) (w : World) (h : RefAt w F g D) (hm : D.pend.length ≤ 100000) :
    Calls Try.prog 88 #[.pointer (some ⟨g, 0, none⟩), .int .i64 z] w fun e w' => e = .returned (.int .i64 (D.wake z).1) ∧ RLeft w F g (D.wake z).2 w' := by
  have h0 := h
  obtain ⟨ra, c, vw, us, hr⟩ := h
  obtain ⟨A, cp, rfl⟩ := hr.slice
  have hb := hr.blk
  have HR := hide (And.intro h0 hr)
  have hnk := hr.ok.n2
  clear h0
  cases hdn : D.dn with
  | false =>
    rw [show D.wake z = (15, D) by simp [Dv.wake, hdn]]
    rw [hdn] at hb
    have c4 := (hb.cell 4).trans (rdv4 ..)
    have hlt := hb.lt
    clear hb hr
    go_enter Try.func88, Try.ntmps88
    go_wp2
    go_ret
    exact ⟨rfl, .same HR.out.1⟩
  | true =>
    rw [hdn] at hb
    have c4 := (hb.cell 4).trans (rdv4 ..)
    have hlt1 := hb.lt
    have ok' := hr.ok.settled (wakeB (IntKind.u64.wrap z)) false hr.ok.de (show 0 ≤ (0 : Int) ∧ (0 : Int) ≤ 9223372036854775807 by omega)
    rw [show D.wake z = (0, { de := D.de, fu := 0, dn := false, kept := settleL (wakeB (IntKind.u64.wrap z)) 0 D.pend D.kept, pend := [] }) by simp [Dv.wake, hdn]]
    have hgr : g ≠ ra := fun e => owned_neN hr.all hb (by decide) (by rw [e]; rfl)
    have HX := hide ok'
    have H1 := hide (And.intro hb hgr)
    have z1 := hz.1
    have z2 := hz.2
    clear ok' hb hr hgr hz
    go_enter Try.func88, Try.ntmps88
    go_wp2_with fail
    go_loopw [5] (fun v wr => ∃ i : Nat, i ≤ D.pend.length ∧ v = .int .i64 (i : Int) ∧ wr.ownsRow 0 5 1 (.slice (some ⟨ra, 0, none⟩) (D.kept.length * 64) c) (D.kept.length * 64) (keptCells (settleL (wakeB (IntKind.u64.wrap z)) 0 (D.pend.take i) D.kept)) ∧ Turned (fun k => k = ra) w wr) (fun v _ => D.pend.length - (intOf v).toNat)
    case atStart => exact ⟨0, by omega, rfl, by simpa [settleL] using HR.out.2.all, Turned.refl _ _⟩
    case round =>
      obtain ⟨i, hi, rfl, ha, ht⟩ := hrel
      have hgb : Blk wr g 179 (rdv (.slice (some ⟨ra, 0, none⟩) (D.kept.length * 64) c) (.slice A D.pend.length cp) D.de D.fu true) := (ht.block g hlt1 H1.out.2).trans H1.out.1
      have c1 := (hgb.cell 1).trans (rdv1 ..)
      have f1 := hgb.frozen 1
      have f3 := hgb.frozen 3
      have f4 := hgb.frozen 4
      have c3 := (hgb.cell 3).trans (rdv3 ..)
      have c4 := (hgb.cell 4).trans (rdv4 ..)
      have hltr := hgb.lt
      have HW := hide (And.intro ha (And.intro ht hgb))
      clear ha ht hgb
      by_cases hil : i < D.pend.length
      · have i1 : (i : Int) < (D.pend.length : Int) := by omega
        have i0 : (0 : Int) ≤ (i : Int) := by omega
        have hi9 : i ≤ 100000 := by omega
        have hbit := wake_bit z (i % 62) (Nat.mod_lt _ (by omega))
        cases hwk : wakeB (IntKind.u64.wrap z) i with
        | true =>
          have hbt : (bits .and .i64 (z / 2 ^ (i % 62)) 1 == 1) = true := hbit.trans hwk
          have HWK := hide hwk
          clear hbit hwk
          obtain ⟨rw_, cap', hvp⟩ := owned_placeN HR.out.2.row (by omega)
          injection hvp with e1 _ e2
          subst e1 e2
          obtain ⟨⟨x0, b⟩, hpj⟩ : ∃ p, D.pend[i]? = some p := ⟨D.pend[i]'hil, List.getElem?_eq_getElem _⟩
          have hpo := HR.out.2.ok.p64 _ (List.mem_of_getElem? hpj)
          obtain ⟨x, rfl⟩ : ∃ x : Nat, x0 = (x : Int) := ⟨x0.toNat, by have := hpo.2.1; dsimp only at this; omega⟩
          have hx : x < D.kept.length := by have := hpo.2.2; dsimp only at this; omega
          have hb64 : b.length = 64 := hpo.1
          obtain ⟨q, c2, hu, _, hqr, hqo⟩ := HR.out.2.wts.2 i _ hpj
          have hwr : wr.ownsRow 0 228 2 (.slice (some ⟨rw_, 0, none⟩) D.pend.length cp) D.pend.length (waitCells us) := owned_keepN HR.out.2.row fun k hv hl => HW.out.2.1.block k hl (fun e => by
            have hv : some rw_ = some k := hv
            injection hv with hv
            exact owned_ne2 HR.out.2.row HR.out.2.all (by decide) rfl rfl (by rw [hv, e]))
          have hrange : wr.rangeAt rw_ (i * 2) [.int .i64 (x : Int), .slice (some ⟨q, 0, none⟩) 64 c2] := own_range hwr (i * 2) 2 _ (wait_at us i _ hu)
          have hqw : wr.ownsRow 0 5 1 (.slice (some ⟨q, 0, none⟩) 64 c2) 64 (bv b) := owned_keepN hqo fun k hv hl => HW.out.2.1.block k hl (fun e => by
            have hv : some q = some k := hv
            injection hv with hv
            exact hqr (by rw [hv, e]))
          have cw0 : wr.cell? ⟨rw_, i * 2, none⟩ = some (.int .i64 (x : Int)) := hrange 0 _ rfl
          have cw1 : wr.cell? ⟨rw_, i * 2 + 1, none⟩ = some (.slice (some ⟨q, 0, none⟩) 64 c2) := hrange 1 _ rfl
          have HRA := hide hqw
          have HP := hide hpj
          clear hrange hqw hwr hqo hu hpj hpo
          go_wp2_with fail
          have hKl : (settleL (wakeB (IntKind.u64.wrap z)) 0 (D.pend.take i) D.kept).length = D.kept.length := settle_len ..
          have hKa : ∀ b ∈ settleL (wakeB (IntKind.u64.wrap z)) 0 (D.pend.take i) D.kept, b.length = 64 := settle_all _ _ _ _ (fun p hp => (HR.out.2.ok.p64 p (List.mem_of_mem_take hp)).1) HR.out.2.ok.k64
          refine (rkeep_any _ x b wr hnk hKl hKa hx hb64 HW.out.2.2 HW.out.1 HRA.out).mono ?_
          rintro e w2 ⟨rfl, ha2, ht2⟩
          have H2 := hide (And.intro ha2 (HW.out.2.1.trans ht2))
          clear ha2 ht2 hKl hKa
          dsimp only
          go_wp2_with fail
          go_roundw
          case rel =>
            refine ⟨i + 1, by omega, by go_num, ?_, H2.out.2⟩
            rw [settle_take _ _ _ i _ HP.out, if_pos HWK.out]
            exact H2.out.1
          case measure => simp [intOf]; omega
        | false =>
          have hbt : (bits .and .i64 (z / 2 ^ (i % 62)) 1 == 1) = false := hbit.trans hwk
          obtain ⟨p, hpj⟩ : ∃ p, D.pend[i]? = some p := ⟨D.pend[i]'hil, List.getElem?_eq_getElem _⟩
          have HP := hide hpj
          have HWK := hide hwk
          clear hbit hwk hpj
          go_wp2_with fail
          go_roundw
          case rel =>
            refine ⟨i + 1, by omega, by go_num, ?_, HW.out.2.1⟩
            rw [settle_take _ _ _ i _ HP.out, HWK.out, if_neg (by simp)]
            exact HW.out.1
          case measure => simp [intOf]; omega
      · obtain rfl : i = D.pend.length := by omega
        go_wp2_with fail
        go_ret
        have hb5 := ((HW.out.2.2.set_ 1 (.slice none 0 0)).set_ 3 (.int .i64 0)).set_ 4 (.bool false)
        rw [rdv_set1, rdv_set3, rdv_set4] at hb5
        have ha5 := HW.out.1
        rw [List.take_length] at ha5
        refine ⟨rfl, rleft_settled HR.out.2 (settle_len ..) hb5 (owned_keepN ha5 fun k hk _ => ?_) ?_ HX.out⟩
        · have hk : some ra = some k := hk
          injection hk with hk
          have hkg : k ≠ g := fun e => H1.out.2 (by rw [hk, e])
          rw [Below.heap_setCell _ ⟨g, 4, none⟩ _ k hkg, Below.heap_setCell _ ⟨g, 3, none⟩ _ k hkg, Below.heap_setCell _ ⟨g, 1, none⟩ _ k hkg]
        · exact (((HW.out.2.1.mono (T := fun k => k = g ∨ k = ra) fun _ _ h => .inr h).setCell (p := ⟨g, 1, none⟩) (fun _ => .inl rfl) _).setCell (p := ⟨g, 3, none⟩) (fun _ => .inl rfl) _).setCell (p := ⟨g, 4, none⟩) (fun _ => .inl rfl) _
end Go.Proofs.Ytfppddnfdinipaa
end
section
namespace Go.Proofs.Ytfppddnfdinipaa
open Go Go.RowKit
theorem info_wait : (Try.prog.info? 228).map (fun i => (i.zero, i.size, i.bytes)) = some (some (.agg #[.int .i64 0, .slice none 0 0]), 2, 32) := by kernel_rfl
theorem wait_snoc (us : List (Int × Value)) (x : Int) (v : Value) : waitCells (us ++ [(x, v)]) = waitCells us ++ [.int .i64 x, v] := by simp [waitCells]
set_option maxRecDepth 100000
set_option maxHeartbeats 1000000 in
theorem rwrite_ok {D : Dv} {F : Nat → Prop} {g ra c : Nat} {vw : Value} {us : List (Int × Value)} {fu' : Int} (x : Int) (l : List UInt8) (A : Option Addr) (cap : Nat) (w : World) (hr : RefBlk w F g ra c vw us D) (hdn : D.dn = false) (hde : D.de ≤ 1000000000) (hm : D.pend.length ≤ 100000)
    (ht : tick D.de D.fu false = (0, D.de + 1, fu', false)) (hf : 0 ≤ fu' ∧ fu' ≤ 9223372036854775807) (hx : 0 ≤ x ∧ x < (D.kept.length : Int)) (hl : l.length ≤ 64) (hs : Src w A l.length cap (bv l)) (hsb : ∀ ad, A = some ad → 0 < l.length → ¬ F ad.block) :
    Calls Try.prog 133 #[.pointer (some ⟨g, 0, none⟩), .int .i64 x, .slice A l.length cap] w fun e w' => e = .returned (.int .i64 0) ∧ RLeft w F g { D with de := D.de + 1, fu := fu', dn := false, pend := D.pend ++ [(x, pad l)] } w' := by
  obtain ⟨i8, hi8, hz80, hz81, hz82⟩ := info_parts info_1
  obtain ⟨iw, hiw, hzw0, hzw1, hzw2⟩ := info_parts info_wait
  have hb := hr.blk
  rw [hdn] at hb
  have c4 := (hb.cell 4).trans (rdv4 ..)
  have hlt := hb.lt
  have hnk := hr.ok.n2
  have hx1 := hx.1
  have hx2 := hx.2
  have hl64 : ¬ (64 : Int) < (l.length : Int) := by omega
  have HR := hide (And.intro hr (And.intro hb (And.intro hs hsb)))
  have HT := hide (And.intro ht (And.intro hr.ok.de hr.ok.fu))
  have HF := hide (And.intro hf hdn)
  clear hb hr hs hsb ht hf hdn
  go_enter Try.func133, Try.ntmps133
  go_wp2_with fail
  refine (rsectors_any _ hnk HR.out.2.1).mono ?_
  rintro e w' ⟨rfl, rfl⟩
  dsimp only
  go_wp2_with fail
  refine (rdeed_any _ ⟨HT.out.2.1, hde⟩ HT.out.2.2 HR.out.2.1).mono ?_
  rintro e w1 ⟨rfl, hb1, hg1⟩
  rw [HT.out.1] at hb1 ⊢
  rw [show decide ((0 : Int) = 0) = true from rfl]
  dsimp only at hb1 ⊢
  have hs1 : Src w1 A l.length cap (bv l) := HR.out.2.2.1.turned2 (Turned.of_grown (S := (· = g)) hg1 (fun k h _ => by injection h with h; exact h.symm)) (fun ad ha h0 e => HR.out.2.2.2 ad ha h0 (by rw [show ad.block = g from e]; exact HR.out.1.fg))
  have H1 := hide (And.intro hb1 (And.intro hg1 hs1))
  have hlt1 := hb1.lt
  clear hb1 hg1 hs1
  go_wp2_with (at_make; refine wpList_make_full _ rfl _ _ 66 rfl w1.heap.size 5 i8 (.int .u8 0) 1 Try.underlying66 hi8 hz80 hz81 _ _ _ _ 64 rfl rfl ?e0 ?e1 ?e2 ?e3 ?e4 ?_)
  case e0 => rfl
  case e1 => rfl
  case e2 => rw [hz82]; omega
  case e3 => simp only [maxLen]; omega
  case e4 => exact Nat.le_refl _
  intro w2 own2 gr2
  rw [made_bv] at own2
  have own2 : w2.ownsRow w1.heap.size 5 1 (.slice (some ⟨w1.heap.size, 0, none⟩) 64 64) 64 (bv (List.replicate 64 0)) := own2
  have hb2 := (own_blk own2).1
  have hB2 : Below w1.heap.size w1 w2 := (Below.refl _ _).grown gr2 (Nat.le_refl _) (by intro k hk; cases hk)
  have hs2 : Src w2 A l.length cap (bv l) := H1.out.2.2.turned2 (Turned.of_below hB2 (fun _ => False)) (fun _ _ _ h => h)
  have HL : Hid ((bv l).length = Nat.min l.length 64) := hide (by rw [bvL]; exact (Nat.min_eq_left hl).symm)
  have HFT : Hid (0 + (bv l).length ≤ (bv (List.replicate 64 0)).toArray.size) := hide (by rw [bvL]; simp [bv]; omega)
  have H2 := hide (And.intro hb2 (And.intro hB2 hs2))
  clear hb2 hB2 hs2 own2 gr2
  have hpre : ∀ w3 : World, w2.grownBy w3 (some w1.heap.size) → Blk w3 g 179 (rdv (.slice (some ⟨ra, 0, none⟩) (D.kept.length * 64) c) vw (D.de + 1) fu' false) ∧
      ∃ k5 cap5 w5, (Builtin.append_ #[177, 177] 177 #[vw, .slice (some ⟨w3.heap.size, 0, none⟩) 1 1]).run Try.prog (w3.alloc (.cells #[.int .i64 x, .slice (some ⟨w1.heap.size, 0, none⟩) 64 64] 228)) = .ok (.slice (some ⟨k5, 0, none⟩) (D.pend.length + 1) cap5) w5 ∧
        w5.ownsRow 0 228 2 (.slice (some ⟨k5, 0, none⟩) (D.pend.length + 1) cap5) (D.pend.length + 1) (waitCells us ++ [.int .i64 x, .slice (some ⟨w1.heap.size, 0, none⟩) 64 64]) ∧ (w3.alloc (.cells #[.int .i64 x, .slice (some ⟨w1.heap.size, 0, none⟩) 64 64] 228)).grownBy w5 vw.ownBlock ∧
        (vw.ownBlock = some k5 ∨ k5 = w3.heap.size + 1) ∧ Blk w5 g 179 (rdv (.slice (some ⟨ra, 0, none⟩) (D.kept.length * 64) c) vw (D.de + 1) fu' false) := by
    intro w3 hg3
    have hs12 : w1.heap.size ≤ w2.heap.size := H2.out.2.1.size
    have hs23 := hg3.size
    have hdv2 := H1.out.1.below H2.out.2.1 hlt1
    have hdv3 : Blk w3 g 179 (rdv (.slice (some ⟨ra, 0, none⟩) (D.kept.length * 64) c) vw (D.de + 1) fu' false) := hdv2.grown hg3 (fun e => by injection e with e; omega)
    have hvg : vw.ownBlock ≠ some g := owned_neN HR.out.1.row HR.out.2.1 (by decide)
    have ho3 : w3.ownsRow 0 228 2 vw D.pend.length (waitCells us) := owned_keepN HR.out.1.row fun k hk hl => by
      have h1 := H1.out.2.1.size
      exact ((hg3.block k (by omega) (fun e => by injection e with e; omega)).trans (H2.out.2.1.block k (by omega))).trans (H1.out.2.1.block k hl (fun e => hvg (by rw [hk, e])))
    have ho4 : (w3.alloc (.cells #[.int .i64 x, .slice (some ⟨w1.heap.size, 0, none⟩) 64 64] 228)).ownsRow 0 228 2 vw D.pend.length (waitCells us) := owned_keepN ho3 fun k _ hl => Below.heap_alloc _ _ k hl
    obtain ⟨v5, w5, h1, h2, h3, h4⟩ := run_appG (P := Try.prog) (w := w3.alloc (.cells #[.int .i64 x, .slice (some ⟨w1.heap.size, 0, none⟩) 64 64] 228)) 0 177 177 228 iw _ 2 32 Try.underlying177 hiw hzw0 hzw1 hzw2 rfl (by omega) vw D.pend.length (waitCells us) ho4 ⟨w3.heap.size, 0, none⟩ 1 1 [.int .i64 x, .slice (some ⟨w1.heap.size, 0, none⟩) 64 64] rfl (MadeRow.cells (l := [.int .i64 x, .slice (some ⟨w1.heap.size, 0, none⟩) 64 64]) (Blk.new w3 _ _)) (by simp [Value.oneCell']) (by omega) (by simp only [maxLen]; omega) (by omega) (Nat.zero_le _)
    obtain ⟨k5, cap5, hv5⟩ := owned_placeN h2 (by omega)
    subst hv5
    refine ⟨hdv3, k5, cap5, w5, h1, h2, h3, ?_, (hdv3.alloc _).grown h3 (fun e => hvg e.symm)⟩
    rcases h4 with ⟨g', cap', e1, e2⟩ | ⟨e1, _⟩
    · injection e2 with e2
      injection e2 with e2
      injection e2 with e2
      rw [e1, e2]
      exact .inl rfl
    · have e1 : some k5 = some _ := e1
      injection e1 with e1
      rw [size_alloc] at e1
      exact .inr e1
  have HPRE := hide hpre
  clear hpre
  go_wp2_with (first
    | ((with_reducible refine wpList_copyS (o := ⟨some 31, _, _, _, _, _⟩) rfl (.tmp 29) (.tmp 30) 66 66 rfl 5 Try.underlying66 size5 w1.heap.size 0 64 64 A l.length cap (bv (List.replicate 64 0)).toArray 5 H2.out.1 (bv l) HL.out H2.out.2.2 HFT.out ?_ ?_ ?_); rfl; rfl; intro w3 h3 hg3; obtain ⟨hdv3, k5, cap5, w5, h5, ho5, hg5, hx5, hdv5⟩ := HPRE.out w3 hg3; have H3 := hide (And.intro h3 hg3); have H5 := hide (And.intro ho5 (And.intro hg5 (And.intro hx5 hdv5))); have c1w := (hdv3.cell 1).trans (rdv1 _ _ _ _ _); have c1x := (hdv5.cell 1).trans (rdv1 _ _ _ _ _); have f1x := hdv5.frozen 1; have hltx := hdv5.lt; have hlt3 := hdv3.lt; clear h3 hg3 ho5 hg5 hx5 hdv5 hdv3; dsimp only [Act.put, List.setIfInBounds_toArray, List.set_cons_zero, List.set_cons_succ])
    | (at_builtin; (refine wpList_value (o := ⟨some 41, _, _, _, _, _⟩) rfl (.slice (some ⟨k5, 0, none⟩) (D.pend.length + 1) cap5) w5 (exec_append (o := ⟨some 41, _, _, _, _, _⟩) (.tmp 36) (.tmp 40) 177 rfl vw (.slice (some ⟨w3.heap.size, 0, none⟩) 1 1) _ _ _ rfl rfl h5) ?_); dsimp only [Act.put, List.setIfInBounds_toArray, List.set_cons_zero, List.set_cons_succ]))
  go_ret
  obtain ⟨h3, hg3⟩ := H3.out
  rw [pad_copy l] at h3
  obtain ⟨ho5, hg5, hx5, hdv5⟩ := H5.out
  have hr := HR.out.1
  have hs1 := H1.out.2.1.size
  have hs2 := H2.out.2.1.size
  have hs3 := hg3.size
  have hs5 := hg5.size
  rw [size_alloc] at hs5
  have hT5 : Turned (fun k => k = g ∨ vw.ownBlock = some k) w' w5 := ((((Turned.of_grown (S := fun k => k = g ∨ vw.ownBlock = some k) H1.out.2.1 (fun k h _ => .inl (by injection h with h; exact h.symm))).trans (Turned.of_below H2.out.2.1 _)).then_ (Turned.of_grown (S := (· = w1.heap.size)) hg3 (fun k h _ => by injection h with h; exact h.symm)) (fun k hk h => by
    have h : k = w1.heap.size := h
    omega)).alloc _).then_ (Turned.of_grown (S := fun k => vw.ownBlock = some k) hg5 (fun k h _ => h)) (fun k _ h => .inr h)
  have hT6 := hT5.setCell (p := ⟨g, 1, none⟩) (fun _ => .inl rfl) (.slice (some ⟨k5, 0, none⟩) (D.pend.length + 1) cap5)
  obtain ⟨w6, hw6⟩ : ∃ w6, w6 = w5.setCell ⟨g, 1, none⟩ (.slice (some ⟨k5, 0, none⟩) (D.pend.length + 1) cap5) := ⟨_, rfl⟩
  have hb6 := hdv5.set_ 1 (.slice (some ⟨k5, 0, none⟩) (D.pend.length + 1) cap5)
  rw [rdv_set1] at hb6
  have hset : ∀ k, k ≠ g → w6.heap[k]? = w5.heap[k]? := fun k hk => by rw [hw6]; exact Below.heap_setCell w5 ⟨g, 1, none⟩ _ k hk
  have hs6 : w6.heap.size = w5.heap.size := by rw [hw6]; simp [World.setCell]
  rw [← hw6] at hT6 hb6 ⊢
  have hp8 : ∀ {n s : Nat} {v : Value} {xs : List Value}, w'.ownsRow 0 5 s v n xs → w6.ownsRow 0 5 s v n xs := fun h2 => owned_keepN h2 fun k hv hl => hT6.block k hl (fun e => by
    rcases e with e | e
    · exact owned_neN h2 hr.blk (by decide) (by rw [hv, e])
    · exact owned_ne2 hr.row h2 (by decide) e hv rfl)
  have hkg : k5 ≠ g := fun e => owned_neN ho5 hdv5 (by decide) (by rw [← e]; rfl)
  have hrow : w6.ownsRow 0 228 2 (.slice (some ⟨k5, 0, none⟩) (D.pend.length + 1) cap5) (D.pend.length + 1) (waitCells us ++ [.int .i64 x, .slice (some ⟨w1.heap.size, 0, none⟩) 64 64]) := owned_keepN ho5 fun k hv _ => hset k (by
    have hv : some k5 = some k := hv
    injection hv with hv
    rw [← hv]
    exact hkg)
  have hvlt : ∀ k, vw.ownBlock = some k → k < w'.heap.size := fun k hk => (owned_ltN hr.row hk).2
  have hglt : g < w'.heap.size := hr.blk.lt
  have hq6 : Blk w6 w1.heap.size 5 (bv (pad l)).toArray := by
    refine (hset _ (by omega)).trans (((hg5.block w1.heap.size (by rw [size_alloc]; have := h3.lt; omega) (fun e => ?_)).trans (Below.heap_alloc _ _ _ h3.lt)).trans h3)
    have := hvlt _ e.symm
    omega
  have hpl : (bv (pad l)).length = 64 := by rw [bvL, pad_len l hl]
  refine ⟨rfl, fun k => F k ∨ (w'.heap.size ≤ k ∧ k < w6.heap.size), ⟨ra, c, .slice (some ⟨k5, 0, none⟩) (D.pend.length + 1) cap5, us ++ [(x, .slice (some ⟨w1.heap.size, 0, none⟩) 64 64)], .inl hr.fg, .inl hr.fa, fun k hk => ?_, fun k hk => ?_, hb6, hp8 hr.all, ?_, ?_, ?_⟩, hT6.mono fun k _ hk => ?_, fun k hk => ?_⟩
  · have hk : some k5 = some k := hk
    injection hk with hk
    subst hk
    rcases hx5 with h | h
    · exact .inl (hr.fw _ h)
    · refine .inr ⟨by omega, ?_⟩
      have := (owned_ltN hrow (g := k5) rfl).2
      exact this
  · rcases hk with hk | hk
    · have := hr.flt k hk
      omega
    · exact hk.2
  · show w6.ownsRow 0 228 2 _ (D.pend ++ [(x, pad l)]).length (waitCells (us ++ [(x, .slice (some ⟨w1.heap.size, 0, none⟩) 64 64)]))
    rw [wait_snoc, List.length_append]
    exact hrow
  · refine ⟨by simp [hr.wts.1], fun i p hp => ?_⟩
    rcases Nat.lt_or_ge i D.pend.length with hi | hi
    · have hp2 : D.pend[i]? = some p := by
        have hp : (D.pend ++ [(x, pad l)])[i]? = some p := hp
        rwa [List.getElem?_append_left hi] at hp
      obtain ⟨q, c2, e1, e2, e3, e4⟩ := hr.wts.2 i p hp2
      exact ⟨q, c2, by rw [List.getElem?_append_left (by rw [hr.wts.1]; exact hi)]; exact e1, .inl e2, e3, hp8 e4⟩
    · have hp : (D.pend ++ [(x, pad l)])[i]? = some p := hp
      rw [List.getElem?_append_right hi] at hp
      have hi0 : i - D.pend.length = 0 := by
        have := (List.getElem?_eq_some_iff.1 hp).1
        simp at this
        omega
      rw [hi0] at hp
      simp only [List.getElem?_cons_zero, Option.some.injEq] at hp
      subst hp
      refine ⟨w1.heap.size, 64, ?_, .inr ⟨by omega, by rw [hs6]; have := h3.lt; omega⟩, fun e => by have := (owned_ltN hr.all (g := ra) rfl).2; omega, blk_own hq6 (Nat.zero_le _) hpl (by simp only [maxLen]; omega)⟩
      rw [List.getElem?_append_right (by rw [hr.wts.1]; exact hi), hr.wts.1, hi0]
      rfl
  · have hok := hr.ok
    refine ⟨hok.n1, hok.n2, hok.k64, fun q hq => ?_, by show 0 ≤ D.de + 1; have := hok.de; omega, HF.out.1⟩
    rcases List.mem_append.1 hq with hq | hq
    · exact hok.p64 q hq
    · rw [List.mem_singleton.1 hq]
      exact ⟨pad_len l hl, hx1, hx2⟩
  · rcases hk with hk | hk
    · rw [hk]; exact hr.fg
    · exact hr.fw k hk
  · rcases hk with hk | hk
    · exact .inl hk
    · exact .inr hk.1
set_option maxHeartbeats 1000000 in
theorem rwrite_any {D : Dv} {F : Nat → Prop} {g : Nat} (x : Int) (l : List UInt8) (A : Option Addr) (cap : Nat) (w : World) (h : RefAt w F g D) (hde : D.de ≤ 1000000000) (hm : D.pend.length ≤ 100000) (hx : -9223372036854775808 ≤ x ∧ x ≤ 9223372036854775807) (hl : l.length ≤ 1000000000)
    (hs : Src w A l.length cap (bv l)) (hsb : ∀ ad, A = some ad → 0 < l.length → ¬ F ad.block) :
    Calls Try.prog 133 #[.pointer (some ⟨g, 0, none⟩), .int .i64 x, .slice A l.length cap] w fun e w' => e = .returned (.int .i64 (D.write x l).1) ∧ RLeft w F g (D.write x l).2 w' := by
  have h0 := h
  obtain ⟨ra, c, vw, us, hr⟩ := h
  have hb := hr.blk
  have hnk := hr.ok.n2
  have HR := hide (And.intro h0 (And.intro hr hb))
  clear h0
  have hx1 := hx.1
  have hx2 := hx.2
  cases hdn : D.dn with
  | true =>
    rw [show D.write x l = (10, D) by simp [Dv.write, hdn]]
    rw [hdn] at hb
    have c4 := (hb.cell 4).trans (rdv4 ..)
    have hlt := hb.lt
    clear hb hr hs hsb
    go_enter Try.func133, Try.ntmps133
    go_wp2
    go_ret
    exact ⟨rfl, .same HR.out.1⟩
  | false =>
    by_cases hin : 0 ≤ x ∧ x < (D.kept.length : Int)
    · by_cases h64 : l.length ≤ 64
      · rcases tick_cases D.de D.fu with ⟨hf, ht⟩ | ⟨fu', ht, hf⟩
        · have hwr : D.write x l = (10, { D with de := D.de, fu := 0, dn := true }) := by simp [Dv.write, hdn, hin, h64, ht]
          rw [hwr]
          rw [hdn] at hb
          have c4 := (hb.cell 4).trans (rdv4 ..)
          have hlt := hb.lt
          have ok' := hr.ok.ticked ht D.pend hr.ok.p64 true
          have HT := hide (And.intro ht (And.intro hr.ok.de hr.ok.fu))
          have HX := hide (And.intro ok' hb)
          have i1 := hin.1
          have i2 := hin.2
          have i3 : ¬ (64 : Int) < (l.length : Int) := by omega
          clear ok' ht hb hr hs hsb hwr hin
          go_enter Try.func133, Try.ntmps133
          go_wp2_with fail
          refine (rsectors_any _ hnk HX.out.2).mono ?_
          rintro e w' ⟨rfl, rfl⟩
          dsimp only
          go_wp2_with fail
          refine (rdeed_any _ ⟨HT.out.2.1, hde⟩ HT.out.2.2 HX.out.2).mono ?_
          rintro e w1 ⟨rfl, hb1, hg1⟩
          rw [HT.out.1] at hb1 ⊢
          rw [show decide ((10 : Int) = 0) = false from rfl]
          dsimp only at hb1 ⊢
          have H1 := hide (And.intro hb1 hg1)
          clear hb1 hg1
          go_wp2_with fail
          go_ret
          have h2 := rleft_own HR.out.2.1 (D' := { D with de := D.de, fu := 0, dn := true }) H1.out.1 H1.out.2 rfl rfl HX.out.1
          exact ⟨rfl, F, ⟨_, _, _, _, h2.1⟩, h2.2, fun _ h => .inl h⟩
        · have hwr : D.write x l = (0, { D with de := D.de + 1, fu := fu', dn := false, pend := D.pend ++ [(x, pad l)] }) := by simp [Dv.write, hdn, hin, h64, ht]
          rw [hwr]
          exact rwrite_ok x l A cap w hr hdn hde hm ht (by have := hr.ok.fu; exact ⟨hf.1 this.1, by omega⟩) hin h64 hs hsb
      · rw [show D.write x l = (2, D) by simp [Dv.write, hdn, h64]]
        rw [hdn] at hb
        have c4 := (hb.cell 4).trans (rdv4 ..)
        have hlt := hb.lt
        have i1 := hin.1
        have i2 := hin.2
        have i3 : (64 : Int) < (l.length : Int) := by omega
        have HX := hide hb
        clear hb hr hs hsb hin
        go_enter Try.func133, Try.ntmps133
        go_wp2_with fail
        refine (rsectors_any _ hnk HX.out).mono ?_
        rintro e w' ⟨rfl, rfl⟩
        dsimp only
        go_wp2_with fail
        go_ret
        exact ⟨rfl, .same HR.out.1⟩
    · rw [show D.write x l = (2, D) by simp [Dv.write, hdn, hin]]
      rw [hdn] at hb
      have c4 := (hb.cell 4).trans (rdv4 ..)
      have hlt := hb.lt
      have HX := hide hb
      by_cases hneg : x < 0
      · clear hb hr hs hsb hin
        go_enter Try.func133, Try.ntmps133
        go_wp2_with fail
        go_ret
        exact ⟨rfl, .same HR.out.1⟩
      · have i1 : 0 ≤ x := by omega
        have i2 : (D.kept.length : Int) ≤ x := by omega
        clear hb hr hs hsb hin
        go_enter Try.func133, Try.ntmps133
        go_wp2_with fail
        refine (rsectors_any _ hnk HX.out).mono ?_
        rintro e w' ⟨rfl, rfl⟩
        dsimp only
        go_wp2_with fail
        go_ret
        exact ⟨rfl, .same HR.out.1⟩
end Go.Proofs.Ytfppddnfdinipaa
end
section
namespace Go.Proofs.Ytfppddnfdinipaa
open Go Go.RowKit
theorem last_fold (x : Int) : ∀ (L : List (Int × List UInt8)) (a : List UInt8), L.foldl (fun a p => if p.1 == x then p.2 else a) a = (lastL L x).getD a
  | [], _ => rfl
  | p :: L, a => by
    rw [List.foldl_cons, last_fold x L]
    simp only [lastL, List.reverse_cons, List.find?_append]
    cases hf : L.reverse.find? fun p => p.1 == x with
    | some q => simp
    | none =>
      cases hp : p.1 == x with
      | true => simp [hp]
      | false => simp [hp]
def seenL (L : List (Int × List UInt8)) (x : Int) (a : List UInt8) : List UInt8 := L.foldl (fun a p => if p.1 == x then p.2 else a) a
theorem seen_take (L : List (Int × List UInt8)) (x : Int) (a : List UInt8) (i : Nat) (p : Int × List UInt8) (h : L[i]? = some p) : seenL (L.take (i + 1)) x a = if p.1 == x then p.2 else seenL (L.take i) x a := by
  rw [List.take_add_one, h]
  simp [seenL, List.foldl_append]
theorem seen_len (x : Int) : ∀ (L : List (Int × List UInt8)) (a : List UInt8), (∀ p ∈ L, p.2.length = 64) → a.length = 64 → (seenL L x a).length = 64
  | [], _, _, h => h
  | p :: L, a, hp, h => by
    rw [seenL, List.foldl_cons]
    refine seen_len x L _ (fun q hq => hp q (by simp [hq])) ?_
    split
    · exact hp p (by simp)
    · exact h
set_option maxRecDepth 100000
set_option maxHeartbeats 1000000 in
theorem rread_ok {D : Dv} {F : Nat → Prop} {g : Nat} (x : Nat) (hx : x < D.kept.length) (w : World) (h : RefAt w F g D) (hdn : D.dn = false) (hm : D.pend.length ≤ 100000) :
    Calls Try.prog 135 #[.pointer (some ⟨g, 0, none⟩), .int .i64 (x : Int)] w fun e w' => ∃ v, e = .returned (.tuple #[v, .int .i64 0]) ∧ w'.ownsRow w.heap.size 5 1 v 64 (bv (D.read x)) ∧ Below w.heap.size w w' := by
  obtain ⟨ra, c, vw, us, hr⟩ := h
  obtain ⟨A, cp, rfl⟩ := hr.slice
  obtain ⟨i8, hi8, hz80, hz81, hz82⟩ := info_parts info_1
  have hb := hr.blk
  rw [hdn] at hb
  have c4 := (hb.cell 4).trans (rdv4 ..)
  have c0 := (hb.cell 0).trans (rdv0 ..)
  have hlt := hb.lt
  have hnk := hr.ok.n2
  have i0 : (0 : Int) ≤ (x : Int) := by omega
  have i1 : (x : Int) < (D.kept.length : Int) := by omega
  have i2 : (x : Int) ≤ 8192 := by omega
  obtain ⟨_, _, _, hcc, _⟩ := own_upd hr.all
  have i3 : (x : Int) * 64 + 64 ≤ (c : Int) := by omega
  obtain ⟨b0, hkb⟩ : ∃ b, D.kept[x]? = some b := ⟨D.kept[x]'hx, List.getElem?_eq_getElem _⟩
  have hb064 : b0.length = 64 := hr.ok.k64 b0 (List.mem_of_getElem? hkb)
  have hread : D.read x = seenL D.pend (x : Int) b0 := by
    unfold Dv.read readL seenL
    rw [last_fold]
    simp [List.getD, hkb]
  have HR := hide (And.intro hr (And.intro hb (And.intro hread hkb)))
  clear hb hr hread hkb
  go_enter Try.func135, Try.ntmps135
  go_wp2_with fail
  refine (rsectors_any _ hnk HR.out.2.1).mono ?_
  rintro e w' ⟨rfl, rfl⟩
  have hown0 := owned_new w' 5
  have hB0 : Below w'.heap.size w' (w'.alloc (.cells #[] 5)) := (Below.refl _ _).alloc (Nat.le_refl _) _
  have hsrc0 : Src (w'.alloc (.cells #[] 5)) (some ⟨ra, x * 64, none⟩) 64 (c - x * 64) (bv b0) := ⟨by rw [bvL, hb064], (fun h => (by cases h)), bv1 b0, fun ad had j u hu => by
    injection had with had
    subst had
    rw [Addr.add_mid]
    refine own_range (owned_keepN HR.out.1.all fun k _ hl => hB0.block k hl) (x * 64) 64 (bv b0) ?_ j u hu
    have h := kept_at D.kept x b0 HR.out.1.ok.k64 HR.out.2.2.2
    exact h⟩
  have H0 := hide (And.intro hown0 (And.intro hB0 hsrc0))
  clear hown0 hB0 hsrc0
  dsimp only
  go_wp2_with (at_builtin; (refine wpList_app (o := ⟨some 31, _, _, _, _, _⟩) rfl _ _ 66 rfl w'.heap.size 5 i8 (.int .u8 0) 1 Try.underlying66 hi8 hz80 hz81 hz82 rfl _ 0 [] H0.out.1 (some ⟨ra, x * 64, none⟩) (x * 64 + 64 - x * 64) (c - x * 64) (bv b0) ?h0 ?h1 ?h2 ?h3 rfl rfl ?_))
  case h0 => rw [Nat.add_sub_cancel_left]; exact H0.out.2.2
  case h1 => simp only [maxLen]; omega
  case h2 => omega
  case h3 => rw [size_alloc]; omega
  intro v1 w1 own1 gr1 _ _
  have own1 : w1.ownsRow w'.heap.size 5 1 v1 64 (bv b0) := by simpa using own1
  have hb1 : Below w'.heap.size w' w1 := H0.out.2.1.grown gr1 (by rw [size_alloc]; omega) (fun k hk => by
    injection hk with hk
    change w'.heap.size = k at hk
    omega)
  have H1 := hide (And.intro own1 hb1)
  clear own1 hb1 gr1
  go_wp2_with fail
  go_loopw [6, 7] (fun v iv wr => ∃ i : Nat, i ≤ D.pend.length ∧ iv = .int .i64 (i : Int) ∧ wr.ownsRow w'.heap.size 5 1 v 64 (bv (seenL (D.pend.take i) (x : Int) b0)) ∧ Below w'.heap.size w' wr) (fun _ iv _ => D.pend.length - (intOf iv).toNat)
  case atStart => exact ⟨0, by omega, rfl, H1.out.1, H1.out.2⟩
  case round =>
    obtain ⟨i, hi, rfl, ho, hbel⟩ := hrel
    have hdv := HR.out.2.1.below hbel hlt
    have c1r := (hdv.cell 1).trans (rdv1 ..)
    have hltr := hdv.lt
    have HW := hide (And.intro ho (And.intro hbel hdv))
    clear ho hbel hdv
    by_cases hil : i < D.pend.length
    · have j1 : (i : Int) < (D.pend.length : Int) := by omega
      have j0 : (0 : Int) ≤ (i : Int) := by omega
      obtain ⟨rw_, cap', hvp⟩ := owned_placeN HR.out.1.row (by omega)
      injection hvp with e1 _ e2
      subst e1 e2
      obtain ⟨⟨x0, b⟩, hpj⟩ : ∃ p, D.pend[i]? = some p := ⟨D.pend[i]'hil, List.getElem?_eq_getElem _⟩
      have hb64 : b.length = 64 := (HR.out.1.ok.p64 _ (List.mem_of_getElem? hpj)).1
      obtain ⟨q, c2, hu, _, _, hqo⟩ := HR.out.1.wts.2 i _ hpj
      have hwr : wr.ownsRow 0 228 2 (.slice (some ⟨rw_, 0, none⟩) D.pend.length cp) D.pend.length (waitCells us) := owned_keepN HR.out.1.row fun k _ hl => HW.out.2.1.block k hl
      have hrange : wr.rangeAt rw_ (i * 2) [.int .i64 x0, .slice (some ⟨q, 0, none⟩) 64 c2] := own_range hwr (i * 2) 2 _ (wait_at us i _ hu)
      have cw0 : wr.cell? ⟨rw_, i * 2, none⟩ = some (.int .i64 x0) := hrange 0 _ rfl
      have cw1 : wr.cell? ⟨rw_, i * 2 + 1, none⟩ = some (.slice (some ⟨q, 0, none⟩) 64 c2) := hrange 1 _ rfl
      have hqw : wr.ownsRow 0 5 1 (.slice (some ⟨q, 0, none⟩) 64 c2) 64 (bv b) := owned_keepN hqo fun k _ hl => HW.out.2.1.block k hl
      have hst := seen_take D.pend (x : Int) b0 i _ hpj
      have hown0 : (wr.alloc (.cells #[] 5)).ownsRow w'.heap.size 5 1 (.slice (some ⟨wr.heap.size, 0, none⟩) 0 0) 0 [] := owned_baseN (owned_new wr 5) (fun k hk => by
        have hk : some wr.heap.size = some k := hk
        injection hk with hk
        have := HW.out.2.1.size
        omega)
      have hB0 : Below wr.heap.size wr (wr.alloc (.cells #[] 5)) := (Below.refl _ _).alloc (Nat.le_refl _) _
      have hsrc0 : Src (wr.alloc (.cells #[] 5)) (some ⟨q, 0, none⟩) 64 c2 (bv b) := by
        have h : (wr.alloc (.cells #[] 5)).ownsRow 0 5 1 (.slice (some ⟨q, 0, none⟩) 64 c2) 64 (bv b) := owned_keepN hqw fun k _ hl => hB0.block k hl
        rw [show 64 = b.length from hb64.symm] at h ⊢
        exact owned_src0 h
      have HQ := hide (And.intro hown0 (And.intro hB0 hsrc0))
      have HS := hide hst
      have hwsz := HW.out.2.1.size
      have hrwlt : rw_ < wr.heap.size := World.block_lt_of_cell? wr _ cw0
      clear hown0 hB0 hsrc0 hst hqw hrange hwr hqo hu hpj
      by_cases hxx : x0 = (x : Int)
      · subst hxx
        go_wp2_with (at_builtin; (refine wpList_app (o := ⟨some 60, _, _, _, _, _⟩) rfl _ _ 66 rfl w'.heap.size 5 i8 (.int .u8 0) 1 Try.underlying66 hi8 hz80 hz81 hz82 rfl _ 0 [] HQ.out.1 (some ⟨q, 0, none⟩) 64 c2 (bv b) ?g0 ?g1 ?g2 ?g3 rfl rfl ?_))
        case g0 => exact HQ.out.2.2
        case g1 => simp only [maxLen]; omega
        case g3 => omega
        intro v2 w2 own2 gr2 _ _
        have own2 : w2.ownsRow w'.heap.size 5 1 v2 64 (bv b) := by simpa using own2
        have hb2 : Below w'.heap.size w' w2 := (HW.out.2.1.trans (Below.mono HQ.out.2.1 hwsz)).grown gr2 (by rw [size_alloc]; omega) (fun k hk => by
          have hk : some wr.heap.size = some k := hk
          injection hk with hk
          omega)
        have H2 := hide (And.intro own2 hb2)
        clear own2 hb2 gr2
        go_wp2_with fail
        go_roundw
        case rel =>
          refine ⟨i + 1, by omega, by go_num, ?_, H2.out.2⟩
          rw [HS.out, if_pos (by simp)]
          exact H2.out.1
        case measure => simp [intOf]; omega
      · go_wp2_with fail
        go_roundw
        case rel =>
          refine ⟨i + 1, by omega, by go_num, ?_, HW.out.2.1⟩
          rw [HS.out, if_neg (by simpa using hxx)]
          exact HW.out.1
        case measure => simp [intOf]; omega
    · obtain rfl : i = D.pend.length := by omega
      go_wp2_with fail
      go_ret2
      have h := HW.out
      rw [List.take_length, ← HR.out.2.2.1] at h
      exact ⟨_, rfl, h.1, h.2.1⟩
theorem rread_down {D : Dv} {F : Nat → Prop} {g : Nat} (x : Int) (w : World) (h : RefAt w F g D) (hdn : D.dn = true) : Calls Try.prog 135 #[.pointer (some ⟨g, 0, none⟩), .int .i64 x] w fun e w' => e = .returned (.tuple #[.slice none 0 0, .int .i64 10]) ∧ w' = w := by
  obtain ⟨ra, c, vw, us, hr⟩ := h
  have hb := hr.blk
  rw [hdn] at hb
  have c4 := (hb.cell 4).trans (rdv4 ..)
  have hlt := hb.lt
  clear hb hr
  go_enter Try.func135, Try.ntmps135
  go_wp2
  go_ret2
  exact ⟨rfl, rfl⟩
theorem rread_out {D : Dv} {F : Nat → Prop} {g : Nat} (x : Int) (hx : x < 0 ∨ (D.kept.length : Int) ≤ x) (w : World) (h : RefAt w F g D) (hdn : D.dn = false) : Calls Try.prog 135 #[.pointer (some ⟨g, 0, none⟩), .int .i64 x] w fun e w' => e = .returned (.tuple #[.slice none 0 0, .int .i64 2]) ∧ w' = w := by
  obtain ⟨ra, c, vw, us, hr⟩ := h
  have hb := hr.blk
  have hnk := hr.ok.n2
  rw [hdn] at hb
  have c4 := (hb.cell 4).trans (rdv4 ..)
  have hlt := hb.lt
  have HB := hide hb
  clear hb hr
  by_cases hneg : x < 0
  · clear hx
    go_enter Try.func135, Try.ntmps135
    go_wp2
    go_ret2
    exact ⟨rfl, rfl⟩
  · have i1 : 0 ≤ x := by omega
    have i2 : (D.kept.length : Int) ≤ x := by omega
    clear hx
    go_enter Try.func135, Try.ntmps135
    go_wp2_with fail
    refine (rsectors_any _ hnk HB.out).mono ?_
    rintro e w' ⟨rfl, rfl⟩
    dsimp only
    go_wp2_with fail
    go_ret2
    exact ⟨rfl, rfl⟩
end Go.Proofs.Ytfppddnfdinipaa
end
section
namespace Go.Proofs.Ytfppddnfdinipaa
open Go Go.RowKit
theorem wrap8 (z : Int) : 0 ≤ IntKind.u8.wrap z ∧ IntKind.u8.wrap z < 256 := by
  simp [IntKind.wrap, IntKind.signed, IntKind.bits]
  omega
def flip (v : UInt8) (k : Nat) : UInt8 := UInt8.ofNat (bits .xor .u8 (v.toNat : Int) ((2 : Int) ^ k % 256)).toNat
theorem flip_int (v : UInt8) (k : Nat) : ((flip v k).toNat : Int) = bits .xor .u8 (v.toNat : Int) ((2 : Int) ^ k % 256) := by
  have h : 0 ≤ bits .xor .u8 (v.toNat : Int) ((2 : Int) ^ k % 256) ∧ bits .xor .u8 (v.toNat : Int) ((2 : Int) ^ k % 256) < 256 := wrap8 _
  unfold flip
  rw [UInt8.toNat_ofNat']
  omega
theorem bits_and7 (b : Nat) : bits .and .i64 (b : Int) 7 = ((b % 8 : Nat) : Int) := by
  have h1 : (BitVec.ofInt 64 (b : Int) &&& BitVec.ofInt 64 7).toNat = b % 8 := by
    rw [BitVec.toNat_and, BitVec.toNat_ofInt, show (BitVec.ofInt 64 7).toNat = 2 ^ 3 - 1 by decide, Nat.and_two_pow_sub_one_eq_mod, show ((2 ^ 64 : Nat) : Int) = 18446744073709551616 by decide]
    omega
  show IntKind.i64.wrap ((BitVec.ofInt 64 (b : Int) &&& BitVec.ofInt 64 7).toNat : Int) = _
  rw [h1]
  simp [IntKind.wrap, IntKind.signed, IntKind.bits]
  omega
def spoilB (b : List UInt8) (bit : Nat) : List UInt8 := b.set (bit / 8) (flip (b.getD (bit / 8) 0) (bit % 8))
def Dv.spoil (D : Dv) (x bit : Int) : Int × Dv := if (decide (0 ≤ x ∧ x < (D.kept.length : Int)) && decide (0 ≤ bit ∧ bit < 512)) = true then (0, { D with kept := D.kept.set x.toNat (spoilB (D.kept.getD x.toNat []) bit.toNat) }) else (2, D)
theorem flat_set1 {α : Type} {s : Nat} (v : α) : ∀ (l : List (List α)) (k j : Nat) (b : List α), (∀ b ∈ l, b.length = s) → l[k]? = some b → j < s → (l.set k (b.set j v)).flatten = l.flatten.set (k * s + j) v
  | [], _, _, _, _, h, _ => by simp at h
  | b :: l, 0, j, c, hs, h, hj => by
    have h1 := hs b (by simp)
    simp at h
    subst h
    simp only [List.set_cons_zero, List.flatten_cons, Nat.zero_mul, Nat.zero_add]
    rw [List.set_append_left _ _ (by omega)]
  | b :: l, k + 1, j, c, hs, h, hj => by
    have h1 := hs b (by simp)
    simp only [List.set_cons_succ, List.flatten_cons]
    rw [flat_set1 v l k j c (fun d hd => hs d (by simp [hd])) (by simpa using h) hj, List.set_append_right _ _ (by rw [Nat.add_mul]; omega)]
    congr 2
    rw [Nat.add_mul]
    omega
theorem kept_spoil (K : List (List UInt8)) (k bit : Nat) (b : List UInt8) (h : ∀ b ∈ K, b.length = 64) (hk : K[k]? = some b) (hb : bit < 512) : keptCells (K.set k (spoilB b bit)) = (keptCells K).set (k * 64 + bit / 8) (.int .u8 (bits .xor .u8 (((b.getD (bit / 8) 0).toNat : Nat) : Int) ((2 : Int) ^ (bit % 8) % 256))) := by
  rw [kept_bv, kept_bv, spoilB, flat_set1 (s := 64) _ K k (bit / 8) b h hk (by omega)]
  unfold bv
  rw [List.map_set]
  congr 2
  rw [flip_int]
theorem kept_cell (K : List (List UInt8)) (k bit : Nat) (b : List UInt8) (h : ∀ b ∈ K, b.length = 64) (hk : K[k]? = some b) (hb : bit < 512) : (keptCells K)[k * 64 + bit / 8]? = some (.int .u8 ((b.getD (bit / 8) 0).toNat : Int)) := by
  have h1 := kept_at K k b h hk
  have h2 : ((keptCells K).drop (k * 64))[bit / 8]? = (bv b)[bit / 8]? := by
    rw [← h1, List.getElem?_take_of_lt (by omega)]
  rw [List.getElem?_drop] at h2
  rw [h2]
  have hb64 := h b (List.mem_of_getElem? hk)
  simp [bv, List.getD, show bit / 8 < b.length by omega]
/-- one cell of a row of one's own is turned -/
theorem own_set1 {w : World} {base g n cap s : Nat} {e : TypeId} {xs : List Value} (h : w.ownsRow base e s (.slice (some ⟨g, 0, none⟩) n cap) n xs) (o : Nat) (v : Value) (ho : o < n * s) : (w.setCell ⟨g, o, none⟩ v).ownsRow base e s (.slice (some ⟨g, 0, none⟩) n cap) n (xs.set o v) := by
  have h2 := own_setCells h o [v] (by simp; omega)
  have e : xs.take o ++ ([v] ++ xs.drop (o + [v].length)) = xs.set o v := by
    rw [List.set_eq_take_append_cons_drop, if_pos (by have := h.1; omega)]
    simp
  rw [e] at h2
  exact h2
section
variable {D : Dv} {F : Nat → Prop} {g : Nat}
set_option maxRecDepth 100000
end
end Go.Proofs.Ytfppddnfdinipaa
end
section
namespace Go.Proofs.Ytfppddnfdinipaa
open Go Go.RowKit
section
variable {D : Dv} {F : Nat → Prop} {g : Nat}
set_option maxRecDepth 100000
end
/-- the device and the document's, both one's own, apart -/
structure Two (R : Nat) (w0 w : World) (Fd Fr : Nat → Prop) (g r : Nat) (D E : Dv) : Prop where
  mine : Mine R w0 w Fd g D
  ref : RefAt w Fr r E
  low : ∀ k, Fr k → R ≤ k
  apart : ∀ k, Fd k → ¬ Fr k
section
variable {R g r : Nat} {w0 w w' : World} {Fd Fr : Nat → Prop} {D E D' E' : Dv}
theorem Mine.deal2 (h : Mine R w0 w Fd g D) (hR : R ≤ w0.heap.size) (hl : Left w Fd g D' w') : ∃ F', Mine R w0 w' F' g D' ∧ Turned Fd w w' ∧ ∀ k, F' k → Fd k ∨ w.heap.size ≤ k := by
  obtain ⟨F', h1, h2, h3⟩ := hl
  have hs := h.bel.size
  refine ⟨F', ⟨h1, ⟨h2.os.trans h.bel.os, h2.tape.trans h.bel.tape, h2.output.trans h.bel.output, Nat.le_trans hs h2.size, fun k hk => (h2.block k (by omega) (fun hf => by have := h.low k hf; omega)).trans (h.bel.block k hk)⟩, fun k hk => ?_⟩, h2, h3⟩
  rcases h3 k hk with h3 | h3
  · exact h.low k h3
  · omega
theorem Two.dev (h : Two R w0 w Fd Fr g r D E) (hR : R ≤ w0.heap.size) (hl : Left w Fd g D' w') : ∃ F', Two R w0 w' F' Fr g r D' E := by
  obtain ⟨F', h1, h2, h3⟩ := h.mine.deal2 hR hl
  refine ⟨F', h1, h.ref.keep h2.size fun k hk hf => h2.block k hk fun hd => h.apart k hd hf, h.low, fun k hk hf => ?_⟩
  rcases h3 k hk with hd | hn
  · exact h.apart k hd hf
  · have := h.ref.lt k hf; omega
theorem Two.doc (h : Two R w0 w Fd Fr g r D E) (hR : R ≤ w0.heap.size) (hl : RLeft w Fr r E' w') : ∃ F', Two R w0 w' Fd F' g r D E' := by
  obtain ⟨F', h1, h2, h3⟩ := hl
  have hs := h.mine.bel.size
  refine ⟨F', ⟨h.mine.dev.keep fun k hk hf => h2.block k hk fun hr => h.apart k hf hr, ⟨h2.os.trans h.mine.bel.os, h2.tape.trans h.mine.bel.tape, h2.output.trans h.mine.bel.output, Nat.le_trans hs h2.size, fun k hk => (h2.block k (by omega) (fun hf => by have := h.low k hf; omega)).trans (h.mine.bel.block k hk)⟩, h.mine.low⟩, h1, fun k hk => ?_, fun k hk hf => ?_⟩
  · rcases h3 k hk with h3 | h3
    · exact h.low k h3
    · omega
  · rcases h3 k hf with hr | hn
    · exact h.apart k hk hr
    · have := h.mine.dev.lt k hk; omega
theorem Two.grow (h : Two R w0 w Fd Fr g r D E) (hR : R ≤ w0.heap.size) (hb : Below w.heap.size w w') : Two R w0 w' Fd Fr g r D E :=
  ⟨h.mine.grow hR hb, h.ref.keep hb.size fun k hk _ => hb.block k hk, h.low, h.apart⟩
end
end Go.Proofs.Ytfppddnfdinipaa
end
section
namespace Go.Proofs.Ytfppddnfdinipaa
open Go.RowKit
theorem keptL (l : List UInt8) (j : Nat) (h : j < l.length) : (bv (l ++ marks)).toArray[j]? = some (.int .u8 ((l.getD j 0).toNat : Int)) := by
  rw [bv_get _ _ (by rw [List.length_append]; omega)]
  rw [List.getD_eq_getElem?_getD, List.getD_eq_getElem?_getD, List.getElem?_append_left h]
theorem keptM (l : List UInt8) (j : Nat) (h : j < 12) : (bv (l ++ marks)).toArray[l.length + j]? = some (.int .u8 ((mk 1 j).toNat : Int)) := by
  rw [bv_get _ _ (by rw [List.length_append, marks, List.length_map, List.length_range]; omega)]
  simp [List.getD, marks, h]
set_option maxRecDepth 100000 in
set_option maxHeartbeats 1000000 in
theorem keptBytes_any (l : List UInt8) (hl : l.length ≤ 1000000) (A : Option Addr) (n cap g : Nat) (B : Nat) (w : World) (hv : BytesAt w B (.slice A n cap) l) (hg : Blk w g 5 (bv (l ++ marks)).toArray) :
    Calls Try.prog 83 #[.slice (some ⟨g, 0, none⟩) l.length (l.length + 12), .slice A n cap] w fun e w' => e = .returned (.bool true) ∧ ∃ k, w' = w.drewN k := by
  obtain ⟨rfl, hcap, _, hcells⟩ := hv.cells
  have HV := hide hv
  have HC := hide hcells
  have HG := hide hg
  clear hv hcells hg
  go_enter Try.func83, Try.ntmps83
  go_wp2_with fail
  go_loopw [6] (fun v wr => ∃ j : Nat, j ≤ l.length + 12 ∧ v = .int .i64 (j : Int) ∧ ∃ k, wr = w.drewN k) (fun v _ => (l.length + 12 - intOf v).toNat)
  case atStart => exact ⟨0, by omega, rfl, 0, rfl⟩
  case round =>
    obtain ⟨j, hj, rfl, hk⟩ := hrel
    have hcw : ∀ p, wr.cell? p = w.cell? p := by obtain ⟨k, rfl⟩ := hk; exact fun p => World.cell?_drewN w k p
    have HK := hide hk
    have HCW := hide hcw
    clear hk hcw
    by_cases hend : j < l.length + 12
    · by_cases hin : j < l.length
      · obtain ⟨A', cap', hv, hc', hA⟩ := HV.out
        injection hv with e1 e2 e3
        subst e1 e3
        obtain ⟨b, off, rfl, hbB, hcell⟩ := hA (by omega)
        obtain ⟨x, hx⟩ : ∃ x, x = l.getD j 0 := ⟨_, rfl⟩
        have cL : wr.cell? ⟨b, off + j, none⟩ = some (.int .u8 (x.toNat : Int)) := by rw [HCW.out, hx]; exact hcell j hin
        have cG : wr.cell? ⟨g, j, none⟩ = some (.int .u8 (x.toNat : Int)) := by rw [hx, HCW.out, HG.out.cell, keptL l j hin]
        have n0 : (0 : Int) ≤ (j : Int) := by omega
        have n1 : (j : Int) < (l.length : Int) := by omega
        have n2 : (j : Int) < (l.length : Int) + 12 := by omega
        have d1 : decide ((j : Int) < (l.length : Int)) = true := decide_eq_true n1
        have d2 : decide (l.length ≤ j) = false := decide_eq_false (by omega)
        have d3 : decide ((l.length : Int) ≤ (j : Int)) = false := decide_eq_false (by omega)
        have HX := hide hx
        clear hx hcell hA HV HC
        go_wp2_with fail
        go_quiet (fail)
        go_wp2_with fail
        go_roundw
        case rel => obtain ⟨k, hk⟩ := HK.out; exact ⟨j + 1, by omega, by go_num, _, by rw [hk, World.drewN_drewN]⟩
        case measure => simp [intOf]; omega
      · obtain ⟨q, rfl⟩ : ∃ q, j = l.length + q := ⟨j - l.length, by omega⟩
        have cG : wr.cell? ⟨g, l.length + q, none⟩ = some (.int .u8 ((mk 1 q).toNat : Int)) := by rw [HCW.out, HG.out.cell, keptM l q (by omega)]
        obtain ⟨j, hj2⟩ : ∃ j, j = l.length + q := ⟨_, rfl⟩
        rw [← hj2] at cG hend hj hin ⊢
        have n0 : (0 : Int) ≤ (j : Int) := by omega
        have n2 : (j : Int) < (l.length : Int) + 12 := by omega
        have n3 : (j : Int) - (l.length : Int) = (q : Int) := by omega
        have d1 : decide ((j : Int) < (l.length : Int)) = false := decide_eq_false (by omega)
        have d2 : decide (l.length ≤ j) = true := decide_eq_true (by omega)
        have d3 : decide ((l.length : Int) ≤ (j : Int)) = true := decide_eq_true (by omega)
        have d4 : decide (j < l.length) = false := decide_eq_false (by omega)
        have hq : q ≤ 1000000000 := by omega
        have HJ := hide hj2
        clear hj2 HV HC
        go_wp2_with fail
        go_quiet ((go_at_call 131; exact Calls.quiet_of_same (markByte_any 1 q (by omega) hq _)))
        go_wp2_with fail
        go_roundw
        case rel => obtain ⟨k, hk⟩ := HK.out; exact ⟨j + 1, by omega, by go_num, _, by rw [hk, World.drewN_drewN]⟩
        case measure => simp [intOf]; omega
    · obtain rfl : j = l.length + 12 := by omega
      go_wp2_with fail
      go_ret
      exact ⟨rfl, HK.out⟩
end Go.Proofs.Ytfppddnfdinipaa
end
section
namespace Go.Proofs.Ytfppddnfdinipaa
open Go.RowKit
theorem same_step (a b : List UInt8) (j : Nat) (h : a.take j = b.take j) (e : a.getD j 0 = b.getD j 0) (ha : j < a.length) (hb : j < b.length) : a.take (j + 1) = b.take (j + 1) := by
  rw [List.take_add_one, List.take_add_one, h]
  simp only [List.getD_eq_getElem?_getD, List.getElem?_eq_getElem ha, List.getElem?_eq_getElem hb, Option.getD_some] at e
  rw [List.getElem?_eq_getElem ha, List.getElem?_eq_getElem hb, e]
set_option maxRecDepth 100000 in
set_option maxHeartbeats 1000000 in
theorem sameBytes_any (a b : List UInt8) (ha : a.length ≤ 1099511627776) (hb : b.length ≤ 1099511627776) (u v : Value) (B : Nat) (w : World) (hu : BytesAt w B u a) (hv : BytesAt w B v b) :
    Calls Try.prog 40 #[u, v] w fun e w' => e = .returned (.bool (decide (a = b))) ∧ ∃ k, w' = w.drewN k := by
  obtain ⟨A, ca, rfl, hca, hA⟩ := hu
  obtain ⟨A', cb, rfl, hcb, hB⟩ := hv
  by_cases hlen : a.length = b.length
  · have HA := hide hA
    have HB := hide hB
    obtain ⟨n, hn⟩ : ∃ n, n = a.length := ⟨_, rfl⟩
    rw [← hlen, ← hn] at hcb
    rw [← hlen, ← hn]
    rw [← hn] at hca
    have hn' : n ≤ 1099511627776 := by omega
    have HN := hide (And.intro hn hlen)
    clear hA hB hlen hn ha hb
    go_enter Try.func40, Try.ntmps40
    go_wp2_with fail
    go_loopw [5] (fun t wr => ∃ j : Nat, j ≤ n ∧ t = .int .i64 (j : Int) ∧ a.take j = b.take j ∧ ∃ k, wr = w.drewN k) (fun t _ => (n - intOf t).toNat)
    case atStart => exact ⟨0, by omega, rfl, rfl, 0, rfl⟩
    case round =>
      obtain ⟨j, hj, rfl, htk, hk⟩ := hrel
      have hcw : ∀ p, wr.cell? p = w.cell? p := by obtain ⟨k, rfl⟩ := hk; exact fun p => World.cell?_drewN w k p
      have HK := hide hk
      have HCW := hide hcw
      have HT := hide htk
      clear hk hcw htk
      by_cases hend : j < n
      · obtain ⟨p, o, hpa, _, hpc⟩ := HA.out (by have := HN.out.1; omega)
        obtain ⟨q, o', hqa, _, hqc⟩ := HB.out (by have := HN.out; omega)
        subst hpa hqa
        obtain ⟨x, hx⟩ : ∃ x, x = a.getD j 0 := ⟨_, rfl⟩
        obtain ⟨y, hy⟩ : ∃ y, y = b.getD j 0 := ⟨_, rfl⟩
        have c1 : wr.cell? ⟨p, o + j, none⟩ = some (.int .u8 (x.toNat : Int)) := by rw [HCW.out, hx]; exact hpc j (by have := HN.out.1; omega)
        have c2 : wr.cell? ⟨q, o' + j, none⟩ = some (.int .u8 (y.toNat : Int)) := by rw [HCW.out, hy]; exact hqc j (by have := HN.out; omega)
        have HX := hide (And.intro hx hy)
        clear hx hy hpc hqc HA HB
        by_cases hxy : x = y
        · subst hxy
          go_wp2_with fail
          go_quiet (fail)
          go_wp2_with fail
          go_roundw
          case rel =>
            obtain ⟨k, hk⟩ := HK.out
            have h1 := HN.out
            exact ⟨j + 1, by omega, by go_num, same_step a b j HT.out (by rw [← HX.out.1, ← HX.out.2]) (by omega) (by omega), _, by rw [hk, World.drewN_drewN]⟩
          case measure => simp [intOf]; omega
        · have hne : ¬ (x.toNat : Int) = (y.toNat : Int) := by
            intro e
            exact hxy (UInt8.toNat_inj.1 (by omega))
          go_wp2_with fail
          go_quiet (fail)
          go_wp2_with fail
          go_ret
          obtain ⟨k, hk⟩ := HK.out
          refine ⟨?_, _, by rw [hk, World.drewN_drewN]⟩
          have : a ≠ b := by
            rintro rfl
            exact hxy (by rw [HX.out.1, HX.out.2])
          rw [decide_eq_false this]; rfl
      · obtain rfl : j = n := by omega
        go_wp2_with fail
        go_ret
        refine ⟨?_, HK.out⟩
        have h1 := HN.out
        have : a = b := by
          have h2 := HT.out
          rwa [List.take_of_length_le (by omega), List.take_of_length_le (by omega)] at h2
        rw [decide_eq_true this]; rfl
  · have hne : ¬ (a.length : Int) = (b.length : Int) := by omega
    have hd : decide (a = b) = false := decide_eq_false (by rintro rfl; exact hlen rfl)
    rw [hd]
    clear hA hB
    go_enter Try.func40, Try.ntmps40
    go_wp2_with fail
    go_ret
    exact ⟨rfl, 0, rfl⟩
end Go.Proofs.Ytfppddnfdinipaa
end
section
namespace Go.Proofs.Ytfppddnfdinipaa
open Go Go.RowKit
set_option maxRecDepth 100000 in
set_option maxHeartbeats 1000000 in
theorem overBytes_any (R n : Nat) (hn : n ≤ 1000000) (v : Value) (xs : List Value) (w : World) (hv : w.ownsRow R 5 1 v n xs) :
    Calls Try.prog 84 #[v] w fun e w' => e = .returned (.tuple #[]) ∧ Turned (fun k => v.ownBlock = some k) w w' := by
  rcases owned_form hv with ⟨rfl, _, _⟩ | ⟨g, cap, cur, rfl, _, hnc, hcm, hb, hcs, _, hlt⟩
  · have hk1 := run_slice_to (P := Try.prog) 66 5 Try.underlying66 size5 none 0 0 0 (by omega)
    clear hv
    go_enter Try.func84, Try.ntmps84
    go_wp2_with fail
    refine wp_loop_once ?_
    go_wp2_with fail
    go_end0
    exact ⟨rfl, Turned.refl _ _⟩
  · have hc63 : (cap : Int) ≤ 9223372036854775807 := by simp only [maxLen] at hcm; omega
    have H0 := hide (And.intro hb hcs)
    clear hv hb hcs
    by_cases hmin : (cap : Int) ≤ (n : Int) + 12
    · have hcb : cap ≤ 1000012 := by omega
      have hk1 := run_slice_to (P := Try.prog) 66 5 Try.underlying66 size5 (some ⟨g, 0, none⟩) n cap cap (by omega)
      go_enter Try.func84, Try.ntmps84
      go_wp2_with fail
      go_loopw [3] (fun v wr => ∃ (i : Nat) (cur' : Array Value), i ≤ cap ∧ v = .int .i64 (i : Int) ∧ Blk wr g 5 cur' ∧ cur'.size = cap ∧ Turned (fun k => k = g) w wr) (fun v _ => cap - (intOf v).toNat)
      case atStart => exact ⟨0, cur, by omega, rfl, H0.out.1, H0.out.2, Turned.refl _ _⟩
      case round =>
        obtain ⟨i, cur', hi, rfl, hb, hcs, ht⟩ := hrel
        by_cases hit : i < cap
        · have cg := hb.cell i
          obtain ⟨u0, hu0⟩ : ∃ u, cur'[i]? = some u := ⟨_, Array.getElem?_eq_getElem (by omega)⟩
          rw [hu0] at cg
          have fg := hb.frozen i
          have lg := hb.lt
          have i1 : (0 : Int) ≤ (i : Int) := by omega
          have i2 : (i : Int) < (cap : Int) := by omega
          have hib : i ≤ 1000000000 := by omega
          have H1 := hide (And.intro hb (And.intro hcs ht))
          clear hb hcs ht hu0
          go_wp2_with (go_at_call 131; refine (markByte_any 2 i (by omega) hib _).mono ?_; rintro e w' ⟨rfl, rfl⟩)
          go_roundw
          case rel => exact ⟨i + 1, _, by omega, by go_num, H1.out.1.set_ i _, by rw [Array.size_setIfInBounds]; exact H1.out.2.1, H1.out.2.2.setCell (fun _ => rfl) _⟩
          case measure => simp [intOf]; omega
        · obtain rfl : i = cap := by omega
          have H1 := hide ht
          clear ht hb
          go_wp2_with fail
          go_end0
          refine ⟨rfl, H1.out.mono fun k _ h => ?_⟩
          show some g = some k
          rw [h]
    · have hmin2 : (n : Int) + 12 < (cap : Int) := by omega
      have hk1 := run_slice_to (P := Try.prog) 66 5 Try.underlying66 size5 (some ⟨g, 0, none⟩) n cap (n + 12) (by omega)
      go_enter Try.func84, Try.ntmps84
      go_wp2_with fail
      go_loopw [3] (fun v wr => ∃ (i : Nat) (cur' : Array Value), i ≤ (n + 12) ∧ v = .int .i64 (i : Int) ∧ Blk wr g 5 cur' ∧ cur'.size = cap ∧ Turned (fun k => k = g) w wr) (fun v _ => (n + 12) - (intOf v).toNat)
      case atStart => exact ⟨0, cur, by omega, rfl, H0.out.1, H0.out.2, Turned.refl _ _⟩
      case round =>
        obtain ⟨i, cur', hi, rfl, hb, hcs, ht⟩ := hrel
        by_cases hit : i < (n + 12)
        · have cg := hb.cell i
          obtain ⟨u0, hu0⟩ : ∃ u, cur'[i]? = some u := ⟨_, Array.getElem?_eq_getElem (by omega)⟩
          rw [hu0] at cg
          have fg := hb.frozen i
          have lg := hb.lt
          have i1 : (0 : Int) ≤ (i : Int) := by omega
          have i2 : (i : Int) < (n : Int) + 12 := by omega
          have hib : i ≤ 1000000000 := by omega
          have H1 := hide (And.intro hb (And.intro hcs ht))
          clear hb hcs ht hu0
          go_wp2_with (go_at_call 131; refine (markByte_any 2 i (by omega) hib _).mono ?_; rintro e w' ⟨rfl, rfl⟩)
          go_roundw
          case rel => exact ⟨i + 1, _, by omega, by go_num, H1.out.1.set_ i _, by rw [Array.size_setIfInBounds]; exact H1.out.2.1, H1.out.2.2.setCell (fun _ => rfl) _⟩
          case measure => simp [intOf]; omega
        · obtain rfl : i = (n + 12) := by omega
          have H1 := hide ht
          clear ht hb
          go_wp2_with fail
          go_end0
          refine ⟨rfl, H1.out.mono fun k _ h => ?_⟩
          show some g = some k
          rw [h]
end Go.Proofs.Ytfppddnfdinipaa
end
section
namespace Go.Proofs.Ytfppddnfdinipaa
open Go Go.RowKit
set_option maxRecDepth 100000
theorem stat_neq (a b c : Int) (d : Bool) (w : World) : (binOp .neq 181 (.agg #[.int .i64 a, .int .i64 b, .int .i64 c, .bool d]) (.agg #[.int .i64 a, .int .i64 b, .int .i64 c, .bool d])).run Try.prog w = .ok (.bool false) w := by
  have hu := Try.underlying181
  have h1 := Try.underlying3
  have h2 := Try.underlying4
  go_simp
section
variable {D : Dv} {F : Nat → Prop} {g : Nat}
set_option maxHeartbeats 400000 in
theorem read_down (x : Int) (w : World) (h : DevAt w F g D) (hdn : D.dn = true) : Calls Try.prog 72 #[.pointer (some ⟨g, 0, none⟩), .int .i64 x] w fun e w' => e = .returned (.tuple #[.slice none 0 0, .int .i64 10]) ∧ Below w.heap.size w w' := by
  obtain ⟨rk, c, vp, rfl, hb, hk, hp, hok⟩ := h
  rw [hdn] at hb
  have hB0 : Below w.heap.size w (((w.alloc (.cells #[.int .i64 x] 3)).alloc (.cells #[.slice none 0 0] 66)).alloc (.cells #[.int .i64 0] 34)) := (((Below.refl _ w).alloc (Nat.le_refl _) _).alloc (by simp) _).alloc (by simp; omega) _
  have hdv := hb.below hB0 hb.lt
  have HH := hide (And.intro hdv hB0)
  have hlt := hb.lt
  clear hb hk hp hok hdv hB0
  go_enter Try.func72, Try.ntmps72
  go_wp2_with fail
  refine (able_any _ HH.out.1).mono ?_
  rintro e w' ⟨rfl, rfl⟩
  rw [if_pos rfl]
  dsimp only
  go_wp2_with fail
  refine bodyPost_ret (v := .tuple #[.slice none 0 0, .int .i64 10]) ?_ rfl ⟨rfl, ((((Below.refl _ w).alloc (Nat.le_refl _) _).alloc (by simp) _).alloc (by simp; omega) _)⟩
  simp [results, Try.f72, go_sem]
set_option maxHeartbeats 400000 in
theorem read_out (x : Int) (hx : -9223372036854775808 ≤ x ∧ x ≤ 9223372036854775807) (ho : ¬ (0 ≤ x ∧ x < (D.kept.length : Int))) (w : World) (h : DevAt w F g D) (hdn : D.dn = false) : Calls Try.prog 72 #[.pointer (some ⟨g, 0, none⟩), .int .i64 x] w fun e w' => e = .returned (.tuple #[.slice none 0 0, .int .i64 2]) ∧ Below w.heap.size w w' := by
  obtain ⟨rk, c, vp, rfl, hb, hk, hp, hok⟩ := h
  rw [hdn] at hb
  have hB0 : Below w.heap.size w (((w.alloc (.cells #[.int .i64 x] 3)).alloc (.cells #[.slice none 0 0] 66)).alloc (.cells #[.int .i64 0] 34)) := (((Below.refl _ w).alloc (Nat.le_refl _) _).alloc (by simp) _).alloc (by simp; omega) _
  have hdv := hb.below hB0 hb.lt
  have hnk := hok.n2
  have hd : decide (0 ≤ x ∧ x < (D.kept.length : Int)) = false := decide_eq_false ho
  have HH := hide (And.intro hdv hB0)
  have hlt := hb.lt
  clear hb hk hp hok hdv hB0 ho
  go_enter Try.func72, Try.ntmps72
  go_wp2_with fail
  refine (able_any _ HH.out.1).mono ?_
  rintro e w' ⟨rfl, rfl⟩
  rw [if_neg (by simp)]
  dsimp only
  go_wp2_with fail
  refine (has_any _ hnk x hx HH.out.1).mono ?_
  rintro e w' ⟨rfl, rfl⟩
  rw [hd]
  dsimp only
  go_wp2_with fail
  refine bodyPost_ret (v := .tuple #[.slice none 0 0, .int .i64 2]) ?_ rfl ⟨rfl, ((((Below.refl _ w).alloc (Nat.le_refl _) _).alloc (by simp) _).alloc (by simp; omega) _)⟩
  simp [results, Try.f72, go_sem]
end
theorem read_len {D : Dv} (hok : D.Ok) (x : Nat) (hx : x < D.kept.length) : (D.read x).length = 64 := by
  obtain ⟨b0, hkb⟩ : ∃ b, D.kept[x]? = some b := ⟨D.kept[x]'hx, List.getElem?_eq_getElem _⟩
  have h : D.read x = seenL D.pend (x : Int) b0 := by
    unfold Dv.read readL seenL
    rw [last_fold]
    simp [List.getD, hkb]
  rw [h]
  exact seen_len _ _ _ (fun p hp => (hok.p64 p hp).1) (hok.k64 b0 (List.mem_of_getElem? hkb))
theorem nil_bytes (w : World) : BytesAt w w.heap.size (.slice none 0 0) [] := ⟨none, 0, rfl, Nat.le_refl _, fun h => absurd h (by simp)⟩
theorem below_turned {R : Nat} {w0 w w' : World} {v : Value} (hb : Below R w0 w) (hR : R ≤ w0.heap.size) (ht : Turned (fun k => v.ownBlock = some k) w w') (hv : ∀ k, v.ownBlock = some k → R ≤ k) : Below R w0 w' :=
  ⟨ht.os.trans hb.os, ht.tape.trans hb.tape, ht.output.trans hb.output, Nat.le_trans hb.size ht.size, fun k hk => (ht.block k (by have := hb.size; omega) (fun e => by have := hv k e; omega)).trans (hb.block k hk)⟩
section
variable {D : Dv} {Fd Fr : Nat → Prop} {g r : Nat}
end
end Go.Proofs.Ytfppddnfdinipaa
end
section
namespace Go.Proofs.Ytfppddnfdinipaa
open Go Go.RowKit
/-- no device: nil, or one that has no sectors -/
def NoDev (w : World) (p : Option Addr) : Prop := p = none ∨ ∃ g, p = some ⟨g, 0, none⟩ ∧ Blk w g 150 (dv 0 0 false (.slice none 0 0) (.slice none 0 0))
theorem NoDev.below {w w' : World} {p : Option Addr} (h : NoDev w p) (hb : Below w.heap.size w w') : NoDev w' p := by
  rcases h with h | ⟨g, h1, h2⟩
  · exact .inl h
  · exact .inr ⟨g, h1, h2.below hb h2.lt⟩
set_option maxRecDepth 100000
theorem dnone_no (p : Option Addr) (w : World) (h : NoDev w p) : Calls Try.prog 126 #[.pointer p] w fun e w' => e = .returned (.bool true) ∧ w' = w := by
  rcases h with rfl | ⟨g, rfl, hb⟩
  · go_enter Try.func126, Try.ntmps126
    go_wp2
    go_ret
    exact ⟨rfl, rfl⟩
  · have c3 := (hb.cell 3).trans (dv3 ..)
    have hlt := hb.lt
    have hq := fun (w : World) (a : Option Addr) (n c : Nat) => Lib.run_eql_slice_nil (P := Try.prog) w 145 213 a n c 0 0 Try.underlying145
    clear hb
    go_enter Try.func126, Try.ntmps126
    go_wp2
    go_ret
    exact ⟨rfl, rfl⟩
theorem able_no (p : Option Addr) (w : World) (h : NoDev w p) : Calls Try.prog 69 #[.pointer p] w fun e w' => e = .returned (.int .i64 1) ∧ w' = w := by
  go_enter Try.func69, Try.ntmps69
  go_wp2_with fail
  refine (dnone_no _ _ h).mono ?_
  rintro e w' ⟨rfl, rfl⟩
  dsimp only
  go_wp2_with fail
  go_ret
  exact ⟨rfl, rfl⟩
theorem write_no (p : Option Addr) (x : Int) (v : Value) (w : World) (h : NoDev w p) : Calls Try.prog 67 #[.pointer p, .int .i64 x, v] w fun e w' => e = .returned (.int .i64 1) ∧ w' = w := by
  go_enter Try.func67, Try.ntmps67
  go_wp2_with fail
  refine (able_no _ _ h).mono ?_
  rintro e w' ⟨rfl, rfl⟩
  dsimp only
  go_wp2_with fail
  go_ret
  exact ⟨rfl, rfl⟩
theorem flush_no (p : Option Addr) (w : World) (h : NoDev w p) : Calls Try.prog 68 #[.pointer p] w fun e w' => e = .returned (.int .i64 1) ∧ w' = w := by
  go_enter Try.func68, Try.ntmps68
  go_wp2_with fail
  refine (able_no _ _ h).mono ?_
  rintro e w' ⟨rfl, rfl⟩
  dsimp only
  go_wp2_with fail
  go_ret
  exact ⟨rfl, rfl⟩
theorem fuse_no (p : Option Addr) (x : Int) (w : World) (h : NoDev w p) : Calls Try.prog 80 #[.pointer p, .int .i64 x] w fun e w' => e = .returned (.int .i64 1) ∧ w' = w := by
  go_enter Try.func80, Try.ntmps80
  go_wp2_with fail
  refine (able_no _ _ h).mono ?_
  rintro e w' ⟨rfl, rfl⟩
  dsimp only
  go_wp2_with fail
  go_ret
  exact ⟨rfl, rfl⟩
theorem crash_no (p : Option Addr) (w : World) (h : NoDev w p) : Calls Try.prog 37 #[.pointer p] w fun e w' => e = .returned (.int .i64 1) ∧ w' = w := by
  go_enter Try.func37, Try.ntmps37
  go_wp2_with fail
  refine (able_no _ _ h).mono ?_
  rintro e w' ⟨rfl, rfl⟩
  dsimp only
  go_wp2_with fail
  go_ret
  exact ⟨rfl, rfl⟩
theorem wake_no (p : Option Addr) (x : Int) (w : World) (h : NoDev w p) : Calls Try.prog 38 #[.pointer p, .int .i64 x] w fun e w' => e = .returned (.int .i64 1) ∧ w' = w := by
  go_enter Try.func38, Try.ntmps38
  go_wp2_with fail
  refine (able_no _ _ h).mono ?_
  rintro e w' ⟨rfl, rfl⟩
  dsimp only
  go_wp2_with fail
  go_ret
  exact ⟨rfl, rfl⟩
theorem kept_no (p : Option Addr) (w : World) (h : NoDev w p) : Calls Try.prog 86 #[.pointer p] w fun e w' => e = .returned (.slice none 0 0) ∧ w' = w := by
  go_enter Try.func86, Try.ntmps86
  go_wp2_with fail
  refine (dnone_no _ _ h).mono ?_
  rintro e w' ⟨rfl, rfl⟩
  dsimp only
  go_wp2_with fail
  go_ret
  exact ⟨rfl, rfl⟩
theorem read_no (p : Option Addr) (x : Int) (w : World) (h : NoDev w p) : Calls Try.prog 72 #[.pointer p, .int .i64 x] w fun e w' => e = .returned (.tuple #[.slice none 0 0, .int .i64 1]) ∧ Below w.heap.size w w' := by
  have hB0 : Below w.heap.size w (((w.alloc (.cells #[.int .i64 x] 3)).alloc (.cells #[.slice none 0 0] 66)).alloc (.cells #[.int .i64 0] 34)) := (((Below.refl _ w).alloc (Nat.le_refl _) _).alloc (by simp) _).alloc (by simp; omega) _
  have HH := hide (h.below hB0)
  clear hB0
  go_enter Try.func72, Try.ntmps72
  go_wp2_with fail
  refine (able_no _ _ HH.out).mono ?_
  rintro e w' ⟨rfl, rfl⟩
  dsimp only
  go_wp2_with fail
  refine bodyPost_ret (v := .tuple #[.slice none 0 0, .int .i64 1]) ?_ rfl ⟨rfl, ((((Below.refl _ w).alloc (Nat.le_refl _) _).alloc (by simp) _).alloc (by simp; omega) _)⟩
  simp [results, Try.f72, go_sem]
theorem stat_no (p : Option Addr) (w : World) (h : NoDev w p) : Calls Try.prog 87 #[.pointer p] w fun e w' => e = .returned (.agg #[.int .i64 0, .int .i64 0, .int .i64 0, .bool false]) ∧ Below w.heap.size w w' := by
  have hB0 : Below w.heap.size w (w.alloc (.cells #[.int .i64 0, .int .i64 0, .int .i64 0, .bool false] 181)) := (Below.refl _ w).alloc (Nat.le_refl _) _
  have HH := hide (And.intro (h.below hB0) hB0)
  clear hB0
  go_enter Try.func87, Try.ntmps87
  go_wp2_with fail
  refine (dnone_no _ _ HH.out.1).mono ?_
  rintro e w' ⟨rfl, rfl⟩
  dsimp only
  go_wp2_with fail
  refine bodyPost_ret (results_cell_row rfl _ _ w.heap.size 181 #[.int .i64 0, .int .i64 0, .int .i64 0, .bool false] (0, 0) _ rfl (Blk.new _ _ _) Try.underlying181 rfl (by kernel_rfl)) rfl ⟨rfl, HH.out.2⟩
end Go.Proofs.Ytfppddnfdinipaa
end
section
namespace Go.Proofs.Ytfppddnfdinipaa
open Go Go.RowKit
set_option maxRecDepth 100000
def mapObj : Option Nat → Obj
  | none => .map #[] 0
  | some x => .map #[⟨.int .i64 0, .int .u64 (x : Int), 0⟩] 1
theorem look0 {w : World} {b : Nat} {m : Option Nat} (h : w.heap[b]? = some (mapObj m)) : (Instr.lookup 153 (.map (some b)) (.int .i64 0) false).run Try.prog w = .ok (.int .u64 ((m.getD 0 : Nat) : Int)) w := by
  have hu := Try.underlying153
  cases m with
  | none =>
    have hg : (getObj b).run Try.prog w = .ok (.map #[] 0) w := by
      simp [getObj, Sem.run, show w.heap[b]? = some (.map #[] 0) from h]
    have hc : (Instr.checkKey true 10000 3 (.int .i64 0)).run Try.prog w = .ok () w := by kernel_rfl
    have hf : (Instr.findKey 3 (.int .i64 0) []).run Try.prog w = .ok none w := by kernel_rfl
    have hz : (zeroValue 163).run Try.prog w = .ok (.int .u64 0) w := by kernel_rfl
    unfold Instr.lookup
    go_simp
  | some x =>
    have hg : (getObj b).run Try.prog w = .ok (.map #[⟨.int .i64 0, .int .u64 (x : Int), 0⟩] 1) w := by
      simp [getObj, Sem.run, show w.heap[b]? = some (.map #[⟨.int .i64 0, .int .u64 (x : Int), 0⟩] 1) from h]
    have hc : (Instr.checkKey false 10000 3 (.int .i64 0)).run Try.prog w = .ok () w := by kernel_rfl
    have hf : (Instr.findKey 3 (.int .i64 0) [⟨.int .i64 0, .int .u64 (x : Int), 0⟩]).run Try.prog w = .ok (some (0, .int .u64 (x : Int))) w := by kernel_rfl
    unfold Instr.lookup
    go_simp
theorem upd0 {w : World} {b : Nat} {m : Option Nat} (h : w.heap[b]? = some (mapObj m)) (y : Nat) : (Instr.mapUpdate 153 (.map (some b)) (.int .i64 0) (.int .u64 (y : Int))).run Try.prog w = .ok () (w.putObj b (mapObj (some y))) := by
  have hu := Try.underlying153
  have hc : (Instr.checkKey false 10000 3 (.int .i64 0)).run Try.prog w = .ok () w := by kernel_rfl
  cases m with
  | none =>
    have hg : (getObj b).run Try.prog w = .ok (.map #[] 0) w := by
      simp [getObj, Sem.run, show w.heap[b]? = some (.map #[] 0) from h]
    have hf : (Instr.findKey 3 (.int .i64 0) []).run Try.prog w = .ok none w := by kernel_rfl
    have hs : (setObj b (.map #[⟨.int .i64 0, .int .u64 (y : Int), 0⟩] 1)).run Try.prog w = .ok () (w.putObj b (mapObj (some y))) := by
      simp [setObj, Sem.run, show w.heap[b]? = some (.map #[] 0) from h, World.putObj]
      rfl
    unfold Instr.mapUpdate
    go_simp
  | some x =>
    have hg : (getObj b).run Try.prog w = .ok (.map #[⟨.int .i64 0, .int .u64 (x : Int), 0⟩] 1) w := by
      simp [getObj, Sem.run, show w.heap[b]? = some (.map #[⟨.int .i64 0, .int .u64 (x : Int), 0⟩] 1) from h]
    have hf : (Instr.findKey 3 (.int .i64 0) [⟨.int .i64 0, .int .u64 (x : Int), 0⟩]).run Try.prog w = .ok (some (0, .int .u64 (x : Int))) w := by kernel_rfl
    have hk : (Instr.keyThatStays (.int .i64 0) (.int .i64 0)).run Try.prog w = .ok (.int .i64 0) w := by kernel_rfl
    have hs : (setObj b (.map #[⟨.int .i64 0, .int .u64 (y : Int), 0⟩] 1)).run Try.prog w = .ok () (w.putObj b (mapObj (some y))) := by
      simp [setObj, Sem.run, show w.heap[b]? = some (.map #[⟨.int .i64 0, .int .u64 (x : Int), 0⟩] 1) from h, World.putObj]
      rfl
    unfold Instr.mapUpdate
    go_simp
/-- a field of sectors that are held: m: the map's only word, if it has one -/
structure FieldAt (w : World) (g b : Nat) (many held : Nat) (m : Option Nat) : Prop where
  blk : Blk w g 155 #[.map (some b), .int .i64 (many : Int), .int .i64 (held : Int)]
  map : w.heap[b]? = some (mapObj m)
theorem bits_and63 (a : Nat) (h : a < 64) : bits .and .i64 (a : Int) 63 = (a : Int) := by
  have key : ∀ a : Fin 64, bits .and .i64 ((a : Nat) : Int) 63 = ((a : Nat) : Int) := by decide +kernel
  exact key ⟨a, h⟩
theorem natu (X : Nat) (h : X < 18446744073709551616) : (BitVec.ofInt 64 (X : Int)).toNat = X := by
  rw [BitVec.toNat_ofInt, show ((2 ^ 64 : Nat) : Int) = 18446744073709551616 by decide]
  omega
theorem bits_and_u64 (X Y : Nat) (hX : X < 18446744073709551616) (hY : Y < 18446744073709551616) : bits .and .u64 (X : Int) (Y : Int) = ((X &&& Y : Nat) : Int) := by
  show IntKind.u64.wrap ((BitVec.ofInt 64 (X : Int) &&& BitVec.ofInt 64 (Y : Int)).toNat : Int) = _
  rw [BitVec.toNat_and, natu X hX, natu Y hY]
  have h : X &&& Y < 18446744073709551616 := Nat.lt_of_le_of_lt Nat.and_le_left hX
  generalize X &&& Y = t at h
  simp [IntKind.wrap, IntKind.signed, IntKind.bits]
  omega
theorem bits_or_u64 (X Y : Nat) (hX : X < 18446744073709551616) (hY : Y < 18446744073709551616) : bits .or .u64 (X : Int) (Y : Int) = ((X ||| Y : Nat) : Int) := by
  show IntKind.u64.wrap ((BitVec.ofInt 64 (X : Int) ||| BitVec.ofInt 64 (Y : Int)).toNat : Int) = _
  rw [BitVec.toNat_or, natu X hX, natu Y hY]
  have h : X ||| Y < 18446744073709551616 := Nat.or_lt_two_pow (n := 64) hX hY
  generalize X ||| Y = t at h
  simp [IntKind.wrap, IntKind.signed, IntKind.bits]
  omega
theorem has_law (x a : Nat) (hx : x < 18446744073709551616) : (bits .and .u64 ((x : Int) / 2 ^ a) 1 == 1) = x.testBit a := by
  have e : (x : Int) / 2 ^ a = ((x / 2 ^ a : Nat) : Int) := by
    rw [Int.natCast_ediv]
    simp
  have h := bits_and_u64 (x / 2 ^ a) 1 (Nat.lt_of_le_of_lt (Nat.div_le_self _ _) hx) (by omega)
  have h' : bits .and .u64 ((x : Int) / 2 ^ a) 1 = ((x / 2 ^ a &&& 1 : Nat) : Int) := by rw [e]; exact h
  rw [h', Nat.and_one_is_mod, Nat.testBit_eq_decide_div_mod_eq, Bool.eq_iff_iff, beq_iff_eq, decide_eq_true_iff]
  omega
theorem fhas_any (a : Nat) (ha : a < 64) {g b many held : Nat} {m : Option Nat} (w : World) (h : FieldAt w g b many held m) (hm : m.getD 0 < 18446744073709551616) :
    Calls Try.prog 63 #[.pointer (some ⟨g, 0, none⟩), .int .i64 (a : Int)] w fun e w' => e = .returned (.bool ((m.getD 0).testBit a)) ∧ w' = w := by
  have c0 := h.blk.cell 0
  have hl := look0 h.map
  have hlt := h.blk.lt
  have hd : (a : Int) / 64 = 0 := by omega
  have h63 := bits_and63 a ha
  have n1 : (0 : Int) ≤ (a : Int) := by omega
  have n2 : (a : Int) < 64 := by omega
  obtain ⟨x, hx⟩ : ∃ x, x = m.getD 0 := ⟨_, rfl⟩
  rw [← hx] at hl hm ⊢
  clear h hx
  go_enter Try.func63, Try.ntmps63
  go_wp2_with fail
  rw [has_law x a hm]
  go_ret
  exact ⟨rfl, rfl⟩
/-- two blocks at most are turned, and new ones made -/
def setBit (x a : Nat) : Nat := x ||| 2 ^ a
theorem or_law (x a : Nat) (hx : x < 18446744073709551616) (ha : a < 64) : bits .or .u64 (x : Int) (IntKind.u64.wrap (2 ^ a)) = ((setBit x a : Nat) : Int) := by
  have hp : 2 ^ a < 18446744073709551616 := by
    have : 2 ^ a < 2 ^ 64 := Nat.pow_lt_pow_right (by omega) ha
    exact this
  have e : IntKind.u64.wrap ((2 : Int) ^ a) = ((2 ^ a : Nat) : Int) := by
    rw [show ((2 : Int) ^ a) = ((2 ^ a : Nat) : Int) by simp]
    generalize 2 ^ a = t at hp
    simp [IntKind.wrap, IntKind.signed, IntKind.bits]
    omega
  rw [e, bits_or_u64 x (2 ^ a) hx hp]
  rfl
theorem setBit_lt (x a : Nat) (hx : x < 18446744073709551616) (ha : a < 64) : setBit x a < 18446744073709551616 := Nat.or_lt_two_pow (n := 64) hx (Nat.pow_lt_pow_right (by omega) ha)
theorem wpList_upd0 {ops : Array Oper} {rest : List Oper} {o : Oper} {a : Act} {Q : Exit → Act → World → Prop} {w : World} (hg : o.guard = none) (m x v : Operand) (hop : o.op = Op.mapUpdate 153 m x v) (b : Nat) (mm : Option Nat) (h : w.heap[b]? = some (mapObj mm)) (y : Nat)
    (hm : a.eval m = .map (some b)) (hx : a.eval x = .int .i64 0) (hv : a.eval v = .int .u64 (y : Int)) (hK : wpList Try.prog ops Q rest (a.put o.dst undef) (w.putObj b (mapObj (some y)))) : wpList Try.prog ops Q (o :: rest) a w := by
  refine wpList_plain hg fun K' hK' => ?_
  have hrun := upd0 h y
  unfold Oper.wp
  simp [execOp, hop, hm, hx, hv, hrun, Result.andThen]
  exact hK' _ _ hK
theorem FieldAt.ne {w : World} {g b many held : Nat} {m : Option Nat} (h : FieldAt w g b many held m) : g ≠ b := by
  rintro rfl
  have h1 : w.heap[g]? = some (.cells #[.map (some g), .int .i64 (many : Int), .int .i64 (held : Int)] 155 (0, 0)) := h.blk
  rw [h.map] at h1
  cases m <;> cases h1
theorem hold_yes (a : Nat) (ha : a < 64) {g b many held : Nat} {m : Option Nat} (w : World) (h : FieldAt w g b many held m) (hm : m.getD 0 < 18446744073709551616) (hh : held < 1000000) (ht : (m.getD 0).testBit a = false) :
    Calls Try.prog 121 #[.pointer (some ⟨g, 0, none⟩), .int .i64 (a : Int)] w fun e w' => e = .returned (.bool true) ∧ FieldAt w' g b many (held + 1) (some (setBit (m.getD 0) a)) ∧ w'.heap.size = w.heap.size ∧ (∀ k, k ≠ g → k ≠ b → w'.heap[k]? = w.heap[k]?) ∧ Below 0 w w' := by
  have HF := hide (And.intro h hm)
  have c0 := h.blk.cell 0
  have c2 := h.blk.cell 2
  have hl2 : ∀ n, (Instr.lookup 153 (.map (some b)) (.int .i64 0) false).run Try.prog (w.drewN n) = .ok (.int .u64 ((m.getD 0 : Nat) : Int)) (w.drewN n) := fun n => look0 (w := w.drewN n) h.map
  have hlt := h.blk.lt
  have hd : (a : Int) / 64 = 0 := by omega
  have h63 := bits_and63 a ha
  have n1 : (0 : Int) ≤ (a : Int) := by omega
  have n2 : (a : Int) < 64 := by omega
  clear h hm
  go_enter Try.func121, Try.ntmps121
  go_wp2_with fail
  refine (fhas_any a ha w HF.out.1 HF.out.2).mono ?_
  rintro e w' ⟨rfl, rfl⟩
  rw [ht]
  dsimp only
  go_wp2_with fail
  refine wp_quiet_tail_drewN 11 (by kernel_rfl) (by kernel_rfl) ?_
  simp only [List.take_succ_cons, List.take_zero, List.drop_succ_cons, List.drop_zero]
  repeat (go_big_quiet_step (fail))
  refine wpQuiet_nil ?_
  intro nq
  rw [or_law _ a HF.out.2 ha]
  refine wpList_upd0 (o := ⟨none, _, _, _, _, _⟩) rfl _ _ _ rfl b m (show (w'.drewN nq).heap[b]? = _ from HF.out.1.map) (setBit (m.getD 0) a) rfl rfl rfl ?_
  obtain ⟨w1, hw1⟩ : ∃ w1, w1 = (w'.drewN nq).putObj b (mapObj (some (setBit (m.getD 0) a))) := ⟨_, rfl⟩
  have hne := HF.out.1.ne
  have hb1 : Blk w1 g 155 #[.map (some b), .int .i64 (many : Int), .int .i64 (held : Int)] := by
    rw [hw1]
    exact (World.putObj_heap_other hne).trans HF.out.1.blk
  have hlb : b < w'.heap.size := (Array.getElem?_eq_some_iff.1 HF.out.1.map).1
  have hm1 : w1.heap[b]? = some (mapObj (some (setBit (m.getD 0) a))) := by
    rw [hw1]
    exact World.putObj_heap_same hlb
  have hs1 : w1.heap.size = w'.heap.size := by rw [hw1, World.putObj_size]; rfl
  have ho1 : ∀ k, k ≠ b → w1.heap[k]? = w'.heap[k]? := fun k hk => by rw [hw1]; exact World.putObj_heap_other hk
  have hbel : Below 0 w' w1 := by
    refine ⟨?_, ?_, ?_, by omega, fun k hk => absurd hk (by omega)⟩ <;> rw [hw1] <;> rfl
  rw [← hw1]
  have H1 := hide (And.intro hb1 (And.intro hm1 (And.intro hs1 (And.intro ho1 hbel))))
  have c2 := hb1.cell 2
  have f2 := hb1.frozen 2
  have hlt1 := hb1.lt
  have n3 : (held : Int) < 1000000 := by omega
  clear hw1 hb1 hm1 hs1 ho1 c0 hl2 hlb hbel
  simp only [Act.put]
  go_wp2_with fail
  go_ret
  obtain ⟨hb1, hm1, hs1, ho1, hbel⟩ := H1.out
  have hset := hb1.set_ 2 (.int .i64 ((held : Int) + 1))
  have hsz : (w1.setCell ⟨g, 2, none⟩ (.int .i64 ((held : Int) + 1))).heap.size = w1.heap.size := by simp
  refine ⟨rfl, ⟨?_, (Below.heap_setCell w1 ⟨g, 2, none⟩ _ b (fun e => hne e.symm)).trans hm1⟩, hsz.trans hs1, (fun k hk hk2 => (Below.heap_setCell w1 ⟨g, 2, none⟩ _ k hk).trans (ho1 k hk2)), hbel.setCell (by omega) _⟩
  rw [show ((held + 1 : Nat) : Int) = (held : Int) + 1 by omega]
  exact hset
theorem hold_no (a : Nat) (ha : a < 64) {g b many held : Nat} {m : Option Nat} (w : World) (h : FieldAt w g b many held m) (hm : m.getD 0 < 18446744073709551616) (ht : (m.getD 0).testBit a = true) :
    Calls Try.prog 121 #[.pointer (some ⟨g, 0, none⟩), .int .i64 (a : Int)] w fun e w' => e = .returned (.bool false) ∧ w' = w := by
  go_enter Try.func121, Try.ntmps121
  go_wp2_with fail
  refine (fhas_any a ha w h hm).mono ?_
  rintro e w' ⟨rfl, rfl⟩
  rw [ht]
  dsimp only
  go_wp2_with fail
  go_ret
  exact ⟨rfl, rfl⟩
/-- a set of sectors, as the word's bits -/
def Bits (x : Nat) (l : List Nat) : Prop := x < 18446744073709551616 ∧ ∀ a, a < 64 → x.testBit a = l.contains a
theorem Bits.nil : Bits 0 [] := ⟨by omega, fun a _ => by simp⟩
theorem Bits.add {x a : Nat} {l : List Nat} (h : Bits x l) (ha : a < 64) : Bits (setBit x a) (l ++ [a]) := by
  refine ⟨setBit_lt x a h.1 ha, fun k hk => ?_⟩
  unfold setBit
  rw [Nat.testBit_or, h.2 k hk, Nat.testBit_two_pow, Bool.eq_iff_iff]
  simp only [Bool.or_eq_true, List.contains_iff_mem, decide_eq_true_iff, List.mem_append, List.mem_singleton]
  constructor
  · rintro (h | h)
    · exact .inl h
    · exact .inr h.symm
  · rintro (h | h)
    · exact .inl h
    · exact .inr h.symm
end Go.Proofs.Ytfppddnfdinipaa
end
section
namespace Go.Proofs.Ytfppddnfdinipaa
open Go Go.RowKit Go.Shelf
attribute [local go_sem] Oper.semAt_some
/-- what a round leaves alone: what lay ahead, but for S; what the iterator has made -/
structure KeepsI (S : Nat → Prop) (n₀ : Nat) (W W' : World) : Prop where
  size : W.heap.size ≤ W'.heap.size
  old : ∀ k o, k < n₀ → ¬ S k → W.heap[k]? = some o → o.isCells = true → W'.heap[k]? = some o
  run : ∀ k cs fr, n₀ ≤ k → W.heap[k]? = some (.cells cs 88 fr) → W'.heap[k]? = some (.cells cs 88 fr)
variable {S : Nat → Prop} {n₀ : Nat}
theorem KeepsI.refl (W : World) : KeepsI S n₀ W W := ⟨Nat.le_refl _, fun _ _ _ _ h _ => h, fun _ _ _ _ h => h⟩
theorem KeepsI.trans {A B C : World} (h : KeepsI S n₀ A B) (k : KeepsI S n₀ B C) : KeepsI S n₀ A C :=
  ⟨Nat.le_trans h.size k.size, fun i o h1 h2 h3 h4 => k.old i o h1 h2 (h.old i o h1 h2 h3 h4) h4, fun i cs fr h1 h2 => k.run i cs fr h1 (h.run i cs fr h1 h2)⟩
theorem KeepsI.alloc (W : World) (o : Obj) : KeepsI S n₀ W (W.alloc o) :=
  ⟨by simp, fun k _ _ _ h _ => (Below.heap_alloc W o k (Array.getElem?_eq_some_iff.1 h).1).trans h, fun k _ _ _ h => (Below.heap_alloc W o k (Array.getElem?_eq_some_iff.1 h).1).trans h⟩
theorem KeepsI.below {W W' : World} (h : Below W.heap.size W W') : KeepsI S n₀ W W' :=
  ⟨h.size, fun k _ _ _ hk _ => (h.block k (Array.getElem?_eq_some_iff.1 hk).1).trans hk, fun k _ _ _ hk => (h.block k (Array.getElem?_eq_some_iff.1 hk).1).trans hk⟩
theorem KeepsI.putObj {w : World} (hn : n₀ ≤ w.heap.size) (W : World) (l : Nat) (o o' : Obj) (hl : w.heap.size ≤ l) (h : W.heap[l]? = some o) (hc : o.isCells = false) (_ : o.isWalk = false) : KeepsI S n₀ W (W.putObj l o') :=
  ⟨by simp, fun k _ h1 _ hk _ => (World.putObj_heap_other (by omega)).trans hk, fun k cs fr _ hk => (World.putObj_heap_other (fun e => by
    subst e
    rw [h] at hk
    injection hk with hk
    subst hk
    cases hc)).trans hk⟩
theorem KeepsI.cell {W W' : World} (h : KeepsI S n₀ W W') {b i : Nat} {v : Value} (hb : b < n₀) (hs : ¬ S b) (hc : W.cell? ⟨b, i, none⟩ = some v) : W'.cell? ⟨b, i, none⟩ = some v := by
  have hlt := World.block_lt_of_cell? W _ hc
  have ho : W.heap[b]? = some W.heap[b] := Array.getElem?_eq_getElem hlt
  have h2 : W'.heap[b]? = W.heap[b]? := by
    rw [ho]
    refine h.old b _ hb hs ho ?_
    cases hob : W.heap[b] with
    | cells => rfl
    | _ => (rw [World.cell?] at hc; simp only [ho, hob] at hc; cases hc)
  exact (World.cell?_of_block h2).trans hc
theorem KeepsI.blk {W W' : World} (h : KeepsI S n₀ W W') {g : Nat} {cs : Array Value} (hg : n₀ ≤ g) (hb : Blk W g 88 cs) : Blk W' g 88 cs := h.run g cs (0, 0) hg hb
theorem pos_at : ∀ (rs : List Run) (i : Nat) (r : Run) (k : Nat), rs[i]? = some r → k < r.2.toNat → (pos rs)[(pos (rs.take i)).length + k]? = some (r.1.toNat + k)
  | [], i, r, k, h, _ => by simp at h
  | q :: rs, 0, r, k, h, hk => by
    simp only [List.getElem?_cons_zero, Option.some.injEq] at h
    subst h
    show (posR q ++ pos rs)[0 + k]? = _
    rw [Nat.zero_add, List.getElem?_append_left (by simpa [posR] using hk)]
    simp [posR, hk]
  | q :: rs, i + 1, r, k, h, hk => by
    show (posR q ++ pos rs)[(posR q ++ pos (rs.take i)).length + k]? = _
    rw [List.length_append, List.getElem?_append_right (by omega), show (posR q).length + (pos (rs.take i)).length + k - (posR q).length = (pos (rs.take i)).length + k by omega]
    exact pos_at rs i r k (by simpa using h) hk
theorem pos_take (rs : List Run) (i : Nat) (r : Run) (h : rs[i]? = some r) : (pos (rs.take (i + 1))).length = (pos (rs.take i)).length + r.2.toNat := by
  obtain ⟨hi, he⟩ := List.getElem?_eq_some_iff.1 h
  rw [List.take_succ_eq_append_getElem hi, he]
  simp [pos, posR]
theorem pos_take_le (rs : List Run) (i : Nat) : (pos (rs.take i)).length ≤ (pos rs).length := by
  have : pos rs = pos (rs.take i) ++ pos (rs.drop i) := by
    unfold pos
    rw [← List.flatMap_append, List.take_append_drop]
  rw [this, List.length_append]
  omega
def posE (rs : List Run) (x : Nat) : Array Value := #[.int .i64 (((pos rs).getD x 0 : Nat) : Int)]
set_option maxRecDepth 100000 in
set_option maxHeartbeats 2000000 in
theorem each1_in (F : Fence) (n : Nat) (h1 : F.fn 122) (hro : F.round = none) (hn : 1 ≤ n) (l Bd cp : Nat) (A : Option Addr) (rs : List Run) (hlen : rs.length ≤ 1000000) (hd : ∀ r ∈ rs, 0 ≤ r.1 ∧ 0 ≤ r.2 ∧ r.1 + r.2 ≤ 1000000) (J Jx : List Nat → World → Prop)
    (hJ : ∀ s W o, J s W → n₀ ≤ W.heap.size → J s (W.alloc o))
    (hY : ∀ pre x W, J pre W → pre.length < (pos rs).length → YieldAt F (n - 1) Try.prog l (posE rs x) W fun e W' =>
      (e = .returned (.bool true) ∧ J (pre ++ [x]) W' ∧ KeepsI S n₀ W W') ∨ (e = .returned (.bool false) ∧ Jx (pre ++ [x]) W'))
    (W : World) (hW : n₀ ≤ W.heap.size) (hb : W.cell? ⟨Bd, 0, none⟩ = some (.slice A rs.length cp)) (hr : 0 < rs.length → ∃ b off, A = some ⟨b, off, none⟩ ∧ b < n₀ ∧ ¬ S b ∧ ∀ j r, rs[j]? = some r → W.cell? ⟨b, off + j * 2, none⟩ = some (.int .i64 r.1) ∧ W.cell? ⟨b, off + j * 2 + 1, none⟩ = some (.int .i64 r.2)) (h0 : J [] W) :
    CallsIn F n Try.prog 122 #[.func (.yield l) #[] #[], .pointer (some ⟨Bd, 0, none⟩)] W fun e W' => (∃ v, e = .returned v) ∧
      ((∃ ys, ys = List.range (pos rs).length ∧ J ys W') ∨ (∃ pre, (∃ k, k < (pos rs).length ∧ pre = List.range (k + 1)) ∧ Jx pre W')) := by
  have HR := hide hr
  have HY := hide hY
  have HD := hide hd
  have HJ := hide hJ
  clear hr hY hd hJ
  refine callsIn_of_wp Try.func122 rfl h1 ?_ hro
  simp only [Try.ntmps122, List.size_toArray, List.length_cons, List.length_nil, Nat.reduceAdd, Nat.reduceSub, Array.replicate_succ, Array.replicate_zero, List.push_toArray, List.append_toArray, List.nil_append, List.cons_append]
  gi_wp2
  gi_loopw [8] (fun i wr => ∃ k : Nat, k ≤ rs.length ∧ i = .int .i64 (k : Int) ∧ J (List.range (pos (rs.take k)).length) wr ∧ KeepsI S n₀ W wr)
    (fun i _ => rs.length - (intOf i).toNat)
  case atStart => exact ⟨0, by omega, rfl, h0, KeepsI.refl _⟩
  case round =>
    obtain ⟨k, hk, rfl, hJs, hnx⟩ := hrel
    have HJs := hide hJs
    have HN := hide hnx
    clear hJs hnx
    by_cases hk2 : k < rs.length
    · obtain ⟨r, hrk⟩ : ∃ r, rs[k]? = some r := ⟨_, List.getElem?_eq_getElem hk2⟩
      obtain ⟨b, off, hA, hbn, hSb, hcs⟩ := HR.out (by omega)
      subst hA
      have c1 := HN.out.cell hbn hSb (hcs k r hrk).1
      have c2 := HN.out.cell hbn hSb (hcs k r hrk).2
      have n1 : (k : Int) < (rs.length : Int) := by omega
      have n2 : (0 : Int) ≤ (k : Int) := by omega
      have hpt := pos_take rs k r hrk
      have hrl := HD.out r (List.mem_of_getElem? hrk)
      obtain ⟨d1, d2, d3⟩ := hrl
      obtain ⟨q, hq⟩ : ∃ q, q = (pos (rs.take k)).length := ⟨_, rfl⟩
      have hJ0 := HJs.out
      rw [← hq] at hpt hJ0
      have HQ := hide (And.intro hpt (And.intro hq hrk))
      clear hpt hq hrk HJs hcs
      gi_wp2
      have hwn : n₀ ≤ wr.heap.size := Nat.le_trans hW HN.out.size
      have hJ1 := HJ.out _ wr (.cells #[.int .i64 r.1, .int .i64 r.2] 88) hJ0 hwn
      have hK1 := HN.out.trans (KeepsI.alloc wr (.cells #[.int .i64 r.1, .int .i64 r.2] 88))
      have hb1 := Blk.new wr 88 #[.int .i64 r.1, .int .i64 r.2]
      generalize wr.alloc (.cells #[.int .i64 r.1, .int .i64 r.2] 88) = w1 at hJ1 hK1 hb1 ⊢
      generalize wr.heap.size = g1 at hwn hb1 ⊢
      have H1 := hide (And.intro hJ1 (And.intro hK1 (And.intro hb1 hwn)))
      clear hJ0 hJ1 hK1 hb1 hwn HN c1 c2
      gi_loopw [5] (fun v w2 => ∃ j : Nat, j ≤ r.2.toNat ∧ v = .int .i64 (r.1 + (j : Int)) ∧ J (List.range (q + j)) w2 ∧ KeepsI S n₀ w1 w2) (fun v _ => r.2.toNat - (intOf v - r.1).toNat)
      case atStart => exact ⟨0, by omega, by simp, H1.out.1, KeepsI.refl _⟩
      case round =>
        obtain ⟨j, hj, rfl, hJs, hnx⟩ := hrel
        have hb2 := hnx.blk H1.out.2.2.2 H1.out.2.2.1
        have c1 := hb2.cell 0
        have c2 := hb2.cell 1
        have hlt2 := hb2.lt
        have HJs := hide hJs
        have HN := hide hnx
        clear hJs hnx hb2
        by_cases hj2 : j < r.2.toNat
        · have n3 : r.1 + (j : Int) < r.1 + r.2 := by omega
          have hle := pos_take_le rs (k + 1)
          have hpe : posE rs (q + j) = #[.int .i64 (r.1 + (j : Int))] := by
            unfold posE
            have h := pos_at rs k r j HQ.out.2.2 hj2
            rw [← HQ.out.2.1] at h
            rw [List.getD, h]
            show #[Value.int .i64 ((r.1.toNat + j : Nat) : Int)] = _
            rw [show ((r.1.toNat + j : Nat) : Int) = r.1 + (j : Int) by omega]
          obtain ⟨fn, tmps, assign, body, hy, hR⟩ := HY.out (List.range (q + j)) (q + j) wr HJs.out (by rw [List.length_range]; have := HQ.out.1; omega)
          rw [hpe] at hy
          gi_wp2
          refine hR.mono ?_
          rintro e W3 (⟨rfl, hJ3, hk3⟩ | ⟨rfl, hJx3⟩)
          · have H3 := hide (And.intro hJ3 hk3)
            clear hJ3 hk3
            gi_wp2
            exact ⟨⟨j + 1, by omega, by go_num, by rw [← Nat.add_assoc, List.range_succ]; exact H3.out.1, HN.out.trans H3.out.2⟩, by simp [intOf]; omega⟩
          · have H3 := hide hJx3
            clear hJx3
            gi_wp2
            refine bodyPost_ret (results_none rfl _ _ _) rfl ?_
            exact ⟨⟨_, rfl⟩, .inr ⟨_, ⟨q + j, by have := HQ.out.1; omega, (List.range_succ).symm⟩, H3.out⟩⟩
        · have n3 : ¬ (r.1 + (j : Int) < r.1 + r.2) := by omega
          obtain rfl : j = r.2.toNat := by omega
          gi_wp2
          refine ⟨⟨k + 1, by omega, by go_num, ?_, H1.out.2.1.trans HN.out⟩, by simp [intOf]; omega⟩
          rw [HQ.out.1]
          exact HJs.out
    · obtain rfl : k = rs.length := by omega
      have hJs := HJs.out
      rw [List.take_length] at hJs
      have HJ2 := hide hJs
      clear hJs
      gi_wp2
      go_end0
      exact ⟨⟨_, rfl⟩, .inl ⟨_, rfl, HJ2.out⟩⟩
theorem each_any (A : Option Addr) (n cp : Nat) (w : World) : Calls Try.prog 66 #[.slice A n cp] w fun e w' => e = .returned (.func (.func 122) #[] #[.pointer (some ⟨w.heap.size, 0, none⟩)]) ∧ w' = w.alloc (.cells #[.slice A n cp] 73) := by
  go_enter Try.func66, Try.ntmps66
  go_wp2
  go_ret
  exact ⟨rfl, rfl⟩
/-- the sectors of runs, as a loop is owed them -/
theorem each_stops (F : Fence) (n : Nat) (h1 : F.fn 122) (hro : F.round = none) (hn : 1 ≤ n) (Bd cp : Nat) (A : Option Addr) (rs : List Run) (hlen : rs.length ≤ 1000000) (hd : ∀ r ∈ rs, 0 ≤ r.1 ∧ 0 ≤ r.2 ∧ r.1 + r.2 ≤ 1000000) (w : World) (hw : n₀ ≤ w.heap.size) (hBd : Bd < w.heap.size)
    (hb : w.cell? ⟨Bd, 0, none⟩ = some (.slice A rs.length cp)) (hr : 0 < rs.length → ∃ b off, A = some ⟨b, off, none⟩ ∧ b < n₀ ∧ ¬ S b ∧ ∀ j r, rs[j]? = some r → w.cell? ⟨b, off + j * 2, none⟩ = some (.int .i64 r.1) ∧ w.cell? ⟨b, off + j * 2 + 1, none⟩ = some (.int .i64 r.2)) :
    SeqStopsK F n Try.prog 122 #[.pointer (some ⟨Bd, 0, none⟩)] (posE rs) (KeepsI S n₀) (fun ys => ys = List.range (pos rs).length) (fun pre => ∃ k, k < (pos rs).length ∧ pre = List.range (k + 1)) (pos rs).length w := fun l J Jx W hW hJ _ hY h0 =>
  each1_in F n h1 hro hn l Bd cp A rs hlen hd J Jx (fun s W1 o hs _ => hJ s W1 _ none hs (World.grownBy_alloc W1 o none) (fun r e => by cases e)) hY W (Nat.le_trans hw hW.size) ((hW.cell (p := ⟨Bd, 0, none⟩) hBd).trans hb) (fun h => by
    obtain ⟨b, off, e1, e2, e3, e4⟩ := hr h
    exact ⟨b, off, e1, e2, e3, fun j r hj => ⟨(hW.cell (p := ⟨b, off + j * 2, none⟩) (by show b < _; omega)).trans (e4 j r hj).1, (hW.cell (p := ⟨b, off + j * 2 + 1, none⟩) (by show b < _; omega)).trans (e4 j r hj).2⟩⟩) h0
end Go.Proofs.Ytfppddnfdinipaa
end
