/- spenceref04: a write is kept; what flushes, what wakes. spenceref04: a write of the document's device. -/
import Derived.Test.YtajeohmmobgcjaaMRDevA
section
namespace Go.Proofs.Ytajeohmmobgcjaa
open Go Go.RowKit
set_option maxRecDepth 100000
set_option maxHeartbeats 1000000 in
theorem rkeep_any {g ra c n q c2 : Nat} {vw : Value} {de fu : Int} {dn : Bool} (K : List (List UInt8)) (x : Nat) (b : List UInt8) (w : World) (hn : n ≤ 8192) (hKn : K.length = n) (hK : ∀ b ∈ K, b.length = 64) (hx : x < n) (hb64 : b.length = 64)
    (hb : Blk w g 82 (rdv (.slice (some ⟨ra, 0, none⟩) (n * 64) c) vw de fu dn)) (ha : w.ownsRow 0 5 1 (.slice (some ⟨ra, 0, none⟩) (n * 64) c) (n * 64) (keptCells K)) (hq : w.ownsRow 0 5 1 (.slice (some ⟨q, 0, none⟩) 64 c2) 64 (bv b)) :
    Calls Try.prog 77 #[.pointer (some ⟨g, 0, none⟩), .agg #[.int .i64 (x : Int), .slice (some ⟨q, 0, none⟩) 64 c2]] w fun e w' => e = .returned (.tuple #[]) ∧ w'.ownsRow 0 5 1 (.slice (some ⟨ra, 0, none⟩) (n * 64) c) (n * 64) (keptCells (K.set x b)) ∧ Turned (fun k => k = ra) w w' := by
  obtain ⟨cur, hcur, hcs, hnc, hup⟩ := own_upd ha
  rw [Nat.mul_one] at hcs hup
  have c0 := (hb.cell 0).trans (rdv0 ..)
  have hlt := hb.lt
  have hraw : ra < w.heap.size := (owned_ltN ha rfl).2
  have hqw : q < w.heap.size := (owned_ltN hq rfl).2
  have i0 : (0 : Int) ≤ (x : Int) := by omega
  have i1 : (x : Int) ≤ 8192 := by omega
  have HUP := hide (And.intro hup (And.intro hq hcur))
  have HKS := hide (kept_set K x b hK hb64 (by omega))
  clear hb ha hup hq hcur hK hKn
  have hbx0 := Blk.new w 126 #[.int .i64 (x : Int), .slice (some ⟨q, 0, none⟩) 64 c2]
  go_enter Try.func77, Try.ntmps77
  go_wp2_with fail
  obtain ⟨w1, hw1⟩ : ∃ w1, w1 = w.alloc (.cells #[.int .i64 (x : Int), .slice (some ⟨q, 0, none⟩) 64 c2] 126) := ⟨_, rfl⟩
  rw [← hw1] at hbx0 ⊢
  have hB1 : Below w.heap.size w w1 := by rw [hw1]; exact (Below.refl _ _).alloc (Nat.le_refl _) _
  have HBX := hide hbx0
  have hbx : w.heap.size < w1.heap.size := hbx0.lt
  have hg1 : g < w1.heap.size := by omega
  have c0 := (hB1.cell (p := ⟨g, 0, none⟩) hlt).trans c0
  clear hw1 hbx0
  refine wp_made 10 [] (by kernel_rfl) (by kernel_rfl) (by intro p hp; cases hp) List.nodup_nil (by intro t ht; cases ht) ?_
  simp only [List.take_succ_cons, List.take_zero, List.drop_succ_cons, List.drop_zero]
  refine made_val (.pointer (some ⟨g, 0, none⟩)) (by kernel_rfl) (by kernel_rfl) (by kernel_rfl) (fun _ _ => by kernel_rfl) ?_
  simp only [Act.put, List.setIfInBounds_toArray, List.set_cons_zero, List.set_cons_succ]
  refine made_val (.pointer (some ⟨g, 0, none⟩)) (by kernel_rfl) (by kernel_rfl) (by kernel_rfl) (fun _ _ => by kernel_rfl) ?_
  simp only [Act.put, List.setIfInBounds_toArray, List.set_cons_zero, List.set_cons_succ]
  refine made_val (.pointer (some ⟨g, 0, none⟩)) (by kernel_rfl) (by kernel_rfl) (by kernel_rfl) (fun _ _ => by kernel_rfl) ?_
  simp only [Act.put, List.setIfInBounds_toArray, List.set_cons_zero, List.set_cons_succ]
  refine made_val (.slice (some ⟨ra, 0, none⟩) (n * 64) c) (by kernel_rfl) (by kernel_rfl) (by kernel_rfl) (fun W hW => exec_load_slice (o := ⟨some 7, _, _, _, _, _⟩) 48 5 (.tmp 6) rfl ⟨g, 0, none⟩ rfl _ W Try.underlying48 ((hW.cell (p := ⟨g, 0, none⟩) hg1).trans c0)) ?_
  simp only [Act.put, List.setIfInBounds_toArray, List.set_cons_zero, List.set_cons_succ]
  refine made_val (.pointer (some ⟨w.heap.size, 0, none⟩)) (by kernel_rfl) (by kernel_rfl) (by kernel_rfl) (fun _ _ => by kernel_rfl) ?_
  simp only [Act.put, List.setIfInBounds_toArray, List.set_cons_zero, List.set_cons_succ]
  refine made_val (.int .i64 (x : Int)) (by kernel_rfl) (by kernel_rfl) (by kernel_rfl) (fun W hW => exec_load_cell (o := ⟨some 9, _, _, _, _, _⟩) 3 (.tmp 8) rfl ⟨w.heap.size, 0, none⟩ rfl _ _ W Try.underlying3 rfl ((hW.cell (p := ⟨w.heap.size, 0, none⟩) hbx).trans (HBX.out.cell 0))) ?_
  simp only [Act.put, List.setIfInBounds_toArray, List.set_cons_zero, List.set_cons_succ]
  refine made_val (.int .i64 ((x : Int) * 64)) (by kernel_rfl) (by kernel_rfl) (by kernel_rfl) (fun W hW => ?hmul) ?_
  case hmul =>
    go_simp
    first | done | exact IntWalk.wrap64_in _ (by omega) | (simp [IntKind.wrap, IntKind.signed, IntKind.bits]; omega)
  simp only [Act.put, List.setIfInBounds_toArray, List.set_cons_zero, List.set_cons_succ]
  rw [show (x : Int) * 64 = ((x * 64 : Nat) : Int) by omega]
  refine made_val (.slice (if c = x * 64 then some ⟨ra, 0, none⟩ else (some (⟨ra, 0, none⟩ : Addr)).map (·.add (x * 64))) (n * 64 - x * 64) (c - x * 64)) (by kernel_rfl) (by kernel_rfl) (by kernel_rfl) (fun W _ => exec_slice (o := ⟨some 11, _, _, _, _, _⟩) 48 (.tmp 7) (some (.tmp 10)) none none rfl _ (fun W => run_sliceAt_from 48 5 Try.underlying48 size5 (some ⟨ra, 0, none⟩) (n * 64) c (x * 64) (by omega) W) W) ?_
  simp only [Act.put, List.setIfInBounds_toArray, List.set_cons_zero, List.set_cons_succ]
  rw [if_neg (show ¬ c = x * 64 by omega), show (some (⟨ra, 0, none⟩ : Addr)).map (·.add (x * 64)) = some ⟨ra, x * 64, none⟩ by simp [Addr.add_mid]]
  refine made_val (.pointer (some ⟨w.heap.size, 1, none⟩)) (by kernel_rfl) (by kernel_rfl) (by kernel_rfl) (fun _ _ => by kernel_rfl) ?_
  simp only [Act.put, List.setIfInBounds_toArray, List.set_cons_zero, List.set_cons_succ]
  refine made_val (.slice (some ⟨q, 0, none⟩) 64 c2) (by kernel_rfl) (by kernel_rfl) (by kernel_rfl) (fun W hW => exec_load_slice (o := ⟨some 13, _, _, _, _, _⟩) 48 5 (.tmp 12) rfl ⟨w.heap.size, 1, none⟩ rfl _ W Try.underlying48 ((hW.cell (p := ⟨w.heap.size, 1, none⟩) hbx).trans (HBX.out.cell 1))) ?_
  simp only [Act.put, List.setIfInBounds_toArray, List.set_cons_zero, List.set_cons_succ]
  show ∀ w', _ → _
  intro w4 hb4
  simp only [ended]
  have hb4 : Below w1.heap.size w1 w4 := hb4
  have hB4 : Below w.heap.size w w4 := hB1.trans (Below.mono hb4 (by omega))
  have hcur4 := HUP.out.2.2.below hB4 hraw
  have hq4 : w4.ownsRow 0 5 1 (.slice (some ⟨q, 0, none⟩) 64 c2) 64 (bv b) := owned_keepN HUP.out.2.1 fun k _ hl => hB4.block k hl
  have hsrc : Src w4 (some ⟨q, 0, none⟩) 64 c2 (bv b) := by
    have h := hq4
    rw [show 64 = b.length from hb64.symm] at h ⊢
    exact owned_src0 h
  have hbl : (bv b).length = 64 := by rw [bvL, hb64]
  have hmin : (bv b).length = Nat.min 64 (n * 64 - x * 64) := by rw [hbl]; exact (Nat.min_eq_left (by omega)).symm
  refine wpList_copyS (o := ⟨some 14, _, _, _, _, _⟩) rfl (.tmp 11) (.tmp 13) 48 48 rfl 5 Try.underlying48 size5 ra (x * 64) (n * 64 - x * 64) (c - x * 64) (some ⟨q, 0, none⟩) 64 c2 cur 5 hcur4 (bv b) hmin hsrc (by rw [hbl]; omega) rfl rfl ?_
  intro w5 hb5 hg5
  have H5 := hide (And.intro hb5 (And.intro hg5 hB4))
  clear hb5 hg5 hcur4 hq4 hsrc hmin hB4 hb4
  simp only [Act.put, List.setIfInBounds_toArray, List.set_cons_zero, List.set_cons_succ]
  go_wp2_with fail
  go_end0
  refine ⟨rfl, ?_, (Turned.of_below H5.out.2.2 _).trans (Turned.of_grown H5.out.2.1 (fun k h _ => by injection h with h; exact h.symm))⟩
  rw [HKS.out]
  exact HUP.out.1 w5 (x * 64) (bv b) (by rw [hbl]; omega) H5.out.1
theorem wait_at (us : List (Int × Value)) (i : Nat) (u : Int × Value) (h : us[i]? = some u) : ((waitCells us).drop (i * 2)).take 2 = [.int .i64 u.1, u.2] := by
  unfold waitCells
  refine flat_at (s := 2) (us.map fun u => [.int .i64 u.1, u.2]) i [.int .i64 u.1, u.2] ?_ ?_
  · intro b hb
    obtain ⟨l, hl, rfl⟩ := List.mem_map.1 hb
    rfl
  · simp [h]
theorem sz_wait : (Try.prog.info? 126).map (·.size) = some 2 := by kernel_rfl
theorem RefBlk.slice {w : World} {F : Nat → Prop} {g ra c : Nat} {vw : Value} {us : List (Int × Value)} {D : Dv} (h : RefBlk w F g ra c vw us D) : ∃ A cp, vw = .slice A D.pend.length cp := by
  rcases owned_formN h.row with ⟨h, h0, _⟩ | ⟨r, cap, _, h, _⟩
  · exact ⟨none, 0, by rw [h, h0]⟩
  · exact ⟨_, cap, h⟩
/-- all that was pending has settled -/
theorem rleft_settled {w w' : World} {F : Nat → Prop} {g ra c : Nat} {vw : Value} {us : List (Int × Value)} {D : Dv} {K : List (List UInt8)} {de fu : Int} {dn : Bool} (h : RefBlk w F g ra c vw us D) (hl : K.length = D.kept.length) (hb : Blk w' g 82 (rdv (.slice (some ⟨ra, 0, none⟩) (D.kept.length * 64) c) (.slice none 0 0) de fu dn))
    (ha : w'.ownsRow 0 5 1 (.slice (some ⟨ra, 0, none⟩) (D.kept.length * 64) c) (D.kept.length * 64) (keptCells K)) (ht : Turned (fun k => k = g ∨ k = ra) w w') (hok : Dv.Ok { de := de, fu := fu, dn := dn, kept := K, pend := [] }) : RLeft w F g { de := de, fu := fu, dn := dn, kept := K, pend := [] } w' := by
  refine ⟨F, ⟨ra, c, .slice none 0 0, [], h.fg, h.fa, fun k hk => (by cases hk), fun k hf => Nat.lt_of_lt_of_le (h.flt k hf) ht.size, by rw [hl]; exact hb, by rw [hl]; exact ha, ⟨rfl, .inl ⟨rfl, rfl⟩⟩, ⟨rfl, fun i p hp => by simp at hp⟩, hok⟩, ht.mono fun k _ hk => ?_, fun _ h => .inl h⟩
  rcases hk with rfl | rfl
  · exact h.fg
  · exact h.fa
set_option maxHeartbeats 1000000 in
theorem rflush_any {D : Dv} {F : Nat → Prop} {g : Nat} (w : World) (h : RefAt w F g D) (hde : D.de ≤ 1000000000) (hm : D.pend.length ≤ 100000) :
    Calls Try.prog 67 #[.pointer (some ⟨g, 0, none⟩)] w fun e w' => e = .returned (.int .i64 D.flush.1) ∧ RLeft w F g D.flush.2 w' := by
  have h0 := h
  obtain ⟨ra, c, vw, us, hr⟩ := h
  obtain ⟨A, cp, rfl⟩ := hr.slice
  have hb := hr.blk
  have HR := hide (And.intro h0 hr)
  have hnk := hr.ok.n2
  clear h0
  cases hdn : D.dn with
  | true =>
    rw [show D.flush = (10, D) by simp [Dv.flush, hdn]]
    rw [hdn] at hb
    have c4 := (hb.cell 4).trans (rdv4 ..)
    have hlt := hb.lt
    clear hb hr
    go_enter Try.func67, Try.ntmps67
    go_wp2
    go_ret
    exact ⟨rfl, .same HR.out.1⟩
  | false =>
    rw [hdn] at hb
    have c4 := (hb.cell 4).trans (rdv4 ..)
    have hlt := hb.lt
    rcases tick_cases D.de D.fu with ⟨hf, ht⟩ | ⟨fu', ht, hf⟩
    · have ok' := hr.ok.ticked ht D.pend hr.ok.p64 true
      rw [show D.flush = (10, { D with de := D.de, fu := 0, dn := true }) by simp [Dv.flush, hdn, ht]]
      have HT := hide (And.intro ht (And.intro hr.ok.de hr.ok.fu))
      have HX := hide (And.intro ok' hb)
      clear ok' ht hb hr
      go_enter Try.func67, Try.ntmps67
      go_wp2_with fail
      refine (rdeed_any _ ⟨HT.out.2.1, hde⟩ HT.out.2.2 HX.out.2).mono ?_
      rintro e w1 ⟨rfl, hb1, hg1⟩
      rw [HT.out.1] at hb1 ⊢
      rw [show decide ((10 : Int) = 0) = false from rfl]
      dsimp only at hb1 ⊢
      have H1 := hide (And.intro hb1 hg1)
      clear hb1 hg1
      go_wp2_with fail
      go_ret
      have h2 := rleft_own HR.out.2 (D' := { D with de := D.de, fu := 0, dn := true }) H1.out.1 H1.out.2 rfl rfl HX.out.1
      exact ⟨rfl, F, ⟨_, _, _, _, h2.1⟩, h2.2, fun _ h => .inl h⟩
    · have ok' := hr.ok.settled (fun _ => true) false (show 0 ≤ D.de + 1 by have := hr.ok.de; omega) (show 0 ≤ fu' ∧ fu' ≤ 9223372036854775807 by have := hr.ok.fu; exact ⟨hf.1 this.1, by omega⟩)
      rw [show D.flush = (0, { de := D.de + 1, fu := fu', dn := false, kept := settleL (fun _ => true) 0 D.pend D.kept, pend := [] }) by simp [Dv.flush, hdn, ht]]
      have HT := hide (And.intro ht (And.intro hr.ok.de hr.ok.fu))
      have HX := hide (And.intro ok' hb)
      clear ok' ht hb hr
      go_enter Try.func67, Try.ntmps67
      go_wp2_with fail
      refine (rdeed_any _ ⟨HT.out.2.1, hde⟩ HT.out.2.2 HX.out.2).mono ?_
      rintro e w1 ⟨rfl, hb1, hg1⟩
      rw [HT.out.1] at hb1 ⊢
      rw [show decide ((0 : Int) = 0) = true from rfl]
      dsimp only at hb1 ⊢
      have hne1 : ∀ {n s : Nat} {e : TypeId} {v : Value} {xs : List Value}, w.ownsRow 0 e s v n xs → e ≠ 82 → w1.ownsRow 0 e s v n xs := fun h2 he => owned_keepN h2 fun k hv hl => hg1.block k hl (fun e' => owned_neN h2 HR.out.2.blk he (by rw [hv, e']))
      have ha1 := hne1 HR.out.2.all (by decide)
      have hw1 := hne1 HR.out.2.row (by decide)
      have hq1 : ∀ (i : Nat) (p : Int × List UInt8), D.pend[i]? = some p → ∃ q c, us[i]? = some (p.1, .slice (some ⟨q, 0, none⟩) 64 c) ∧ q ≠ ra ∧ w1.ownsRow 0 5 1 (.slice (some ⟨q, 0, none⟩) 64 c) 64 (bv p.2) := fun i p hp => by
        obtain ⟨q, c, h1, _, h3, h4⟩ := HR.out.2.wts.2 i p hp
        exact ⟨q, c, h1, h3, hne1 h4 (by decide)⟩
      have hgr : g ≠ ra := fun e => owned_neN HR.out.2.all HR.out.2.blk (by decide) (by rw [e]; rfl)
      have hlt1 := hb1.lt
      have H1 := hide (And.intro (And.intro hb1 hg1) (And.intro ha1 (And.intro hw1 (And.intro hq1 hgr))))
      clear hb1 hg1 hne1 ha1 hw1 hq1 hgr
      go_wp2_with fail
      go_loopw [3] (fun v wr => ∃ i : Nat, i ≤ D.pend.length ∧ v = .int .i64 (i : Int) ∧ wr.ownsRow 0 5 1 (.slice (some ⟨ra, 0, none⟩) (D.kept.length * 64) c) (D.kept.length * 64) (keptCells (settleL (fun _ => true) 0 (D.pend.take i) D.kept)) ∧ Turned (fun k => k = ra) w1 wr) (fun v _ => D.pend.length - (intOf v).toNat)
      case atStart => exact ⟨0, by omega, rfl, by simpa [settleL] using H1.out.2.1, Turned.refl _ _⟩
      case round =>
        obtain ⟨i, hi, rfl, ha, ht⟩ := hrel
        have hgb : Blk wr g 82 (rdv (.slice (some ⟨ra, 0, none⟩) (D.kept.length * 64) c) (.slice A D.pend.length cp) (D.de + 1) fu' false) := (ht.block g hlt1 H1.out.2.2.2.2).trans H1.out.1.1
        have c1 := (hgb.cell 1).trans (rdv1 ..)
        have f1 := hgb.frozen 1
        have hltr := hgb.lt
        have HW := hide (And.intro ha (And.intro ht hgb))
        clear ha ht hgb
        by_cases hil : i < D.pend.length
        · have i1 : (i : Int) < (D.pend.length : Int) := by omega
          have i0 : (0 : Int) ≤ (i : Int) := by omega
          obtain ⟨rw_, cap', hvp⟩ := owned_placeN H1.out.2.2.1 (by omega)
          injection hvp with e1 _ e2
          subst e1 e2
          obtain ⟨⟨x0, b⟩, hpj⟩ : ∃ p, D.pend[i]? = some p := ⟨D.pend[i]'hil, List.getElem?_eq_getElem _⟩
          have hpo := HR.out.2.ok.p64 _ (List.mem_of_getElem? hpj)
          obtain ⟨x, rfl⟩ : ∃ x : Nat, x0 = (x : Int) := ⟨x0.toNat, by have := hpo.2.1; dsimp only at this; omega⟩
          have hx : x < D.kept.length := by have := hpo.2.2; dsimp only at this; omega
          have hb64 : b.length = 64 := hpo.1
          obtain ⟨q, c2, hu, hqr, hqo⟩ := H1.out.2.2.2.1 i _ hpj
          have hwr : wr.ownsRow 0 126 2 (.slice (some ⟨rw_, 0, none⟩) D.pend.length cp) D.pend.length (waitCells us) := owned_keepN H1.out.2.2.1 fun k hv hl => HW.out.2.1.block k hl (fun e => by
            have hv : some rw_ = some k := hv
            injection hv with hv
            exact owned_ne2 H1.out.2.2.1 H1.out.2.1 (by decide) rfl rfl (by rw [hv, e]))
          have hrange : wr.rangeAt rw_ (i * 2) [.int .i64 (x : Int), .slice (some ⟨q, 0, none⟩) 64 c2] := own_range hwr (i * 2) 2 _ (wait_at us i _ hu)
          have hqw : wr.ownsRow 0 5 1 (.slice (some ⟨q, 0, none⟩) 64 c2) 64 (bv b) := owned_keepN hqo fun k hv hl => HW.out.2.1.block k hl (fun e => by
            have hv : some q = some k := hv
            injection hv with hv
            exact hqr (by rw [hv, e]))
          have cw0 : wr.cell? ⟨rw_, i * 2, none⟩ = some (.int .i64 (x : Int)) := hrange 0 _ rfl
          have cw1 : wr.cell? ⟨rw_, i * 2 + 1, none⟩ = some (.slice (some ⟨q, 0, none⟩) 64 c2) := hrange 1 _ rfl
          have HRA := hide hqw
          have HP := hide hpj
          clear hrange hqw hwr hqo hu hpj hpo
          go_wp2_with fail
          have hKl : (settleL (fun _ => true) 0 (D.pend.take i) D.kept).length = D.kept.length := settle_len ..
          have hKa : ∀ b ∈ settleL (fun _ => true) 0 (D.pend.take i) D.kept, b.length = 64 := settle_all _ _ _ _ (fun p hp => (HR.out.2.ok.p64 p (List.mem_of_mem_take hp)).1) HR.out.2.ok.k64
          refine (rkeep_any _ x b wr hnk hKl hKa hx hb64 HW.out.2.2 HW.out.1 HRA.out).mono ?_
          rintro e w2 ⟨rfl, ha2, ht2⟩
          have H2 := hide (And.intro ha2 (HW.out.2.1.trans ht2))
          clear ha2 ht2 hKl hKa
          dsimp only
          go_wp2_with fail
          go_roundw
          case rel =>
            refine ⟨i + 1, by omega, by go_num, ?_, H2.out.2⟩
            rw [settle_take _ _ _ i _ HP.out, if_pos rfl]
            exact H2.out.1
          case measure => simp [intOf]; omega
        · obtain rfl : i = D.pend.length := by omega
          go_wp2_with fail
          go_ret
          have hb5 := HW.out.2.2.set_ 1 (.slice none 0 0)
          rw [rdv_set1] at hb5
          have ha5 := HW.out.1
          rw [List.take_length] at ha5
          refine ⟨rfl, rleft_settled HR.out.2 (settle_len ..) hb5 (owned_keepN ha5 fun k hk _ => Below.heap_setCell wr ⟨g, 1, none⟩ _ k (fun e => ?_)) ?_ HX.out.1⟩
          · have hk : some ra = some k := hk
            injection hk with hk
            have e : k = g := e
            exact H1.out.2.2.2.2 (by rw [hk, e])
          · exact (((Turned.of_grown (S := fun k => k = g ∨ k = ra) H1.out.1.2 (fun k h _ => .inl (by injection h with h; exact h.symm))).trans (HW.out.2.1.mono fun _ _ h => .inr h))).setCell (fun _ => .inl rfl) _
set_option maxHeartbeats 1000000 in
theorem rwake_any {D : Dv} {F : Nat → Prop} {g : Nat} (z : Int) (hz : -9223372036854775808 ≤ z ∧ z ≤ 9223372036854775807) (w : World) (h : RefAt w F g D) (hm : D.pend.length ≤ 100000) :
    Calls Try.prog 50 #[.pointer (some ⟨g, 0, none⟩), .int .i64 z] w fun e w' => e = .returned (.int .i64 (D.wake z).1) ∧ RLeft w F g (D.wake z).2 w' := by
  have h0 := h
  obtain ⟨ra, c, vw, us, hr⟩ := h
  obtain ⟨A, cp, rfl⟩ := hr.slice
  have hb := hr.blk
  have HR := hide (And.intro h0 hr)
  have hnk := hr.ok.n2
  clear h0
  cases hdn : D.dn with
  | false =>
    rw [show D.wake z = (15, D) by simp [Dv.wake, hdn]]
    rw [hdn] at hb
    have c4 := (hb.cell 4).trans (rdv4 ..)
    have hlt := hb.lt
    clear hb hr
    go_enter Try.func50, Try.ntmps50
    go_wp2
    go_ret
    exact ⟨rfl, .same HR.out.1⟩
  | true =>
    rw [hdn] at hb
    have c4 := (hb.cell 4).trans (rdv4 ..)
    have hlt1 := hb.lt
    have ok' := hr.ok.settled (wakeB (IntKind.u64.wrap z)) false hr.ok.de (show 0 ≤ (0 : Int) ∧ (0 : Int) ≤ 9223372036854775807 by omega)
    rw [show D.wake z = (0, { de := D.de, fu := 0, dn := false, kept := settleL (wakeB (IntKind.u64.wrap z)) 0 D.pend D.kept, pend := [] }) by simp [Dv.wake, hdn]]
    have hgr : g ≠ ra := fun e => owned_neN hr.all hb (by decide) (by rw [e]; rfl)
    have HX := hide ok'
    have H1 := hide (And.intro hb hgr)
    have z1 := hz.1
    have z2 := hz.2
    clear ok' hb hr hgr hz
    go_enter Try.func50, Try.ntmps50
    go_wp2_with fail
    go_loopw [5] (fun v wr => ∃ i : Nat, i ≤ D.pend.length ∧ v = .int .i64 (i : Int) ∧ wr.ownsRow 0 5 1 (.slice (some ⟨ra, 0, none⟩) (D.kept.length * 64) c) (D.kept.length * 64) (keptCells (settleL (wakeB (IntKind.u64.wrap z)) 0 (D.pend.take i) D.kept)) ∧ Turned (fun k => k = ra) w wr) (fun v _ => D.pend.length - (intOf v).toNat)
    case atStart => exact ⟨0, by omega, rfl, by simpa [settleL] using HR.out.2.all, Turned.refl _ _⟩
    case round =>
      obtain ⟨i, hi, rfl, ha, ht⟩ := hrel
      have hgb : Blk wr g 82 (rdv (.slice (some ⟨ra, 0, none⟩) (D.kept.length * 64) c) (.slice A D.pend.length cp) D.de D.fu true) := (ht.block g hlt1 H1.out.2).trans H1.out.1
      have c1 := (hgb.cell 1).trans (rdv1 ..)
      have f1 := hgb.frozen 1
      have f3 := hgb.frozen 3
      have f4 := hgb.frozen 4
      have c3 := (hgb.cell 3).trans (rdv3 ..)
      have c4 := (hgb.cell 4).trans (rdv4 ..)
      have hltr := hgb.lt
      have HW := hide (And.intro ha (And.intro ht hgb))
      clear ha ht hgb
      by_cases hil : i < D.pend.length
      · have i1 : (i : Int) < (D.pend.length : Int) := by omega
        have i0 : (0 : Int) ≤ (i : Int) := by omega
        have hi9 : i ≤ 100000 := by omega
        have hbit := wake_bit z (i % 62) (Nat.mod_lt _ (by omega))
        cases hwk : wakeB (IntKind.u64.wrap z) i with
        | true =>
          have hbt : (bits .and .i64 (z / 2 ^ (i % 62)) 1 == 1) = true := hbit.trans hwk
          have HWK := hide hwk
          clear hbit hwk
          obtain ⟨rw_, cap', hvp⟩ := owned_placeN HR.out.2.row (by omega)
          injection hvp with e1 _ e2
          subst e1 e2
          obtain ⟨⟨x0, b⟩, hpj⟩ : ∃ p, D.pend[i]? = some p := ⟨D.pend[i]'hil, List.getElem?_eq_getElem _⟩
          have hpo := HR.out.2.ok.p64 _ (List.mem_of_getElem? hpj)
          obtain ⟨x, rfl⟩ : ∃ x : Nat, x0 = (x : Int) := ⟨x0.toNat, by have := hpo.2.1; dsimp only at this; omega⟩
          have hx : x < D.kept.length := by have := hpo.2.2; dsimp only at this; omega
          have hb64 : b.length = 64 := hpo.1
          obtain ⟨q, c2, hu, _, hqr, hqo⟩ := HR.out.2.wts.2 i _ hpj
          have hwr : wr.ownsRow 0 126 2 (.slice (some ⟨rw_, 0, none⟩) D.pend.length cp) D.pend.length (waitCells us) := owned_keepN HR.out.2.row fun k hv hl => HW.out.2.1.block k hl (fun e => by
            have hv : some rw_ = some k := hv
            injection hv with hv
            exact owned_ne2 HR.out.2.row HR.out.2.all (by decide) rfl rfl (by rw [hv, e]))
          have hrange : wr.rangeAt rw_ (i * 2) [.int .i64 (x : Int), .slice (some ⟨q, 0, none⟩) 64 c2] := own_range hwr (i * 2) 2 _ (wait_at us i _ hu)
          have hqw : wr.ownsRow 0 5 1 (.slice (some ⟨q, 0, none⟩) 64 c2) 64 (bv b) := owned_keepN hqo fun k hv hl => HW.out.2.1.block k hl (fun e => by
            have hv : some q = some k := hv
            injection hv with hv
            exact hqr (by rw [hv, e]))
          have cw0 : wr.cell? ⟨rw_, i * 2, none⟩ = some (.int .i64 (x : Int)) := hrange 0 _ rfl
          have cw1 : wr.cell? ⟨rw_, i * 2 + 1, none⟩ = some (.slice (some ⟨q, 0, none⟩) 64 c2) := hrange 1 _ rfl
          have HRA := hide hqw
          have HP := hide hpj
          clear hrange hqw hwr hqo hu hpj hpo
          go_wp2_with fail
          have hKl : (settleL (wakeB (IntKind.u64.wrap z)) 0 (D.pend.take i) D.kept).length = D.kept.length := settle_len ..
          have hKa : ∀ b ∈ settleL (wakeB (IntKind.u64.wrap z)) 0 (D.pend.take i) D.kept, b.length = 64 := settle_all _ _ _ _ (fun p hp => (HR.out.2.ok.p64 p (List.mem_of_mem_take hp)).1) HR.out.2.ok.k64
          refine (rkeep_any _ x b wr hnk hKl hKa hx hb64 HW.out.2.2 HW.out.1 HRA.out).mono ?_
          rintro e w2 ⟨rfl, ha2, ht2⟩
          have H2 := hide (And.intro ha2 (HW.out.2.1.trans ht2))
          clear ha2 ht2 hKl hKa
          dsimp only
          go_wp2_with fail
          go_roundw
          case rel =>
            refine ⟨i + 1, by omega, by go_num, ?_, H2.out.2⟩
            rw [settle_take _ _ _ i _ HP.out, if_pos HWK.out]
            exact H2.out.1
          case measure => simp [intOf]; omega
        | false =>
          have hbt : (bits .and .i64 (z / 2 ^ (i % 62)) 1 == 1) = false := hbit.trans hwk
          obtain ⟨p, hpj⟩ : ∃ p, D.pend[i]? = some p := ⟨D.pend[i]'hil, List.getElem?_eq_getElem _⟩
          have HP := hide hpj
          have HWK := hide hwk
          clear hbit hwk hpj
          go_wp2_with fail
          go_roundw
          case rel =>
            refine ⟨i + 1, by omega, by go_num, ?_, HW.out.2.1⟩
            rw [settle_take _ _ _ i _ HP.out, HWK.out, if_neg (by simp)]
            exact HW.out.1
          case measure => simp [intOf]; omega
      · obtain rfl : i = D.pend.length := by omega
        go_wp2_with fail
        go_ret
        have hb5 := ((HW.out.2.2.set_ 1 (.slice none 0 0)).set_ 3 (.int .i64 0)).set_ 4 (.bool false)
        rw [rdv_set1, rdv_set3, rdv_set4] at hb5
        have ha5 := HW.out.1
        rw [List.take_length] at ha5
        refine ⟨rfl, rleft_settled HR.out.2 (settle_len ..) hb5 (owned_keepN ha5 fun k hk _ => ?_) ?_ HX.out⟩
        · have hk : some ra = some k := hk
          injection hk with hk
          have hkg : k ≠ g := fun e => H1.out.2 (by rw [hk, e])
          rw [Below.heap_setCell _ ⟨g, 4, none⟩ _ k hkg, Below.heap_setCell _ ⟨g, 3, none⟩ _ k hkg, Below.heap_setCell _ ⟨g, 1, none⟩ _ k hkg]
        · exact (((HW.out.2.1.mono (T := fun k => k = g ∨ k = ra) fun _ _ h => .inr h).setCell (p := ⟨g, 1, none⟩) (fun _ => .inl rfl) _).setCell (p := ⟨g, 3, none⟩) (fun _ => .inl rfl) _).setCell (p := ⟨g, 4, none⟩) (fun _ => .inl rfl) _
end Go.Proofs.Ytajeohmmobgcjaa
end
section
namespace Go.Proofs.Ytajeohmmobgcjaa
open Go Go.RowKit
theorem info_wait : (Try.prog.info? 126).map (fun i => (i.zero, i.size, i.bytes)) = some (some (.agg #[.int .i64 0, .slice none 0 0]), 2, 32) := by kernel_rfl
theorem wait_snoc (us : List (Int × Value)) (x : Int) (v : Value) : waitCells (us ++ [(x, v)]) = waitCells us ++ [.int .i64 x, v] := by simp [waitCells]
set_option maxRecDepth 100000
set_option maxHeartbeats 1000000 in
theorem rwrite_ok {D : Dv} {F : Nat → Prop} {g ra c : Nat} {vw : Value} {us : List (Int × Value)} {fu' : Int} (x : Int) (l : List UInt8) (A : Option Addr) (cap : Nat) (w : World) (hr : RefBlk w F g ra c vw us D) (hdn : D.dn = false) (hde : D.de ≤ 1000000000) (hm : D.pend.length ≤ 100000)
    (ht : tick D.de D.fu false = (0, D.de + 1, fu', false)) (hf : 0 ≤ fu' ∧ fu' ≤ 9223372036854775807) (hx : 0 ≤ x ∧ x < (D.kept.length : Int)) (hl : l.length ≤ 64) (hs : Src w A l.length cap (bv l)) (hsb : ∀ ad, A = some ad → 0 < l.length → ¬ F ad.block) :
    Calls Try.prog 66 #[.pointer (some ⟨g, 0, none⟩), .int .i64 x, .slice A l.length cap] w fun e w' => e = .returned (.int .i64 0) ∧ RLeft w F g { D with de := D.de + 1, fu := fu', dn := false, pend := D.pend ++ [(x, pad l)] } w' := by
  obtain ⟨i8, hi8, hz80, hz81, hz82⟩ := info_parts info_1
  obtain ⟨iw, hiw, hzw0, hzw1, hzw2⟩ := info_parts info_wait
  have hb := hr.blk
  rw [hdn] at hb
  have c4 := (hb.cell 4).trans (rdv4 ..)
  have hlt := hb.lt
  have hnk := hr.ok.n2
  have hx1 := hx.1
  have hx2 := hx.2
  have hl64 : ¬ (64 : Int) < (l.length : Int) := by omega
  have HR := hide (And.intro hr (And.intro hb (And.intro hs hsb)))
  have HT := hide (And.intro ht (And.intro hr.ok.de hr.ok.fu))
  have HF := hide (And.intro hf hdn)
  clear hb hr hs hsb ht hf hdn
  go_enter Try.func66, Try.ntmps66
  go_wp2_with fail
  refine (rsectors_any _ hnk HR.out.2.1).mono ?_
  rintro e w' ⟨rfl, rfl⟩
  dsimp only
  go_wp2_with fail
  refine (rdeed_any _ ⟨HT.out.2.1, hde⟩ HT.out.2.2 HR.out.2.1).mono ?_
  rintro e w1 ⟨rfl, hb1, hg1⟩
  rw [HT.out.1] at hb1 ⊢
  rw [show decide ((0 : Int) = 0) = true from rfl]
  dsimp only at hb1 ⊢
  have hs1 : Src w1 A l.length cap (bv l) := HR.out.2.2.1.turned2 (Turned.of_grown (S := (· = g)) hg1 (fun k h _ => by injection h with h; exact h.symm)) (fun ad ha h0 e => HR.out.2.2.2 ad ha h0 (by rw [show ad.block = g from e]; exact HR.out.1.fg))
  have H1 := hide (And.intro hb1 (And.intro hg1 hs1))
  have hlt1 := hb1.lt
  clear hb1 hg1 hs1
  go_wp2_with (at_make; refine wpList_make_full _ rfl _ _ 48 rfl w1.heap.size 5 i8 (.int .u8 0) 1 Try.underlying48 hi8 hz80 hz81 _ _ _ _ 64 rfl rfl ?e0 ?e1 ?e2 ?e3 ?e4 ?_)
  case e0 => rfl
  case e1 => rfl
  case e2 => rw [hz82]; omega
  case e3 => simp only [maxLen]; omega
  case e4 => exact Nat.le_refl _
  intro w2 own2 gr2
  rw [made_bv] at own2
  have own2 : w2.ownsRow w1.heap.size 5 1 (.slice (some ⟨w1.heap.size, 0, none⟩) 64 64) 64 (bv (List.replicate 64 0)) := own2
  have hb2 := (own_blk own2).1
  have hB2 : Below w1.heap.size w1 w2 := (Below.refl _ _).grown gr2 (Nat.le_refl _) (by intro k hk; cases hk)
  have hs2 : Src w2 A l.length cap (bv l) := H1.out.2.2.turned2 (Turned.of_below hB2 (fun _ => False)) (fun _ _ _ h => h)
  have HL : Hid ((bv l).length = Nat.min l.length 64) := hide (by rw [bvL]; exact (Nat.min_eq_left hl).symm)
  have HFT : Hid (0 + (bv l).length ≤ (bv (List.replicate 64 0)).toArray.size) := hide (by rw [bvL]; simp [bv]; omega)
  have H2 := hide (And.intro hb2 (And.intro hB2 hs2))
  clear hb2 hB2 hs2 own2 gr2
  have hpre : ∀ w3 : World, w2.grownBy w3 (some w1.heap.size) → Blk w3 g 82 (rdv (.slice (some ⟨ra, 0, none⟩) (D.kept.length * 64) c) vw (D.de + 1) fu' false) ∧
      ∃ k5 cap5 w5, (Builtin.append_ #[80, 80] 80 #[vw, .slice (some ⟨w3.heap.size, 0, none⟩) 1 1]).run Try.prog (w3.alloc (.cells #[.int .i64 x, .slice (some ⟨w1.heap.size, 0, none⟩) 64 64] 126)) = .ok (.slice (some ⟨k5, 0, none⟩) (D.pend.length + 1) cap5) w5 ∧
        w5.ownsRow 0 126 2 (.slice (some ⟨k5, 0, none⟩) (D.pend.length + 1) cap5) (D.pend.length + 1) (waitCells us ++ [.int .i64 x, .slice (some ⟨w1.heap.size, 0, none⟩) 64 64]) ∧ (w3.alloc (.cells #[.int .i64 x, .slice (some ⟨w1.heap.size, 0, none⟩) 64 64] 126)).grownBy w5 vw.ownBlock ∧
        (vw.ownBlock = some k5 ∨ k5 = w3.heap.size + 1) ∧ Blk w5 g 82 (rdv (.slice (some ⟨ra, 0, none⟩) (D.kept.length * 64) c) vw (D.de + 1) fu' false) := by
    intro w3 hg3
    have hs12 : w1.heap.size ≤ w2.heap.size := H2.out.2.1.size
    have hs23 := hg3.size
    have hdv2 := H1.out.1.below H2.out.2.1 hlt1
    have hdv3 : Blk w3 g 82 (rdv (.slice (some ⟨ra, 0, none⟩) (D.kept.length * 64) c) vw (D.de + 1) fu' false) := hdv2.grown hg3 (fun e => by injection e with e; omega)
    have hvg : vw.ownBlock ≠ some g := owned_neN HR.out.1.row HR.out.2.1 (by decide)
    have ho3 : w3.ownsRow 0 126 2 vw D.pend.length (waitCells us) := owned_keepN HR.out.1.row fun k hk hl => by
      have h1 := H1.out.2.1.size
      exact ((hg3.block k (by omega) (fun e => by injection e with e; omega)).trans (H2.out.2.1.block k (by omega))).trans (H1.out.2.1.block k hl (fun e => hvg (by rw [hk, e])))
    have ho4 : (w3.alloc (.cells #[.int .i64 x, .slice (some ⟨w1.heap.size, 0, none⟩) 64 64] 126)).ownsRow 0 126 2 vw D.pend.length (waitCells us) := owned_keepN ho3 fun k _ hl => Below.heap_alloc _ _ k hl
    obtain ⟨v5, w5, h1, h2, h3, h4⟩ := run_appG (P := Try.prog) (w := w3.alloc (.cells #[.int .i64 x, .slice (some ⟨w1.heap.size, 0, none⟩) 64 64] 126)) 0 80 80 126 iw _ 2 32 Try.underlying80 hiw hzw0 hzw1 hzw2 rfl (by omega) vw D.pend.length (waitCells us) ho4 ⟨w3.heap.size, 0, none⟩ 1 1 [.int .i64 x, .slice (some ⟨w1.heap.size, 0, none⟩) 64 64] rfl (MadeRow.cells (l := [.int .i64 x, .slice (some ⟨w1.heap.size, 0, none⟩) 64 64]) (Blk.new w3 _ _)) (by simp [Value.oneCell']) (by omega) (by simp only [maxLen]; omega) (by omega) (Nat.zero_le _)
    obtain ⟨k5, cap5, hv5⟩ := owned_placeN h2 (by omega)
    subst hv5
    refine ⟨hdv3, k5, cap5, w5, h1, h2, h3, ?_, (hdv3.alloc _).grown h3 (fun e => hvg e.symm)⟩
    rcases h4 with ⟨g', cap', e1, e2⟩ | ⟨e1, _⟩
    · injection e2 with e2
      injection e2 with e2
      injection e2 with e2
      rw [e1, e2]
      exact .inl rfl
    · have e1 : some k5 = some _ := e1
      injection e1 with e1
      rw [size_alloc] at e1
      exact .inr e1
  have HPRE := hide hpre
  clear hpre
  go_wp2_with (first
    | ((with_reducible refine wpList_copyS (o := ⟨some 31, _, _, _, _, _⟩) rfl (.tmp 29) (.tmp 30) 48 48 rfl 5 Try.underlying48 size5 w1.heap.size 0 64 64 A l.length cap (bv (List.replicate 64 0)).toArray 5 H2.out.1 (bv l) HL.out H2.out.2.2 HFT.out ?_ ?_ ?_); rfl; rfl; intro w3 h3 hg3; obtain ⟨hdv3, k5, cap5, w5, h5, ho5, hg5, hx5, hdv5⟩ := HPRE.out w3 hg3; have H3 := hide (And.intro h3 hg3); have H5 := hide (And.intro ho5 (And.intro hg5 (And.intro hx5 hdv5))); have c1w := (hdv3.cell 1).trans (rdv1 _ _ _ _ _); have c1x := (hdv5.cell 1).trans (rdv1 _ _ _ _ _); have f1x := hdv5.frozen 1; have hltx := hdv5.lt; have hlt3 := hdv3.lt; clear h3 hg3 ho5 hg5 hx5 hdv5 hdv3; dsimp only [Act.put, List.setIfInBounds_toArray, List.set_cons_zero, List.set_cons_succ])
    | (at_builtin; (refine wpList_value (o := ⟨some 41, _, _, _, _, _⟩) rfl (.slice (some ⟨k5, 0, none⟩) (D.pend.length + 1) cap5) w5 (exec_append (o := ⟨some 41, _, _, _, _, _⟩) (.tmp 36) (.tmp 40) 80 rfl vw (.slice (some ⟨w3.heap.size, 0, none⟩) 1 1) _ _ _ rfl rfl h5) ?_); dsimp only [Act.put, List.setIfInBounds_toArray, List.set_cons_zero, List.set_cons_succ]))
  go_ret
  obtain ⟨h3, hg3⟩ := H3.out
  rw [pad_copy l] at h3
  obtain ⟨ho5, hg5, hx5, hdv5⟩ := H5.out
  have hr := HR.out.1
  have hs1 := H1.out.2.1.size
  have hs2 := H2.out.2.1.size
  have hs3 := hg3.size
  have hs5 := hg5.size
  rw [size_alloc] at hs5
  have hT5 : Turned (fun k => k = g ∨ vw.ownBlock = some k) w' w5 := ((((Turned.of_grown (S := fun k => k = g ∨ vw.ownBlock = some k) H1.out.2.1 (fun k h _ => .inl (by injection h with h; exact h.symm))).trans (Turned.of_below H2.out.2.1 _)).then_ (Turned.of_grown (S := (· = w1.heap.size)) hg3 (fun k h _ => by injection h with h; exact h.symm)) (fun k hk h => by
    have h : k = w1.heap.size := h
    omega)).alloc _).then_ (Turned.of_grown (S := fun k => vw.ownBlock = some k) hg5 (fun k h _ => h)) (fun k _ h => .inr h)
  have hT6 := hT5.setCell (p := ⟨g, 1, none⟩) (fun _ => .inl rfl) (.slice (some ⟨k5, 0, none⟩) (D.pend.length + 1) cap5)
  obtain ⟨w6, hw6⟩ : ∃ w6, w6 = w5.setCell ⟨g, 1, none⟩ (.slice (some ⟨k5, 0, none⟩) (D.pend.length + 1) cap5) := ⟨_, rfl⟩
  have hb6 := hdv5.set_ 1 (.slice (some ⟨k5, 0, none⟩) (D.pend.length + 1) cap5)
  rw [rdv_set1] at hb6
  have hset : ∀ k, k ≠ g → w6.heap[k]? = w5.heap[k]? := fun k hk => by rw [hw6]; exact Below.heap_setCell w5 ⟨g, 1, none⟩ _ k hk
  have hs6 : w6.heap.size = w5.heap.size := by rw [hw6]; simp [World.setCell]
  rw [← hw6] at hT6 hb6 ⊢
  have hp8 : ∀ {n s : Nat} {v : Value} {xs : List Value}, w'.ownsRow 0 5 s v n xs → w6.ownsRow 0 5 s v n xs := fun h2 => owned_keepN h2 fun k hv hl => hT6.block k hl (fun e => by
    rcases e with e | e
    · exact owned_neN h2 hr.blk (by decide) (by rw [hv, e])
    · exact owned_ne2 hr.row h2 (by decide) e hv rfl)
  have hkg : k5 ≠ g := fun e => owned_neN ho5 hdv5 (by decide) (by rw [← e]; rfl)
  have hrow : w6.ownsRow 0 126 2 (.slice (some ⟨k5, 0, none⟩) (D.pend.length + 1) cap5) (D.pend.length + 1) (waitCells us ++ [.int .i64 x, .slice (some ⟨w1.heap.size, 0, none⟩) 64 64]) := owned_keepN ho5 fun k hv _ => hset k (by
    have hv : some k5 = some k := hv
    injection hv with hv
    rw [← hv]
    exact hkg)
  have hvlt : ∀ k, vw.ownBlock = some k → k < w'.heap.size := fun k hk => (owned_ltN hr.row hk).2
  have hglt : g < w'.heap.size := hr.blk.lt
  have hq6 : Blk w6 w1.heap.size 5 (bv (pad l)).toArray := by
    refine (hset _ (by omega)).trans (((hg5.block w1.heap.size (by rw [size_alloc]; have := h3.lt; omega) (fun e => ?_)).trans (Below.heap_alloc _ _ _ h3.lt)).trans h3)
    have := hvlt _ e.symm
    omega
  have hpl : (bv (pad l)).length = 64 := by rw [bvL, pad_len l hl]
  refine ⟨rfl, fun k => F k ∨ (w'.heap.size ≤ k ∧ k < w6.heap.size), ⟨ra, c, .slice (some ⟨k5, 0, none⟩) (D.pend.length + 1) cap5, us ++ [(x, .slice (some ⟨w1.heap.size, 0, none⟩) 64 64)], .inl hr.fg, .inl hr.fa, fun k hk => ?_, fun k hk => ?_, hb6, hp8 hr.all, ?_, ?_, ?_⟩, hT6.mono fun k _ hk => ?_, fun k hk => ?_⟩
  · have hk : some k5 = some k := hk
    injection hk with hk
    subst hk
    rcases hx5 with h | h
    · exact .inl (hr.fw _ h)
    · refine .inr ⟨by omega, ?_⟩
      have := (owned_ltN hrow (g := k5) rfl).2
      exact this
  · rcases hk with hk | hk
    · have := hr.flt k hk
      omega
    · exact hk.2
  · show w6.ownsRow 0 126 2 _ (D.pend ++ [(x, pad l)]).length (waitCells (us ++ [(x, .slice (some ⟨w1.heap.size, 0, none⟩) 64 64)]))
    rw [wait_snoc, List.length_append]
    exact hrow
  · refine ⟨by simp [hr.wts.1], fun i p hp => ?_⟩
    rcases Nat.lt_or_ge i D.pend.length with hi | hi
    · have hp2 : D.pend[i]? = some p := by
        have hp : (D.pend ++ [(x, pad l)])[i]? = some p := hp
        rwa [List.getElem?_append_left hi] at hp
      obtain ⟨q, c2, e1, e2, e3, e4⟩ := hr.wts.2 i p hp2
      exact ⟨q, c2, by rw [List.getElem?_append_left (by rw [hr.wts.1]; exact hi)]; exact e1, .inl e2, e3, hp8 e4⟩
    · have hp : (D.pend ++ [(x, pad l)])[i]? = some p := hp
      rw [List.getElem?_append_right hi] at hp
      have hi0 : i - D.pend.length = 0 := by
        have := (List.getElem?_eq_some_iff.1 hp).1
        simp at this
        omega
      rw [hi0] at hp
      simp only [List.getElem?_cons_zero, Option.some.injEq] at hp
      subst hp
      refine ⟨w1.heap.size, 64, ?_, .inr ⟨by omega, by rw [hs6]; have := h3.lt; omega⟩, fun e => by have := (owned_ltN hr.all (g := ra) rfl).2; omega, blk_own hq6 (Nat.zero_le _) hpl (by simp only [maxLen]; omega)⟩
      rw [List.getElem?_append_right (by rw [hr.wts.1]; exact hi), hr.wts.1, hi0]
      rfl
  · have hok := hr.ok
    refine ⟨hok.n1, hok.n2, hok.k64, fun q hq => ?_, by show 0 ≤ D.de + 1; have := hok.de; omega, HF.out.1⟩
    rcases List.mem_append.1 hq with hq | hq
    · exact hok.p64 q hq
    · rw [List.mem_singleton.1 hq]
      exact ⟨pad_len l hl, hx1, hx2⟩
  · rcases hk with hk | hk
    · rw [hk]; exact hr.fg
    · exact hr.fw k hk
  · rcases hk with hk | hk
    · exact .inl hk
    · exact .inr hk.1
set_option maxHeartbeats 1000000 in
theorem rwrite_any {D : Dv} {F : Nat → Prop} {g : Nat} (x : Int) (l : List UInt8) (A : Option Addr) (cap : Nat) (w : World) (h : RefAt w F g D) (hde : D.de ≤ 1000000000) (hm : D.pend.length ≤ 100000) (hx : -9223372036854775808 ≤ x ∧ x ≤ 9223372036854775807) (hl : l.length ≤ 1000000000)
    (hs : Src w A l.length cap (bv l)) (hsb : ∀ ad, A = some ad → 0 < l.length → ¬ F ad.block) :
    Calls Try.prog 66 #[.pointer (some ⟨g, 0, none⟩), .int .i64 x, .slice A l.length cap] w fun e w' => e = .returned (.int .i64 (D.write x l).1) ∧ RLeft w F g (D.write x l).2 w' := by
  have h0 := h
  obtain ⟨ra, c, vw, us, hr⟩ := h
  have hb := hr.blk
  have hnk := hr.ok.n2
  have HR := hide (And.intro h0 (And.intro hr hb))
  clear h0
  have hx1 := hx.1
  have hx2 := hx.2
  cases hdn : D.dn with
  | true =>
    rw [show D.write x l = (10, D) by simp [Dv.write, hdn]]
    rw [hdn] at hb
    have c4 := (hb.cell 4).trans (rdv4 ..)
    have hlt := hb.lt
    clear hb hr hs hsb
    go_enter Try.func66, Try.ntmps66
    go_wp2
    go_ret
    exact ⟨rfl, .same HR.out.1⟩
  | false =>
    by_cases hin : 0 ≤ x ∧ x < (D.kept.length : Int)
    · by_cases h64 : l.length ≤ 64
      · rcases tick_cases D.de D.fu with ⟨hf, ht⟩ | ⟨fu', ht, hf⟩
        · have hwr : D.write x l = (10, { D with de := D.de, fu := 0, dn := true }) := by simp [Dv.write, hdn, hin, h64, ht]
          rw [hwr]
          rw [hdn] at hb
          have c4 := (hb.cell 4).trans (rdv4 ..)
          have hlt := hb.lt
          have ok' := hr.ok.ticked ht D.pend hr.ok.p64 true
          have HT := hide (And.intro ht (And.intro hr.ok.de hr.ok.fu))
          have HX := hide (And.intro ok' hb)
          have i1 := hin.1
          have i2 := hin.2
          have i3 : ¬ (64 : Int) < (l.length : Int) := by omega
          clear ok' ht hb hr hs hsb hwr hin
          go_enter Try.func66, Try.ntmps66
          go_wp2_with fail
          refine (rsectors_any _ hnk HX.out.2).mono ?_
          rintro e w' ⟨rfl, rfl⟩
          dsimp only
          go_wp2_with fail
          refine (rdeed_any _ ⟨HT.out.2.1, hde⟩ HT.out.2.2 HX.out.2).mono ?_
          rintro e w1 ⟨rfl, hb1, hg1⟩
          rw [HT.out.1] at hb1 ⊢
          rw [show decide ((10 : Int) = 0) = false from rfl]
          dsimp only at hb1 ⊢
          have H1 := hide (And.intro hb1 hg1)
          clear hb1 hg1
          go_wp2_with fail
          go_ret
          have h2 := rleft_own HR.out.2.1 (D' := { D with de := D.de, fu := 0, dn := true }) H1.out.1 H1.out.2 rfl rfl HX.out.1
          exact ⟨rfl, F, ⟨_, _, _, _, h2.1⟩, h2.2, fun _ h => .inl h⟩
        · have hwr : D.write x l = (0, { D with de := D.de + 1, fu := fu', dn := false, pend := D.pend ++ [(x, pad l)] }) := by simp [Dv.write, hdn, hin, h64, ht]
          rw [hwr]
          exact rwrite_ok x l A cap w hr hdn hde hm ht (by have := hr.ok.fu; exact ⟨hf.1 this.1, by omega⟩) hin h64 hs hsb
      · rw [show D.write x l = (2, D) by simp [Dv.write, hdn, h64]]
        rw [hdn] at hb
        have c4 := (hb.cell 4).trans (rdv4 ..)
        have hlt := hb.lt
        have i1 := hin.1
        have i2 := hin.2
        have i3 : (64 : Int) < (l.length : Int) := by omega
        have HX := hide hb
        clear hb hr hs hsb hin
        go_enter Try.func66, Try.ntmps66
        go_wp2_with fail
        refine (rsectors_any _ hnk HX.out).mono ?_
        rintro e w' ⟨rfl, rfl⟩
        dsimp only
        go_wp2_with fail
        go_ret
        exact ⟨rfl, .same HR.out.1⟩
    · rw [show D.write x l = (2, D) by simp [Dv.write, hdn, hin]]
      rw [hdn] at hb
      have c4 := (hb.cell 4).trans (rdv4 ..)
      have hlt := hb.lt
      have HX := hide hb
      by_cases hneg : x < 0
      · clear hb hr hs hsb hin
        go_enter Try.func66, Try.ntmps66
        go_wp2_with fail
        go_ret
        exact ⟨rfl, .same HR.out.1⟩
      · have i1 : 0 ≤ x := by omega
        have i2 : (D.kept.length : Int) ≤ x := by omega
        clear hb hr hs hsb hin
        go_enter Try.func66, Try.ntmps66
        go_wp2_with fail
        refine (rsectors_any _ hnk HX.out).mono ?_
        rintro e w' ⟨rfl, rfl⟩
        dsimp only
        go_wp2_with fail
        go_ret
        exact ⟨rfl, .same HR.out.1⟩
end Go.Proofs.Ytajeohmmobgcjaa
end
