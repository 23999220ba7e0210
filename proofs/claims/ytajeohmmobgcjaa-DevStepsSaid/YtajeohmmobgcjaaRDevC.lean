/- spenceref04: a write is kept; what flushes, what wakes. -/
import Derived.Test.YtajeohmmobgcjaaRDevB
import Derived.Test.YtajeohmmobgcjaaBitLaw
namespace Go.Proofs.Ytajeohmmobgcjaa
open Go Go.RowKit
set_option maxRecDepth 100000
set_option maxHeartbeats 1000000 in
theorem rkeep_any {g ra c n q c2 : Nat} {vw : Value} {de fu : Int} {dn : Bool} (K : List (List UInt8)) (x : Nat) (b : List UInt8) (w : World) (hn : n ≤ 8192) (hKn : K.length = n) (hK : ∀ b ∈ K, b.length = 64) (hx : x < n) (hb64 : b.length = 64)
    (hb : Blk w g 82 (rdv (.slice (some ⟨ra, 0, none⟩) (n * 64) c) vw de fu dn)) (ha : w.ownsRow 0 5 1 (.slice (some ⟨ra, 0, none⟩) (n * 64) c) (n * 64) (keptCells K)) (hq : w.ownsRow 0 5 1 (.slice (some ⟨q, 0, none⟩) 64 c2) 64 (bv b)) :
    Calls Try.prog 77 #[.pointer (some ⟨g, 0, none⟩), .agg #[.int .i64 (x : Int), .slice (some ⟨q, 0, none⟩) 64 c2]] w fun e w' => e = .returned (.tuple #[]) ∧ w'.ownsRow 0 5 1 (.slice (some ⟨ra, 0, none⟩) (n * 64) c) (n * 64) (keptCells (K.set x b)) ∧ Turned (fun k => k = ra) w w' := by
  obtain ⟨cur, hcur, hcs, hnc, hup⟩ := own_upd ha
  rw [Nat.mul_one] at hcs hup
  have c0 := (hb.cell 0).trans (rdv0 ..)
  have hlt := hb.lt
  have hraw : ra < w.heap.size := (owned_ltN ha rfl).2
  have hqw : q < w.heap.size := (owned_ltN hq rfl).2
  have i0 : (0 : Int) ≤ (x : Int) := by omega
  have i1 : (x : Int) ≤ 8192 := by omega
  have HUP := hide (And.intro hup (And.intro hq hcur))
  have HKS := hide (kept_set K x b hK hb64 (by omega))
  clear hb ha hup hq hcur hK hKn
  have hbx0 := Blk.new w 126 #[.int .i64 (x : Int), .slice (some ⟨q, 0, none⟩) 64 c2]
  go_enter Try.func77, Try.ntmps77
  go_wp2_with fail
  obtain ⟨w1, hw1⟩ : ∃ w1, w1 = w.alloc (.cells #[.int .i64 (x : Int), .slice (some ⟨q, 0, none⟩) 64 c2] 126) := ⟨_, rfl⟩
  rw [← hw1] at hbx0 ⊢
  have hB1 : Below w.heap.size w w1 := by rw [hw1]; exact (Below.refl _ _).alloc (Nat.le_refl _) _
  have HBX := hide hbx0
  have hbx : w.heap.size < w1.heap.size := hbx0.lt
  have hg1 : g < w1.heap.size := by omega
  have c0 := (hB1.cell (p := ⟨g, 0, none⟩) hlt).trans c0
  clear hw1 hbx0
  refine wp_made 10 [] (by kernel_rfl) (by kernel_rfl) (by intro p hp; cases hp) List.nodup_nil (by intro t ht; cases ht) ?_
  simp only [List.take_succ_cons, List.take_zero, List.drop_succ_cons, List.drop_zero]
  refine made_val (.pointer (some ⟨g, 0, none⟩)) (by kernel_rfl) (by kernel_rfl) (by kernel_rfl) (fun _ _ => by kernel_rfl) ?_
  simp only [Act.put, List.setIfInBounds_toArray, List.set_cons_zero, List.set_cons_succ]
  refine made_val (.pointer (some ⟨g, 0, none⟩)) (by kernel_rfl) (by kernel_rfl) (by kernel_rfl) (fun _ _ => by kernel_rfl) ?_
  simp only [Act.put, List.setIfInBounds_toArray, List.set_cons_zero, List.set_cons_succ]
  refine made_val (.pointer (some ⟨g, 0, none⟩)) (by kernel_rfl) (by kernel_rfl) (by kernel_rfl) (fun _ _ => by kernel_rfl) ?_
  simp only [Act.put, List.setIfInBounds_toArray, List.set_cons_zero, List.set_cons_succ]
  refine made_val (.slice (some ⟨ra, 0, none⟩) (n * 64) c) (by kernel_rfl) (by kernel_rfl) (by kernel_rfl) (fun W hW => exec_load_slice (o := ⟨some 7, _, _, _, _, _⟩) 48 5 (.tmp 6) rfl ⟨g, 0, none⟩ rfl _ W Try.underlying48 ((hW.cell (p := ⟨g, 0, none⟩) hg1).trans c0)) ?_
  simp only [Act.put, List.setIfInBounds_toArray, List.set_cons_zero, List.set_cons_succ]
  refine made_val (.pointer (some ⟨w.heap.size, 0, none⟩)) (by kernel_rfl) (by kernel_rfl) (by kernel_rfl) (fun _ _ => by kernel_rfl) ?_
  simp only [Act.put, List.setIfInBounds_toArray, List.set_cons_zero, List.set_cons_succ]
  refine made_val (.int .i64 (x : Int)) (by kernel_rfl) (by kernel_rfl) (by kernel_rfl) (fun W hW => exec_load_cell (o := ⟨some 9, _, _, _, _, _⟩) 3 (.tmp 8) rfl ⟨w.heap.size, 0, none⟩ rfl _ _ W Try.underlying3 rfl ((hW.cell (p := ⟨w.heap.size, 0, none⟩) hbx).trans (HBX.out.cell 0))) ?_
  simp only [Act.put, List.setIfInBounds_toArray, List.set_cons_zero, List.set_cons_succ]
  refine made_val (.int .i64 ((x : Int) * 64)) (by kernel_rfl) (by kernel_rfl) (by kernel_rfl) (fun W hW => ?hmul) ?_
  case hmul =>
    go_simp
    first | done | exact IntWalk.wrap64_in _ (by omega) | (simp [IntKind.wrap, IntKind.signed, IntKind.bits]; omega)
  simp only [Act.put, List.setIfInBounds_toArray, List.set_cons_zero, List.set_cons_succ]
  rw [show (x : Int) * 64 = ((x * 64 : Nat) : Int) by omega]
  refine made_val (.slice (if c = x * 64 then some ⟨ra, 0, none⟩ else (some (⟨ra, 0, none⟩ : Addr)).map (·.add (x * 64))) (n * 64 - x * 64) (c - x * 64)) (by kernel_rfl) (by kernel_rfl) (by kernel_rfl) (fun W _ => exec_slice (o := ⟨some 11, _, _, _, _, _⟩) 48 (.tmp 7) (some (.tmp 10)) none none rfl _ (fun W => run_sliceAt_from 48 5 Try.underlying48 size5 (some ⟨ra, 0, none⟩) (n * 64) c (x * 64) (by omega) W) W) ?_
  simp only [Act.put, List.setIfInBounds_toArray, List.set_cons_zero, List.set_cons_succ]
  rw [if_neg (show ¬ c = x * 64 by omega), show (some (⟨ra, 0, none⟩ : Addr)).map (·.add (x * 64)) = some ⟨ra, x * 64, none⟩ by simp [Addr.add_mid]]
  refine made_val (.pointer (some ⟨w.heap.size, 1, none⟩)) (by kernel_rfl) (by kernel_rfl) (by kernel_rfl) (fun _ _ => by kernel_rfl) ?_
  simp only [Act.put, List.setIfInBounds_toArray, List.set_cons_zero, List.set_cons_succ]
  refine made_val (.slice (some ⟨q, 0, none⟩) 64 c2) (by kernel_rfl) (by kernel_rfl) (by kernel_rfl) (fun W hW => exec_load_slice (o := ⟨some 13, _, _, _, _, _⟩) 48 5 (.tmp 12) rfl ⟨w.heap.size, 1, none⟩ rfl _ W Try.underlying48 ((hW.cell (p := ⟨w.heap.size, 1, none⟩) hbx).trans (HBX.out.cell 1))) ?_
  simp only [Act.put, List.setIfInBounds_toArray, List.set_cons_zero, List.set_cons_succ]
  show ∀ w', _ → _
  intro w4 hb4
  simp only [ended]
  have hb4 : Below w1.heap.size w1 w4 := hb4
  have hB4 : Below w.heap.size w w4 := hB1.trans (Below.mono hb4 (by omega))
  have hcur4 := HUP.out.2.2.below hB4 hraw
  have hq4 : w4.ownsRow 0 5 1 (.slice (some ⟨q, 0, none⟩) 64 c2) 64 (bv b) := owned_keepN HUP.out.2.1 fun k _ hl => hB4.block k hl
  have hsrc : Src w4 (some ⟨q, 0, none⟩) 64 c2 (bv b) := by
    have h := hq4
    rw [show 64 = b.length from hb64.symm] at h ⊢
    exact owned_src0 h
  have hbl : (bv b).length = 64 := by rw [bvL, hb64]
  have hmin : (bv b).length = Nat.min 64 (n * 64 - x * 64) := by rw [hbl]; exact (Nat.min_eq_left (by omega)).symm
  refine wpList_copyS (o := ⟨some 14, _, _, _, _, _⟩) rfl (.tmp 11) (.tmp 13) 48 48 rfl 5 Try.underlying48 size5 ra (x * 64) (n * 64 - x * 64) (c - x * 64) (some ⟨q, 0, none⟩) 64 c2 cur 5 hcur4 (bv b) hmin hsrc (by rw [hbl]; omega) rfl rfl ?_
  intro w5 hb5 hg5
  have H5 := hide (And.intro hb5 (And.intro hg5 hB4))
  clear hb5 hg5 hcur4 hq4 hsrc hmin hB4 hb4
  simp only [Act.put, List.setIfInBounds_toArray, List.set_cons_zero, List.set_cons_succ]
  go_wp2_with fail
  go_end0
  refine ⟨rfl, ?_, (Turned.of_below H5.out.2.2 _).trans (Turned.of_grown H5.out.2.1 (fun k h _ => by injection h with h; exact h.symm))⟩
  rw [HKS.out]
  exact HUP.out.1 w5 (x * 64) (bv b) (by rw [hbl]; omega) H5.out.1
theorem wait_at (us : List (Int × Value)) (i : Nat) (u : Int × Value) (h : us[i]? = some u) : ((waitCells us).drop (i * 2)).take 2 = [.int .i64 u.1, u.2] := by
  unfold waitCells
  refine flat_at (s := 2) (us.map fun u => [.int .i64 u.1, u.2]) i [.int .i64 u.1, u.2] ?_ ?_
  · intro b hb
    obtain ⟨l, hl, rfl⟩ := List.mem_map.1 hb
    rfl
  · simp [h]
theorem sz_wait : (Try.prog.info? 126).map (·.size) = some 2 := by kernel_rfl
theorem RefBlk.slice {w : World} {F : Nat → Prop} {g ra c : Nat} {vw : Value} {us : List (Int × Value)} {D : Dv} (h : RefBlk w F g ra c vw us D) : ∃ A cp, vw = .slice A D.pend.length cp := by
  rcases owned_formN h.row with ⟨h, h0, _⟩ | ⟨r, cap, _, h, _⟩
  · exact ⟨none, 0, by rw [h, h0]⟩
  · exact ⟨_, cap, h⟩
/-- all that was pending has settled -/
theorem rleft_settled {w w' : World} {F : Nat → Prop} {g ra c : Nat} {vw : Value} {us : List (Int × Value)} {D : Dv} {K : List (List UInt8)} {de fu : Int} {dn : Bool} (h : RefBlk w F g ra c vw us D) (hl : K.length = D.kept.length) (hb : Blk w' g 82 (rdv (.slice (some ⟨ra, 0, none⟩) (D.kept.length * 64) c) (.slice none 0 0) de fu dn))
    (ha : w'.ownsRow 0 5 1 (.slice (some ⟨ra, 0, none⟩) (D.kept.length * 64) c) (D.kept.length * 64) (keptCells K)) (ht : Turned (fun k => k = g ∨ k = ra) w w') (hok : Dv.Ok { de := de, fu := fu, dn := dn, kept := K, pend := [] }) : RLeft w F g { de := de, fu := fu, dn := dn, kept := K, pend := [] } w' := by
  refine ⟨F, ⟨ra, c, .slice none 0 0, [], h.fg, h.fa, fun k hk => (by cases hk), fun k hf => Nat.lt_of_lt_of_le (h.flt k hf) ht.size, by rw [hl]; exact hb, by rw [hl]; exact ha, ⟨rfl, .inl ⟨rfl, rfl⟩⟩, ⟨rfl, fun i p hp => by simp at hp⟩, hok⟩, ht.mono fun k _ hk => ?_, fun _ h => .inl h⟩
  rcases hk with rfl | rfl
  · exact h.fg
  · exact h.fa
set_option maxHeartbeats 1000000 in
theorem rflush_any {D : Dv} {F : Nat → Prop} {g : Nat} (w : World) (h : RefAt w F g D) (hde : D.de ≤ 1000000000) (hm : D.pend.length ≤ 100000) :
    Calls Try.prog 67 #[.pointer (some ⟨g, 0, none⟩)] w fun e w' => e = .returned (.int .i64 D.flush.1) ∧ RLeft w F g D.flush.2 w' := by
  have h0 := h
  obtain ⟨ra, c, vw, us, hr⟩ := h
  obtain ⟨A, cp, rfl⟩ := hr.slice
  have hb := hr.blk
  have HR := hide (And.intro h0 hr)
  have hnk := hr.ok.n2
  clear h0
  cases hdn : D.dn with
  | true =>
    rw [show D.flush = (10, D) by simp [Dv.flush, hdn]]
    rw [hdn] at hb
    have c4 := (hb.cell 4).trans (rdv4 ..)
    have hlt := hb.lt
    clear hb hr
    go_enter Try.func67, Try.ntmps67
    go_wp2
    go_ret
    exact ⟨rfl, .same HR.out.1⟩
  | false =>
    rw [hdn] at hb
    have c4 := (hb.cell 4).trans (rdv4 ..)
    have hlt := hb.lt
    rcases tick_cases D.de D.fu with ⟨hf, ht⟩ | ⟨fu', ht, hf⟩
    · have ok' := hr.ok.ticked ht D.pend hr.ok.p64 true
      rw [show D.flush = (10, { D with de := D.de, fu := 0, dn := true }) by simp [Dv.flush, hdn, ht]]
      have HT := hide (And.intro ht (And.intro hr.ok.de hr.ok.fu))
      have HX := hide (And.intro ok' hb)
      clear ok' ht hb hr
      go_enter Try.func67, Try.ntmps67
      go_wp2_with fail
      refine (rdeed_any _ ⟨HT.out.2.1, hde⟩ HT.out.2.2 HX.out.2).mono ?_
      rintro e w1 ⟨rfl, hb1, hg1⟩
      rw [HT.out.1] at hb1 ⊢
      rw [show decide ((10 : Int) = 0) = false from rfl]
      dsimp only at hb1 ⊢
      have H1 := hide (And.intro hb1 hg1)
      clear hb1 hg1
      go_wp2_with fail
      go_ret
      have h2 := rleft_own HR.out.2 (D' := { D with de := D.de, fu := 0, dn := true }) H1.out.1 H1.out.2 rfl rfl HX.out.1
      exact ⟨rfl, F, ⟨_, _, _, _, h2.1⟩, h2.2, fun _ h => .inl h⟩
    · have ok' := hr.ok.settled (fun _ => true) false (show 0 ≤ D.de + 1 by have := hr.ok.de; omega) (show 0 ≤ fu' ∧ fu' ≤ 9223372036854775807 by have := hr.ok.fu; exact ⟨hf.1 this.1, by omega⟩)
      rw [show D.flush = (0, { de := D.de + 1, fu := fu', dn := false, kept := settleL (fun _ => true) 0 D.pend D.kept, pend := [] }) by simp [Dv.flush, hdn, ht]]
      have HT := hide (And.intro ht (And.intro hr.ok.de hr.ok.fu))
      have HX := hide (And.intro ok' hb)
      clear ok' ht hb hr
      go_enter Try.func67, Try.ntmps67
      go_wp2_with fail
      refine (rdeed_any _ ⟨HT.out.2.1, hde⟩ HT.out.2.2 HX.out.2).mono ?_
      rintro e w1 ⟨rfl, hb1, hg1⟩
      rw [HT.out.1] at hb1 ⊢
      rw [show decide ((0 : Int) = 0) = true from rfl]
      dsimp only at hb1 ⊢
      have hne1 : ∀ {n s : Nat} {e : TypeId} {v : Value} {xs : List Value}, w.ownsRow 0 e s v n xs → e ≠ 82 → w1.ownsRow 0 e s v n xs := fun h2 he => owned_keepN h2 fun k hv hl => hg1.block k hl (fun e' => owned_neN h2 HR.out.2.blk he (by rw [hv, e']))
      have ha1 := hne1 HR.out.2.all (by decide)
      have hw1 := hne1 HR.out.2.row (by decide)
      have hq1 : ∀ (i : Nat) (p : Int × List UInt8), D.pend[i]? = some p → ∃ q c, us[i]? = some (p.1, .slice (some ⟨q, 0, none⟩) 64 c) ∧ q ≠ ra ∧ w1.ownsRow 0 5 1 (.slice (some ⟨q, 0, none⟩) 64 c) 64 (bv p.2) := fun i p hp => by
        obtain ⟨q, c, h1, _, h3, h4⟩ := HR.out.2.wts.2 i p hp
        exact ⟨q, c, h1, h3, hne1 h4 (by decide)⟩
      have hgr : g ≠ ra := fun e => owned_neN HR.out.2.all HR.out.2.blk (by decide) (by rw [e]; rfl)
      have hlt1 := hb1.lt
      have H1 := hide (And.intro (And.intro hb1 hg1) (And.intro ha1 (And.intro hw1 (And.intro hq1 hgr))))
      clear hb1 hg1 hne1 ha1 hw1 hq1 hgr
      go_wp2_with fail
      go_loopw [3] (fun v wr => ∃ i : Nat, i ≤ D.pend.length ∧ v = .int .i64 (i : Int) ∧ wr.ownsRow 0 5 1 (.slice (some ⟨ra, 0, none⟩) (D.kept.length * 64) c) (D.kept.length * 64) (keptCells (settleL (fun _ => true) 0 (D.pend.take i) D.kept)) ∧ Turned (fun k => k = ra) w1 wr) (fun v _ => D.pend.length - (intOf v).toNat)
      case atStart => exact ⟨0, by omega, rfl, by simpa [settleL] using H1.out.2.1, Turned.refl _ _⟩
      case round =>
        obtain ⟨i, hi, rfl, ha, ht⟩ := hrel
        have hgb : Blk wr g 82 (rdv (.slice (some ⟨ra, 0, none⟩) (D.kept.length * 64) c) (.slice A D.pend.length cp) (D.de + 1) fu' false) := (ht.block g hlt1 H1.out.2.2.2.2).trans H1.out.1.1
        have c1 := (hgb.cell 1).trans (rdv1 ..)
        have f1 := hgb.frozen 1
        have hltr := hgb.lt
        have HW := hide (And.intro ha (And.intro ht hgb))
        clear ha ht hgb
        by_cases hil : i < D.pend.length
        · have i1 : (i : Int) < (D.pend.length : Int) := by omega
          have i0 : (0 : Int) ≤ (i : Int) := by omega
          obtain ⟨rw_, cap', hvp⟩ := owned_placeN H1.out.2.2.1 (by omega)
          injection hvp with e1 _ e2
          subst e1 e2
          obtain ⟨⟨x0, b⟩, hpj⟩ : ∃ p, D.pend[i]? = some p := ⟨D.pend[i]'hil, List.getElem?_eq_getElem _⟩
          have hpo := HR.out.2.ok.p64 _ (List.mem_of_getElem? hpj)
          obtain ⟨x, rfl⟩ : ∃ x : Nat, x0 = (x : Int) := ⟨x0.toNat, by have := hpo.2.1; dsimp only at this; omega⟩
          have hx : x < D.kept.length := by have := hpo.2.2; dsimp only at this; omega
          have hb64 : b.length = 64 := hpo.1
          obtain ⟨q, c2, hu, hqr, hqo⟩ := H1.out.2.2.2.1 i _ hpj
          have hwr : wr.ownsRow 0 126 2 (.slice (some ⟨rw_, 0, none⟩) D.pend.length cp) D.pend.length (waitCells us) := owned_keepN H1.out.2.2.1 fun k hv hl => HW.out.2.1.block k hl (fun e => by
            have hv : some rw_ = some k := hv
            injection hv with hv
            exact owned_ne2 H1.out.2.2.1 H1.out.2.1 (by decide) rfl rfl (by rw [hv, e]))
          have hrange : wr.rangeAt rw_ (i * 2) [.int .i64 (x : Int), .slice (some ⟨q, 0, none⟩) 64 c2] := own_range hwr (i * 2) 2 _ (wait_at us i _ hu)
          have hqw : wr.ownsRow 0 5 1 (.slice (some ⟨q, 0, none⟩) 64 c2) 64 (bv b) := owned_keepN hqo fun k hv hl => HW.out.2.1.block k hl (fun e => by
            have hv : some q = some k := hv
            injection hv with hv
            exact hqr (by rw [hv, e]))
          have cw0 : wr.cell? ⟨rw_, i * 2, none⟩ = some (.int .i64 (x : Int)) := hrange 0 _ rfl
          have cw1 : wr.cell? ⟨rw_, i * 2 + 1, none⟩ = some (.slice (some ⟨q, 0, none⟩) 64 c2) := hrange 1 _ rfl
          have HRA := hide hqw
          have HP := hide hpj
          clear hrange hqw hwr hqo hu hpj hpo
          go_wp2_with fail
          have hKl : (settleL (fun _ => true) 0 (D.pend.take i) D.kept).length = D.kept.length := settle_len ..
          have hKa : ∀ b ∈ settleL (fun _ => true) 0 (D.pend.take i) D.kept, b.length = 64 := settle_all _ _ _ _ (fun p hp => (HR.out.2.ok.p64 p (List.mem_of_mem_take hp)).1) HR.out.2.ok.k64
          refine (rkeep_any _ x b wr hnk hKl hKa hx hb64 HW.out.2.2 HW.out.1 HRA.out).mono ?_
          rintro e w2 ⟨rfl, ha2, ht2⟩
          have H2 := hide (And.intro ha2 (HW.out.2.1.trans ht2))
          clear ha2 ht2 hKl hKa
          dsimp only
          go_wp2_with fail
          go_roundw
          case rel =>
            refine ⟨i + 1, by omega, by go_num, ?_, H2.out.2⟩
            rw [settle_take _ _ _ i _ HP.out, if_pos rfl]
            exact H2.out.1
          case measure => simp [intOf]; omega
        · obtain rfl : i = D.pend.length := by omega
          go_wp2_with fail
          go_ret
          have hb5 := HW.out.2.2.set_ 1 (.slice none 0 0)
          rw [rdv_set1] at hb5
          have ha5 := HW.out.1
          rw [List.take_length] at ha5
          refine ⟨rfl, rleft_settled HR.out.2 (settle_len ..) hb5 (owned_keepN ha5 fun k hk _ => Below.heap_setCell wr ⟨g, 1, none⟩ _ k (fun e => ?_)) ?_ HX.out.1⟩
          · have hk : some ra = some k := hk
            injection hk with hk
            have e : k = g := e
            exact H1.out.2.2.2.2 (by rw [hk, e])
          · exact (((Turned.of_grown (S := fun k => k = g ∨ k = ra) H1.out.1.2 (fun k h _ => .inl (by injection h with h; exact h.symm))).trans (HW.out.2.1.mono fun _ _ h => .inr h))).setCell (fun _ => .inl rfl) _
set_option maxHeartbeats 1000000 in
theorem rwake_any {D : Dv} {F : Nat → Prop} {g : Nat} (z : Int) (hz : -9223372036854775808 ≤ z ∧ z ≤ 9223372036854775807) (w : World) (h : RefAt w F g D) (hm : D.pend.length ≤ 100000) :
    Calls Try.prog 50 #[.pointer (some ⟨g, 0, none⟩), .int .i64 z] w fun e w' => e = .returned (.int .i64 (D.wake z).1) ∧ RLeft w F g (D.wake z).2 w' := by
  have h0 := h
  obtain ⟨ra, c, vw, us, hr⟩ := h
  obtain ⟨A, cp, rfl⟩ := hr.slice
  have hb := hr.blk
  have HR := hide (And.intro h0 hr)
  have hnk := hr.ok.n2
  clear h0
  cases hdn : D.dn with
  | false =>
    rw [show D.wake z = (15, D) by simp [Dv.wake, hdn]]
    rw [hdn] at hb
    have c4 := (hb.cell 4).trans (rdv4 ..)
    have hlt := hb.lt
    clear hb hr
    go_enter Try.func50, Try.ntmps50
    go_wp2
    go_ret
    exact ⟨rfl, .same HR.out.1⟩
  | true =>
    rw [hdn] at hb
    have c4 := (hb.cell 4).trans (rdv4 ..)
    have hlt1 := hb.lt
    have ok' := hr.ok.settled (wakeB (IntKind.u64.wrap z)) false hr.ok.de (show 0 ≤ (0 : Int) ∧ (0 : Int) ≤ 9223372036854775807 by omega)
    rw [show D.wake z = (0, { de := D.de, fu := 0, dn := false, kept := settleL (wakeB (IntKind.u64.wrap z)) 0 D.pend D.kept, pend := [] }) by simp [Dv.wake, hdn]]
    have hgr : g ≠ ra := fun e => owned_neN hr.all hb (by decide) (by rw [e]; rfl)
    have HX := hide ok'
    have H1 := hide (And.intro hb hgr)
    have z1 := hz.1
    have z2 := hz.2
    clear ok' hb hr hgr hz
    go_enter Try.func50, Try.ntmps50
    go_wp2_with fail
    go_loopw [5] (fun v wr => ∃ i : Nat, i ≤ D.pend.length ∧ v = .int .i64 (i : Int) ∧ wr.ownsRow 0 5 1 (.slice (some ⟨ra, 0, none⟩) (D.kept.length * 64) c) (D.kept.length * 64) (keptCells (settleL (wakeB (IntKind.u64.wrap z)) 0 (D.pend.take i) D.kept)) ∧ Turned (fun k => k = ra) w wr) (fun v _ => D.pend.length - (intOf v).toNat)
    case atStart => exact ⟨0, by omega, rfl, by simpa [settleL] using HR.out.2.all, Turned.refl _ _⟩
    case round =>
      obtain ⟨i, hi, rfl, ha, ht⟩ := hrel
      have hgb : Blk wr g 82 (rdv (.slice (some ⟨ra, 0, none⟩) (D.kept.length * 64) c) (.slice A D.pend.length cp) D.de D.fu true) := (ht.block g hlt1 H1.out.2).trans H1.out.1
      have c1 := (hgb.cell 1).trans (rdv1 ..)
      have f1 := hgb.frozen 1
      have f3 := hgb.frozen 3
      have f4 := hgb.frozen 4
      have c3 := (hgb.cell 3).trans (rdv3 ..)
      have c4 := (hgb.cell 4).trans (rdv4 ..)
      have hltr := hgb.lt
      have HW := hide (And.intro ha (And.intro ht hgb))
      clear ha ht hgb
      by_cases hil : i < D.pend.length
      · have i1 : (i : Int) < (D.pend.length : Int) := by omega
        have i0 : (0 : Int) ≤ (i : Int) := by omega
        have hi9 : i ≤ 100000 := by omega
        have hbit := wake_bit z (i % 62) (Nat.mod_lt _ (by omega))
        cases hwk : wakeB (IntKind.u64.wrap z) i with
        | true =>
          have hbt : (bits .and .i64 (z / 2 ^ (i % 62)) 1 == 1) = true := hbit.trans hwk
          have HWK := hide hwk
          clear hbit hwk
          obtain ⟨rw_, cap', hvp⟩ := owned_placeN HR.out.2.row (by omega)
          injection hvp with e1 _ e2
          subst e1 e2
          obtain ⟨⟨x0, b⟩, hpj⟩ : ∃ p, D.pend[i]? = some p := ⟨D.pend[i]'hil, List.getElem?_eq_getElem _⟩
          have hpo := HR.out.2.ok.p64 _ (List.mem_of_getElem? hpj)
          obtain ⟨x, rfl⟩ : ∃ x : Nat, x0 = (x : Int) := ⟨x0.toNat, by have := hpo.2.1; dsimp only at this; omega⟩
          have hx : x < D.kept.length := by have := hpo.2.2; dsimp only at this; omega
          have hb64 : b.length = 64 := hpo.1
          obtain ⟨q, c2, hu, _, hqr, hqo⟩ := HR.out.2.wts.2 i _ hpj
          have hwr : wr.ownsRow 0 126 2 (.slice (some ⟨rw_, 0, none⟩) D.pend.length cp) D.pend.length (waitCells us) := owned_keepN HR.out.2.row fun k hv hl => HW.out.2.1.block k hl (fun e => by
            have hv : some rw_ = some k := hv
            injection hv with hv
            exact owned_ne2 HR.out.2.row HR.out.2.all (by decide) rfl rfl (by rw [hv, e]))
          have hrange : wr.rangeAt rw_ (i * 2) [.int .i64 (x : Int), .slice (some ⟨q, 0, none⟩) 64 c2] := own_range hwr (i * 2) 2 _ (wait_at us i _ hu)
          have hqw : wr.ownsRow 0 5 1 (.slice (some ⟨q, 0, none⟩) 64 c2) 64 (bv b) := owned_keepN hqo fun k hv hl => HW.out.2.1.block k hl (fun e => by
            have hv : some q = some k := hv
            injection hv with hv
            exact hqr (by rw [hv, e]))
          have cw0 : wr.cell? ⟨rw_, i * 2, none⟩ = some (.int .i64 (x : Int)) := hrange 0 _ rfl
          have cw1 : wr.cell? ⟨rw_, i * 2 + 1, none⟩ = some (.slice (some ⟨q, 0, none⟩) 64 c2) := hrange 1 _ rfl
          have HRA := hide hqw
          have HP := hide hpj
          clear hrange hqw hwr hqo hu hpj hpo
          go_wp2_with fail
          have hKl : (settleL (wakeB (IntKind.u64.wrap z)) 0 (D.pend.take i) D.kept).length = D.kept.length := settle_len ..
          have hKa : ∀ b ∈ settleL (wakeB (IntKind.u64.wrap z)) 0 (D.pend.take i) D.kept, b.length = 64 := settle_all _ _ _ _ (fun p hp => (HR.out.2.ok.p64 p (List.mem_of_mem_take hp)).1) HR.out.2.ok.k64
          refine (rkeep_any _ x b wr hnk hKl hKa hx hb64 HW.out.2.2 HW.out.1 HRA.out).mono ?_
          rintro e w2 ⟨rfl, ha2, ht2⟩
          have H2 := hide (And.intro ha2 (HW.out.2.1.trans ht2))
          clear ha2 ht2 hKl hKa
          dsimp only
          go_wp2_with fail
          go_roundw
          case rel =>
            refine ⟨i + 1, by omega, by go_num, ?_, H2.out.2⟩
            rw [settle_take _ _ _ i _ HP.out, if_pos HWK.out]
            exact H2.out.1
          case measure => simp [intOf]; omega
        | false =>
          have hbt : (bits .and .i64 (z / 2 ^ (i % 62)) 1 == 1) = false := hbit.trans hwk
          obtain ⟨p, hpj⟩ : ∃ p, D.pend[i]? = some p := ⟨D.pend[i]'hil, List.getElem?_eq_getElem _⟩
          have HP := hide hpj
          have HWK := hide hwk
          clear hbit hwk hpj
          go_wp2_with fail
          go_roundw
          case rel =>
            refine ⟨i + 1, by omega, by go_num, ?_, HW.out.2.1⟩
            rw [settle_take _ _ _ i _ HP.out, HWK.out, if_neg (by simp)]
            exact HW.out.1
          case measure => simp [intOf]; omega
      · obtain rfl : i = D.pend.length := by omega
        go_wp2_with fail
        go_ret
        have hb5 := ((HW.out.2.2.set_ 1 (.slice none 0 0)).set_ 3 (.int .i64 0)).set_ 4 (.bool false)
        rw [rdv_set1, rdv_set3, rdv_set4] at hb5
        have ha5 := HW.out.1
        rw [List.take_length] at ha5
        refine ⟨rfl, rleft_settled HR.out.2 (settle_len ..) hb5 (owned_keepN ha5 fun k hk _ => ?_) ?_ HX.out⟩
        · have hk : some ra = some k := hk
          injection hk with hk
          have hkg : k ≠ g := fun e => H1.out.2 (by rw [hk, e])
          rw [Below.heap_setCell _ ⟨g, 4, none⟩ _ k hkg, Below.heap_setCell _ ⟨g, 3, none⟩ _ k hkg, Below.heap_setCell _ ⟨g, 1, none⟩ _ k hkg]
        · exact (((HW.out.2.1.mono (T := fun k => k = g ∨ k = ra) fun _ _ h => .inr h).setCell (p := ⟨g, 1, none⟩) (fun _ => .inl rfl) _).setCell (p := ⟨g, 3, none⟩) (fun _ => .inl rfl) _).setCell (p := ⟨g, 4, none⟩) (fun _ => .inl rfl) _
end Go.Proofs.Ytajeohmmobgcjaa
