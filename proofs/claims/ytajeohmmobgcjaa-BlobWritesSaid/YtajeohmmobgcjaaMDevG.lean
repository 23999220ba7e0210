/- package dev: the walk of settle. package dev: what flushes, what wakes. -/
import Derived.Test.YtajeohmmobgcjaaMDevD
import Derived.Deep.QuietTactic
import Derived.BigQuiet
section
namespace Go.Proofs.Ytajeohmmobgcjaa
open Go Go.RowKit
theorem info_sect : (Try.prog.info? 109).map (fun i => (i.zero, i.size, i.bytes)) = some (some (.agg (bv (List.replicate 64 0)).toArray), 64, 64) := by kernel_rfl
theorem sz_shot : (Try.prog.info? 111).map (·.size) = some 65 := by kernel_rfl
theorem sz_sect : (Try.prog.info? 109).map (·.size) = some 64 := by kernel_rfl
theorem sh_cut (x : Int) (b : List UInt8) (h : b.length = 64) : ((sh x b).toArray.extract 1 (1 + 64)).toList = bv b := by
  simp only [sh, h, Nat.sub_self, List.replicate_zero, List.append_nil]
  simp only [List.extract_toArray, List.extract_eq_take_drop, List.drop_succ_cons, List.drop_zero, Nat.add_sub_cancel_left]
  exact List.take_of_length_le (by rw [bvL, h]; exact Nat.le_refl _)
set_option maxRecDepth 100000 in
set_option maxHeartbeats 1000000 in
theorem settle_any {g rk n c m : Nat} {vp : Value} {de fu : Int} {dn : Bool} (fn : Nat) (cap : Array Value) (f : Nat → Bool) (K : List (List UInt8)) (L : List (Int × List UInt8)) (w : World) (hm : L.length ≤ 1000000) (hn : n ≤ 8192) (hKn : K.length = n) (hLm : L.length = m)
    (hb : Blk w g 107 (dv de fu dn (.slice (some ⟨rk, 0, none⟩) n c) vp)) (hk : w.ownsRow 0 109 64 (.slice (some ⟨rk, 0, none⟩) n c) n (keptCells K)) (hp : w.ownsRow 0 111 65 vp m (pendCells L))
    (hK : ∀ b ∈ K, b.length = 64) (hL : ∀ p ∈ L, p.2.length = 64 ∧ 0 ≤ p.1 ∧ p.1 < (n : Int))
    (heg : ∀ args w, (callFunc fn args).run Try.prog w = .ok (.enter fn args) w)
    (hcall : ∀ (W : World) (k : Nat), k < m → Turned (fun b => b = rk) w W → Calls Try.prog fn (#[.int .i64 (k : Int)] ++ cap) W fun e W' => e = .returned (.bool (f k)) ∧ Below W.heap.size W W') :
    Calls Try.prog 61 #[.pointer (some ⟨g, 0, none⟩), .func (.func fn) #[] cap] w fun e w' => e = .returned (.tuple #[]) ∧ Blk w' g 107 (dv de fu dn (.slice (some ⟨rk, 0, none⟩) n c) (.slice none 0 0)) ∧ w'.ownsRow 0 109 64 (.slice (some ⟨rk, 0, none⟩) n c) n (keptCells (settleL f 0 L K)) ∧ Turned (fun b => b = g ∨ b = rk) w w' := by
  have c4 := (hb.cell 4).trans (dv4 ..)
  have hlt := hb.lt
  obtain ⟨A, cp, rfl⟩ : ∃ A cp, vp = .slice A m cp := by
    rcases owned_formN hp with ⟨h, h0, _⟩ | ⟨r, cap, _, h, _⟩
    · exact ⟨none, 0, by rw [h, h0]⟩
    · exact ⟨_, cap, h⟩
  have H := hide (And.intro hb (And.intro hk hp))
  have HC := hide hcall
  have HL := hide (And.intro hK hL)
  have HN := hide (And.intro hKn hLm)
  clear hb hk hp hcall hK hL
  rw [hLm] at hm
  clear hKn hLm
  go_enter Try.func61, Try.ntmps61
  go_wp2_with fail
  go_loopw [11] (fun v wr => ∃ j : Nat, j ≤ m ∧ v = .int .i64 (j : Int) ∧ wr.ownsRow 0 109 64 (.slice (some ⟨rk, 0, none⟩) n c) n (keptCells (settleL f 0 (L.take j) K)) ∧ Turned (fun b => b = rk) w wr) (fun v _ => m - (intOf v).toNat)
  case atStart => exact ⟨0, by omega, rfl, by simpa [settleL] using H.out.2.1, Turned.refl _ _⟩
  case round =>
    obtain ⟨j, hj, rfl, ho, ht⟩ := hrel
    have HR := hide (And.intro ho ht)
    clear ho ht
    by_cases hjm : j < m
    · have n1 : (0 : Int) ≤ (j : Int) := by omega
      have n2 : (j : Int) < (m : Int) := by omega
      obtain ⟨rp, cap', hvp⟩ := owned_placeN H.out.2.2 (by omega)
      injection hvp with e1 _ e2
      subst e1 e2
      obtain ⟨⟨x, b⟩, hpj⟩ : ∃ p, L[j]? = some p := ⟨L[j]'(by have := HN.out.2; omega), List.getElem?_eq_getElem _⟩
      have hpm : (x, b) ∈ L := List.mem_of_getElem? hpj
      have hb64 := (HL.out.2 _ hpm).1
      have hx1 := (HL.out.2 _ hpm).2.1
      have hx2 := (HL.out.2 _ hpm).2.2
      dsimp only at hb64 hx1 hx2
      have hrr : rp ≠ rk := fun e => owned_ne2 H.out.2.2 H.out.2.1 (by decide) rfl rfl e
      have hpr : wr.ownsRow 0 111 65 (.slice (some ⟨rp, 0, none⟩) m cp) m (pendCells L) := owned_keepN H.out.2.2 fun k hg hl => HR.out.2.block k hl (by
        have hg : some rp = some k := hg
        injection hg with hg
        subst hg
        exact hrr)
      have hrange : wr.rangeAt rp (j * 65) (sh x b) := own_range hpr (j * 65) 65 _ (pend_at L j (x, b) (fun q hq => (HL.out.2 q hq).1) hpj)
      have hl65 : (sh x b).length = 65 := sh_len x b (by omega)
      obtain ⟨S, hS⟩ : ∃ S, S = sh x b := ⟨_, rfl⟩
      rw [← hS] at hrange hl65
      have HS := hide hS
      have HR2 := hide hrange
      have HP := hide hpj
      clear hrange hpr hpj hpm hS
      have hsz : (Try.prog.info? 111).map (·.size) = some S.toArray.size := by rw [List.size_toArray, hl65]; exact sz_shot
      have hzs : Try.zeroCells111.size = S.toArray.size := by
        rw [show S.toArray.size = 65 from by rw [List.size_toArray, hl65]]
        kernel_rfl
      have hone : S.toArray.all (·.oneCell') = true := all_oneCell_toArray (by rw [HS.out]; exact sh_one x b)
      have HBN := hide (Blk.new wr 111 Try.zeroCells111)
      have HC2 : Hid (∀ w2, (wr.alloc (.cells Try.zeroCells111 111)).grownBy w2 (some wr.heap.size) → Calls Try.prog fn (#[.int .i64 (j : Int)] ++ cap) w2 fun e W' => e = .returned (.bool (f j)) ∧ Below w2.heap.size w2 W') := hide (fun w2 hg2 => HC.out w2 j hjm (((HR.out.2).alloc _).then_ (Turned.of_grown (S := (· = wr.heap.size)) hg2 (fun k h _ => by injection h with h; exact h.symm)) (fun k hk h => by
        have h : k = wr.heap.size := h
        have := HR.out.2.size
        omega)))
      go_wp2_with (first
        | ((with_reducible refine wpList_load_mid (op := ⟨some 15, _, _, _, _, _⟩) rfl 111 (.tmp 14) rfl rp (j * 65) ?_ S _ HR2.out Try.underlying111 rfl (by rw [hl65]; exact sz_shot) ?_); rfl; dsimp only [Act.put, List.setIfInBounds_toArray, List.set_cons_zero, List.set_cons_succ])
        | ((with_reducible refine wpList_store_blkA (o := ⟨none, _, _, _, _, _⟩) rfl 111 (.tmp 5) (.tmp 15) rfl wr.heap.size Try.zeroCells111 S.toArray 111 HBN.out hsz hzs hone ?_ ?_ ?_); rfl; rfl; intro w2 h2 hg2; have H2 := hide (And.intro h2 hg2); clear h2 hg2; dsimp only [Act.put]))
      refine (HC2.out w2 H2.out.2).mono ?_
      rintro e w3 ⟨rfl, hb3⟩
      have hs2 : wr.heap.size < w2.heap.size := by have := H2.out.2.size; rw [size_alloc] at this; omega
      have hT3 : Turned (fun b => b = rk) w w3 := (((HR.out.2).alloc (.cells Try.zeroCells111 111)).then_ (Turned.of_grown (S := (· = wr.heap.size)) H2.out.2 (fun k h _ => by injection h with h; exact h.symm)) (fun k hk h => by
        have h : k = wr.heap.size := h
        have := HR.out.2.size
        omega)).trans (Turned.of_below hb3 _)
      have hgk : g ≠ rk := fun e => owned_neN H.out.2.1 H.out.1 (by decide) (by rw [e]; rfl)
      have hdv : Blk w3 g 107 (dv de fu dn (.slice (some ⟨rk, 0, none⟩) n c) (.slice (some ⟨rp, 0, none⟩) m cp)) := (hT3.block g hlt hgk).trans H.out.1
      have hsh : Blk w3 wr.heap.size 111 S.toArray := H2.out.1.below hb3 hs2
      have hkp : w3.ownsRow 0 109 64 (.slice (some ⟨rk, 0, none⟩) n c) n (keptCells (settleL f 0 (L.take j) K)) := owned_keepN HR.out.1 fun k _ hl => by
        have h1 : w2.heap[k]? = (wr.alloc (.cells Try.zeroCells111 111)).heap[k]? := H2.out.2.block k (by rw [size_alloc]; omega) (fun e => by injection e with e; omega)
        exact ((hb3.block k (by omega)).trans h1).trans (Below.heap_alloc _ _ k hl)
      have hnx := settle_take f L K j (x, b) HP.out
      cases hfj : f j with
      | false =>
        rw [hfj, if_neg (by simp)] at hnx
        have H3 := hide (And.intro hT3 (And.intro hkp hnx))
        clear hT3 hkp hnx hdv hsh hb3
        dsimp only
        go_wp2_with fail
        go_roundw
        case rel => exact ⟨j + 1, by omega, by go_num, by rw [H3.out.2.2]; exact H3.out.2.1, H3.out.1⟩
        case measure => simp [intOf]; omega
      | true =>
        rw [hfj, if_pos rfl] at hnx
        have H3 := hide (And.intro hT3 (And.intro hkp (And.intro hnx (And.intro hdv hsh))))
        clear hT3 hkp hnx hdv hsh hb3
        dsimp only
        go_wp2_with fail
        refine wp_made 9 [] (by kernel_rfl) (by kernel_rfl) (by intro p hp; cases hp) List.nodup_nil (by intro t ht; cases ht) ?_
        simp only [List.take_succ_cons, List.take_zero, List.drop_succ_cons, List.drop_zero]
        refine made_val (.pointer (some ⟨g, 0, none⟩)) (by kernel_rfl) (by kernel_rfl) (by kernel_rfl) (fun _ _ => by kernel_rfl) ?_
        simp only [Act.put, List.setIfInBounds_toArray, List.set_cons_zero, List.set_cons_succ]
        refine made_val (.pointer (some ⟨g, 0, none⟩)) (by kernel_rfl) (by kernel_rfl) (by kernel_rfl) (fun _ _ => by kernel_rfl) ?_
        simp only [Act.put, List.setIfInBounds_toArray, List.set_cons_zero, List.set_cons_succ]
        refine made_val (.pointer (some ⟨g, 3, none⟩)) (by kernel_rfl) (by kernel_rfl) (by kernel_rfl) (fun _ _ => by kernel_rfl) ?_
        simp only [Act.put, List.setIfInBounds_toArray, List.set_cons_zero, List.set_cons_succ]
        refine made_val (.slice (some ⟨rk, 0, none⟩) n c) (by kernel_rfl) (by kernel_rfl) (by kernel_rfl) (fun W hW => exec_load_slice (o := ⟨some 22, _, _, _, _, _⟩) 102 109 (.tmp 21) rfl ⟨g, 3, none⟩ rfl _ W Try.underlying102 (((H3.out.2.2.2.1.below hW H3.out.2.2.2.1.lt).cell 3).trans (dv3 ..))) ?_
        simp only [Act.put, List.setIfInBounds_toArray, List.set_cons_zero, List.set_cons_succ]
        refine made_val (.pointer (some ⟨wr.heap.size, 0, none⟩)) (by kernel_rfl) (by kernel_rfl) (by kernel_rfl) (fun _ _ => by kernel_rfl) ?_
        simp only [Act.put, List.setIfInBounds_toArray, List.set_cons_zero, List.set_cons_succ]
        refine made_val (.int .i64 x) (by kernel_rfl) (by kernel_rfl) (by kernel_rfl) (fun W hW => exec_load_cell (o := ⟨some 24, _, _, _, _, _⟩) 3 (.tmp 23) rfl ⟨wr.heap.size, 0, none⟩ rfl _ _ W Try.underlying3 rfl (by rw [(H3.out.2.2.2.2.below hW H3.out.2.2.2.2.lt).cell, HS.out]; rfl)) ?_
        simp only [Act.put, List.setIfInBounds_toArray, List.set_cons_zero, List.set_cons_succ]
        refine made_val (.pointer (some ⟨wr.heap.size, 1, none⟩)) (by kernel_rfl) (by kernel_rfl) (by kernel_rfl) (fun _ _ => by kernel_rfl) ?_
        simp only [Act.put, List.setIfInBounds_toArray, List.set_cons_zero, List.set_cons_succ]
        refine made_val (.agg (bv b).toArray) (by kernel_rfl) (by kernel_rfl) (by kernel_rfl) (fun W hW => exec_load_mid (o := ⟨some 26, _, _, _, _, _⟩) 109 (.tmp 25) rfl wr.heap.size 1 rfl (bv b) _ W (by have h := World.rangeAt_of_block (H3.out.2.2.2.2.below hW H3.out.2.2.2.2.lt) 1 64; rw [HS.out, sh_cut x b hb64] at h; exact h) Try.underlying109 rfl (by rw [bvL, hb64]; exact sz_sect)) ?_
        simp only [Act.put, List.setIfInBounds_toArray, List.set_cons_zero, List.set_cons_succ]
        refine made_val (.pointer (some ⟨rk, x.toNat * 64, none⟩)) (by kernel_rfl) (by kernel_rfl) (by kernel_rfl) (fun W _ => exec_index (o := ⟨some 27, _, _, _, _, _⟩) 102 109 (.tmp 22) (.tmp 24) rfl rk n c x .i64 rfl rfl ⟨hx1, hx2⟩ 64 Try.underlying102 sz_sect W) ?_
        simp only [Act.put, List.setIfInBounds_toArray, List.set_cons_zero, List.set_cons_succ]
        show ∀ w', _ → _
        intro w4 hb4
        simp only [ended]
        have hk4 : w4.ownsRow 0 109 64 (.slice (some ⟨rk, 0, none⟩) n c) n (keptCells (settleL f 0 (L.take j) K)) := owned_keepN H3.out.2.1 fun k _ hl => hb4.block k hl
        have hKj : (settleL f 0 (L.take j) K).length = n := by rw [settle_len, HN.out.1]
        have hKa : ∀ b ∈ settleL f 0 (L.take j) K, b.length = 64 := settle_all f _ _ _ (fun p hp => (HL.out.2 p (List.mem_of_mem_take hp)).1) HL.out.1
        have hxn : x.toNat < n := by omega
        have hbl : (bv b).length = 64 := by rw [bvL, hb64]
        have hfit : x.toNat * 64 + (bv b).length ≤ n * 64 := by omega
        have hth : w4.there rk (x.toNat * 64) (bv b).toArray.size := by
          rw [List.size_toArray]
          exact own_there hk4 _ _ hfit
        have hst : (w4.setCells rk (x.toNat * 64) (bv b)).ownsRow 0 109 64 (.slice (some ⟨rk, 0, none⟩) n c) n (keptCells (settleL f 0 (L.take (j + 1)) K)) := by
          rw [H3.out.2.2.1, kept_set _ _ _ hKa hb64 (by rw [hKj]; exact hxn)]
          exact own_setCells hk4 _ _ hfit
        have hT5 : Turned (fun b => b = rk) w (w4.setCells rk (x.toNat * 64) (bv b)) := (H3.out.1.trans (Turned.of_below hb4 _)).trans (Turned.of_grown (grown_setCells _ _ _ (World.grownBy.refl _ _)) (fun k h _ => by injection h with h; exact h.symm))
        have H5 := hide (And.intro hth (And.intro hst hT5))
        clear hth hst hT5 hk4 hb4
        refine wpList_store_mid (op := ⟨none, _, _, _, _, _⟩) rfl 109 (.tmp 27) (.tmp 26) rfl rk (x.toNat * 64) (bv b).toArray rfl rfl H5.out.1 (by rw [List.size_toArray, hbl]; exact sz_sect) (bv_one b) ?_
        obtain ⟨w5, hw5⟩ : ∃ w5, w5 = w4.setCells rk (x.toNat * 64) (bv b).toArray.toList := ⟨_, rfl⟩
        have H6 : Hid (w5.ownsRow 0 109 64 (.slice (some ⟨rk, 0, none⟩) n c) n (keptCells (settleL f 0 (L.take (j + 1)) K)) ∧ Turned (fun b => b = rk) w w5) := hide (by rw [hw5]; exact H5.out.2)
        rw [← hw5]
        clear hw5 H5
        simp only [Act.put]
        go_wp2_with fail
        go_roundw
        case rel => exact ⟨j + 1, by omega, by go_num, H6.out⟩
        case measure => simp [intOf]; omega
    · obtain rfl : j = m := by omega
      have hgk : g ≠ rk := fun e => owned_neN H.out.2.1 H.out.1 (by decide) (by rw [e]; rfl)
      have hdv : Blk wr g 107 (dv de fu dn (.slice (some ⟨rk, 0, none⟩) n c) (.slice A j cp)) := (HR.out.2.block g hlt hgk).trans H.out.1
      have c4' := (hdv.cell 4).trans (dv4 ..)
      have f4 := hdv.frozen 4
      have hltr := hdv.lt
      have H3 := hide hdv
      clear hdv
      go_wp2_with fail
      go_end0
      have hb5 := H3.out.set_ 4 (.slice none 0 0)
      rw [dv_set4] at hb5
      have ho := HR.out.1
      rw [show L.take j = L by rw [← HN.out.2]; exact List.take_length] at ho
      refine ⟨rfl, hb5, owned_keepN ho fun k hk _ => Below.heap_setCell wr ⟨g, 4, none⟩ _ k (fun e => hgk ?_), (HR.out.2.mono fun k _ h => .inr h).setCell (fun _ => .inl rfl) _⟩
      have hk : some rk = some k := hk
      injection hk with hk
      rw [hk]
      exact e.symm
end Go.Proofs.Ytajeohmmobgcjaa
end
section
namespace Go.Proofs.Ytajeohmmobgcjaa
open Go Go.RowKit
theorem yes_any (k : Nat) (w : World) : Calls Try.prog 62 (#[.int .i64 (k : Int)] ++ #[]) w fun e w' => e = .returned (.bool true) ∧ Below w.heap.size w w' := by
  show Calls Try.prog 62 #[.int .i64 (k : Int)] w _
  go_enter Try.func62, Try.ntmps62
  go_wp2
  go_ret
  exact ⟨rfl, Below.refl _ _⟩
/-- is a bit of a number? -/
def wakeB (u : Int) (k : Nat) : Bool := bits .and .u64 u (IntKind.u64.wrap (2 ^ (k % 62))) != 0
set_option maxRecDepth 100000 in
theorem bit_any (u : Int) (k : Nat) (hk : k ≤ 1000000) (q : Nat) (w : World) (hu : w.cell? ⟨q, 0, none⟩ = some (.int .u64 u)) : Calls Try.prog 64 (#[.int .i64 (k : Int)] ++ #[.pointer (some ⟨q, 0, none⟩)]) w fun e w' => e = .returned (.bool (wakeB u k)) ∧ Below w.heap.size w w' := by
  show Calls Try.prog 64 #[.int .i64 (k : Int), .pointer (some ⟨q, 0, none⟩)] w _
  go_enter Try.func64, Try.ntmps64
  go_wp2_with fail
  go_quiet (fail)
  go_wp2_with fail
  go_ret
  exact ⟨rfl, below_drewN (Below.refl _ _) _⟩
/-- all that is pending is kept -/
def Dv.flush (D : Dv) : Int × Dv :=
  if D.dn then (10, D) else
  let t := tick D.de D.fu D.dn
  (t.1, { D with de := t.2.1, fu := t.2.2.1, dn := t.2.2.2, kept := if t.1 = 0 then settleL (fun _ => true) 0 D.pend D.kept else D.kept, pend := if t.1 = 0 then [] else D.pend })
def Dv.wake (D : Dv) (x : Int) : Int × Dv :=
  if D.dn then (0, { de := D.de, fu := 0, dn := false, kept := settleL (wakeB (IntKind.u64.wrap x)) 0 D.pend D.kept, pend := [] }) else (15, D)
theorem Dv.Ok.settled {D : Dv} (h : D.Ok) (f : Nat → Bool) {de fu : Int} (dn : Bool) (hde : 0 ≤ de) (hfu : 0 ≤ fu ∧ fu ≤ 9223372036854775807) : Dv.Ok { de := de, fu := fu, dn := dn, kept := settleL f 0 D.pend D.kept, pend := [] } :=
  ⟨by rw [settle_len]; exact h.n1, by rw [settle_len]; exact h.n2, settle_all f _ _ _ (fun p hp => (h.p64 p hp).1) h.k64, by simp, hde, hfu⟩
theorem left_settled {w w' : World} {g rk c : Nat} {vp : Value} {K : List (List UInt8)} {de fu : Int} {dn : Bool} (hb : Blk w' g 107 (dv de fu dn (.slice (some ⟨rk, 0, none⟩) K.length c) (.slice none 0 0))) (hk : w'.ownsRow 0 109 64 (.slice (some ⟨rk, 0, none⟩) K.length c) K.length (keptCells K))
    (ht : Turned (fun b => b = g ∨ b = rk) w w') (hok : Dv.Ok { de := de, fu := fu, dn := dn, kept := K, pend := [] }) : Left w (Foot g rk vp) g { de := de, fu := fu, dn := dn, kept := K, pend := [] } w' := by
  refine ⟨Foot g rk (.slice none 0 0), ⟨rk, c, _, rfl, hb, hk, ⟨rfl, .inl ⟨rfl, rfl⟩⟩, hok⟩, ht.mono fun k _ h => ?_, ?_⟩
  · rcases h with h | h
    · exact .inl h
    · exact .inr (.inl h)
  · rintro k (h | h | h)
    · exact .inl (.inl h)
    · exact .inl (.inr (.inl h))
    · cases h
set_option maxRecDepth 100000 in
set_option maxHeartbeats 1000000 in
theorem flush_any {D : Dv} {F : Nat → Prop} {g : Nat} (w : World) (h : DevAt w F g D) (hde : D.de ≤ 1000000000) (hm : D.pend.length ≤ 100000) :
    Calls Try.prog 29 #[.pointer (some ⟨g, 0, none⟩)] w fun e w' => e = .returned (.int .i64 D.flush.1) ∧ Left w F g D.flush.2 w' := by
  have h0 := h
  obtain ⟨rk, c, vp, rfl, hb, hk, hp, hok⟩ := h
  have HO := hide hok
  have H := hide (And.intro hb (And.intro hk (And.intro hp h0)))
  clear hb hk hp h0
  cases hdn : D.dn with
  | true =>
    rw [show D.flush = (10, D) by simp [Dv.flush, hdn]]
    go_enter Try.func29, Try.ntmps29
    go_wp2_with fail
    refine (able_any _ H.out.1).mono ?_
    rintro e w' ⟨rfl, rfl⟩
    rw [hdn, if_pos rfl]
    dsimp only
    go_wp2_with fail
    go_ret
    exact ⟨rfl, .same H.out.2.2.2⟩
  | false =>
    have Hb := H.out.1
    rw [hdn] at Hb
    rcases tick_cases D.de D.fu with ⟨hf, ht⟩ | ⟨fu', ht, hf⟩
    · have ok' := hok.ticked ht D.pend hok.p64 true
      rw [show D.flush = (10, { D with de := D.de, fu := 0, dn := true }) by simp [Dv.flush, hdn, ht]]
      have HT := hide (And.intro ht (And.intro hok.de hok.fu))
      have HX := hide ok'
      clear ok' hok ht
      go_enter Try.func29, Try.ntmps29
      go_wp2_with fail
      refine (able_any _ Hb).mono ?_
      rintro e w' ⟨rfl, rfl⟩
      rw [if_neg (by simp)]
      dsimp only
      go_wp2_with fail
      refine (next_any _ _ ⟨HT.out.2.1, hde⟩ HT.out.2.2 Hb).mono ?_
      rintro e w1 ⟨rfl, hb1, hg1⟩
      rw [HT.out.1] at hb1 ⊢
      dsimp only
      have H1 := hide (And.intro hb1 hg1)
      clear hb1 hg1
      go_wp2_with fail
      go_ret
      exact ⟨rfl, left_own Hb H.out.2.1 H.out.2.2.1 H1.out.1 H1.out.2 rfl rfl HX.out⟩
    · have ok' := hok.settled (fun _ => true) false (show 0 ≤ D.de + 1 by have := hok.de; omega) (show 0 ≤ fu' ∧ fu' ≤ 9223372036854775807 by have := hok.fu; exact ⟨hf.1 this.1, by omega⟩)
      rw [show D.flush = (0, { de := D.de + 1, fu := fu', dn := false, kept := settleL (fun _ => true) 0 D.pend D.kept, pend := [] }) by simp [Dv.flush, hdn, ht]]
      have HT := hide (And.intro ht (And.intro hok.de hok.fu))
      have HX := hide ok'
      clear ok' hok ht
      go_enter Try.func29, Try.ntmps29
      go_wp2_with fail
      refine (able_any _ Hb).mono ?_
      rintro e w' ⟨rfl, rfl⟩
      rw [if_neg (by simp)]
      dsimp only
      go_wp2_with fail
      refine (next_any _ _ ⟨HT.out.2.1, hde⟩ HT.out.2.2 Hb).mono ?_
      rintro e w1 ⟨rfl, hb1, hg1⟩
      rw [HT.out.1] at hb1 ⊢
      dsimp only
      have H1 := hide (And.intro hb1 hg1)
      clear hb1 hg1
      go_wp2_with fail
      have hkg : rk ≠ g := fun e => owned_neN H.out.2.1 Hb (by decide) (by rw [← e]; rfl)
      have hpg : vp.ownBlock ≠ some g := owned_neN H.out.2.2.1 Hb (by decide)
      have hk1 := owned_keepN H.out.2.1 (w' := w1) fun k hk hl => H1.out.2.block k hl (fun e => hkg (by have hk : some rk = some k := hk; injection hk with hk; injection e with e; rw [hk, e]))
      have hp1 := owned_keepN H.out.2.2.1 (w' := w1) fun k hk hl => H1.out.2.block k hl (fun e => hpg (by rw [hk, e]))
      refine (settle_any 62 #[] (fun _ => true) D.kept D.pend w1 (by omega) HO.out.n2 rfl rfl H1.out.1 hk1 hp1 HO.out.k64 HO.out.p64 (fun _ _ => by kernel_rfl) (fun W k _ _ => yes_any k W)).mono ?_
      rintro e w2 ⟨rfl, hb2, hk2, ht2⟩
      have H2 := hide (And.intro hb2 (And.intro hk2 ht2))
      clear hb2 hk2 ht2 hk1 hp1
      dsimp only
      go_wp2_with fail
      go_ret
      have el : D.kept.length = (settleL (fun _ => true) 0 D.pend D.kept).length := (settle_len ..).symm
      have h2 := H2.out
      rw [el] at h2
      refine ⟨rfl, left_settled h2.1 h2.2.1 ((Turned.of_grown H1.out.2 (fun k h _ => .inl (by injection h with h; exact h.symm))).trans h2.2.2) HX.out⟩
set_option maxRecDepth 100000 in
set_option maxHeartbeats 1000000 in
theorem wake_any {D : Dv} {F : Nat → Prop} {g : Nat} (x : Int) (w : World) (h : DevAt w F g D) (hm : D.pend.length ≤ 100000) :
    Calls Try.prog 33 #[.pointer (some ⟨g, 0, none⟩), .int .i64 x] w fun e w' => e = .returned (.int .i64 (D.wake x).1) ∧ Left w F g (D.wake x).2 w' := by
  have h0 := h
  obtain ⟨rk, c, vp, rfl, hb, hk, hp, hok⟩ := h
  have HO := hide hok
  have H := hide (And.intro hb (And.intro hk (And.intro hp h0)))
  clear hb hk hp h0
  cases hdn : D.dn with
  | false =>
    rw [show D.wake x = (15, D) by simp [Dv.wake, hdn]]
    go_enter Try.func33, Try.ntmps33
    go_wp2_with fail
    refine (able_any _ H.out.1).mono ?_
    rintro e w' ⟨rfl, rfl⟩
    rw [hdn, if_neg (by simp)]
    dsimp only
    go_wp2_with fail
    go_ret
    exact ⟨rfl, .same H.out.2.2.2⟩
  | true =>
    have Hb := H.out.1
    rw [hdn] at Hb
    have ok' := hok.settled (wakeB (IntKind.u64.wrap x)) false hok.de (show 0 ≤ (0 : Int) ∧ (0 : Int) ≤ 9223372036854775807 by omega)
    rw [show D.wake x = (0, { de := D.de, fu := 0, dn := false, kept := settleL (wakeB (IntKind.u64.wrap x)) 0 D.pend D.kept, pend := [] }) by simp [Dv.wake, hdn]]
    have HX := hide ok'
    clear ok' hok
    go_enter Try.func33, Try.ntmps33
    go_wp2_with fail
    refine (able_any _ Hb).mono ?_
    rintro e w' ⟨rfl, rfl⟩
    rw [if_pos rfl]
    dsimp only
    go_wp2_with fail
    obtain ⟨w1, hw1⟩ : ∃ w1, w1 = w'.alloc (.cells #[.int .u64 (IntKind.u64.wrap x)] 113) := ⟨_, rfl⟩
    have hT1 : Turned (fun _ => False) w' w1 := by rw [hw1]; exact (Turned.refl _ _).alloc _
    have hq : Blk w1 w'.heap.size 113 #[.int .u64 (IntKind.u64.wrap x)] := by rw [hw1]; exact Blk.new _ _ _
    have hb1 := (hT1.block g Hb.lt (fun h => h)).trans Hb
    have hk1 := owned_keepN H.out.2.1 (w' := w1) fun k hk hl => hT1.block k hl (fun h => h)
    have hp1 := owned_keepN H.out.2.2.1 (w' := w1) fun k hk hl => hT1.block k hl (fun h => h)
    have hrk : rk < w'.heap.size := (owned_ltN H.out.2.1 rfl).2
    rw [← hw1]
    have H1 := hide (And.intro hT1 hq)
    clear hw1 hT1 hq
    refine (settle_any 64 #[.pointer (some ⟨w'.heap.size, 0, none⟩)] (wakeB (IntKind.u64.wrap x)) D.kept D.pend w1 (by omega) HO.out.n2 rfl rfl hb1 hk1 hp1 HO.out.k64 HO.out.p64 (fun _ _ => by kernel_rfl) (fun W k hk hW => bit_any _ k (by omega) _ W ?_)).mono ?_
    · rw [World.cell?_of_block (hW.block _ H1.out.2.lt (fun e => by have e : w'.heap.size = rk := e; omega)), H1.out.2.cell]
      rfl
    rintro e w2 ⟨rfl, hb2, hk2, ht2⟩
    have c0 := (hb2.cell 0).trans (dv0 ..)
    have c1 := (hb2.cell 1).trans (dv1 ..)
    have c2 := (hb2.cell 2).trans (dv2 ..)
    have f0 := hb2.frozen 0
    have f1 := hb2.frozen 1
    have f2 := hb2.frozen 2
    have hlt := hb2.lt
    have H2 := hide (And.intro hb2 (And.intro hk2 ht2))
    clear hb2 hk2 ht2 hk1 hp1 hb1
    dsimp only
    go_wp2_with fail
    go_ret
    have el : D.kept.length = (settleL (wakeB (IntKind.u64.wrap x)) 0 D.pend D.kept).length := (settle_len ..).symm
    have h2 := H2.out
    rw [el] at h2
    have hb5 := ((h2.1.set_ 0 (.int .i64 D.de)).set_ 1 (.int .i64 0)).set_ 2 (.bool false)
    rw [dv_set0, dv_set1, dv_set2] at hb5
    have hkg : ∀ k, some rk = some k → k ≠ g := fun k e e2 => owned_neN H.out.2.1 Hb (by decide) (by rw [← e2]; exact e)
    have hT : Turned (fun b => b = g ∨ b = rk) w' w2 := (H1.out.1.mono (fun _ _ h => h.elim)).trans h2.2.2
    refine ⟨rfl, left_settled hb5 (owned_keepN h2.2.1 fun k hk _ => ?_) (((hT.setCell (fun _ => .inl rfl) _).setCell (fun _ => .inl rfl) _).setCell (fun _ => .inl rfl) _) HX.out⟩
    have hk := hkg k hk
    rw [Below.heap_setCell _ ⟨g, 2, none⟩ _ k hk, Below.heap_setCell _ ⟨g, 1, none⟩ _ k hk, Below.heap_setCell _ ⟨g, 0, none⟩ _ k hk]
end Go.Proofs.Ytajeohmmobgcjaa
end
