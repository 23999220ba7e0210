/- The walks of code.Cursor: bytes and texts are got; what is left; the end. -/
import Derived.Test.YtjmenaplgndnnaaCursor2
import Derived.Test.YtjmenaplgndnnaaExec
namespace Go.Proofs.Ytjmenaplgndnnaa
open Go.RowKit
/-- a cursor cut by some bytes, in another world -/
theorem CuAt.cut {w w' : World} {g T rb : Nat} {c : Cu} {A : Option Addr} {cap : Nat} (h : CuAt w g T rb c A cap) (m : Nat) (hm : m ≤ c.rest.length) (hb : Below w.heap.size w w') :
    CuAt (w'.setCell ⟨g, 0, none⟩ (.slice (if cap = m then A else A.map (·.add m)) (c.rest.length - m) (cap - m))) g T rb ⟨c.rest.drop m, c.wrong⟩ (if cap = m then A else A.map (·.add m)) (cap - m) := by
  have hf := h.fits
  have h1 := h.below hb
  refine ⟨?_, by rw [List.length_drop]; omega, ?_, h.ne, fun h0 => ?_⟩
  · have h2 := h1.blk.set_ 0 (.slice (if cap = m then A else A.map (·.add m)) (c.rest.length - m) (cap - m))
    rw [List.length_drop]
    exact h2
  · intro h2
    split at h2
    · omega
    · have h4 := h.nil (by cases A with | none => rfl | some _ => simp at h2)
      omega
  · rw [List.length_drop] at h0
    obtain ⟨off, hA, hrb, hcell⟩ := h1.rd (by omega)
    rw [if_neg (by omega), hA]
    refine ⟨off + m, by simp [Addr.add_mid], by simpa [World.setCell] using hrb, fun j hj => ?_⟩
    rw [List.length_drop] at hj
    rw [World.cell?_setCell_other _ _ _ _ (by intro e; injection e with e; exact h.ne e.symm), Nat.add_assoc, hcell (m + j) (by omega)]
    simp [List.getD]
set_option maxRecDepth 100000 in
set_option maxHeartbeats 1000000 in
theorem craw_any (many : Int) (hmany : -9223372036854775808 ≤ many ∧ many ≤ 9223372036854775807) (c : Cu) (hc : c.rest.length ≤ 1099511627776) (g T rb : Nat) (A : Option Addr) (cap : Nat) (w : World) (h : CuAt w g T rb c A cap) :
    Calls Try.prog 48 #[.pointer (some ⟨g, 0, none⟩), .int .i64 many] w fun e w' => ∃ v, e = .returned v ∧ w'.ownsRow w.heap.size 5 1 v (c.raw many).1.length (bv (c.raw many).1) ∧ ∃ A' cap', CuAt w' g T rb (c.raw many).2 A' cap' ∧ Turned (· = g) w w' := by
  have hb := h.blk
  have c0 := hb.cell 0
  have c1 := hb.cell 1
  have f0 := hb.frozen 0
  simp only [List.getElem?_toArray, List.getElem?_cons_zero, List.getElem?_cons_succ] at c0 c1
  have hlt := hb.lt
  obtain ⟨n, hn⟩ : ∃ n, n = c.rest.length := ⟨_, rfl⟩
  obtain ⟨z, hz⟩ : ∃ z : Int, z = (c.wrong : Int) := ⟨_, rfl⟩
  rw [← hn] at c0 hc
  rw [← hz] at c1
  have hz0 : 0 ≤ z := by omega
  have hfail : c.rawOk many = false → ∀ w', (CuAt w' g T rb (c.fail (4 : Int).toNat) none 0 ∧ Turned (· = g) w w') → ∃ v, Ending.returned (.slice none 0 0) = .returned v ∧ w'.ownsRow w.heap.size 5 1 v (c.raw many).1.length (bv (c.raw many).1) ∧ ∃ A' cap', CuAt w' g T rb (c.raw many).2 A' cap' ∧ Turned (· = g) w w' := by
    intro h w' hw'
    have e : c.raw many = ([], c.fail 4) := by unfold Cu.raw; rw [h]; rfl
    rw [e]
    exact ⟨_, rfl, ⟨rfl, .inl ⟨rfl, rfl⟩⟩, none, 0, hw'⟩
  have HFA := hide hfail
  have HN := hide hn
  have HZ := hide hz
  have HH := hide h
  clear h hb hn hz hfail
  by_cases q1 : z = 0
  · by_cases q2 : 0 ≤ many
    · have q2c : IntKind.u64.wrap many = many := by simp only [IntKind.wrap, IntKind.signed, IntKind.bits]; simp; omega
      by_cases q3 : many ≤ (n : Int)
      · have q3b : ¬ (n : Int) < many := by omega
        have hrk : c.raw many = (c.rest.take many.toNat, ⟨c.rest.drop many.toNat, c.wrong⟩) := by
          have h1 : c.rawOk many = true := by
            have := HZ.out; have := HN.out
            simp [Cu.rawOk]; omega
          unfold Cu.raw; rw [h1]; rfl
        obtain ⟨m, rfl⟩ : ∃ m : Nat, many = (m : Int) := ⟨many.toNat, by omega⟩
        rw [Int.toNat_natCast] at hrk
        have hmn : m ≤ n := by omega
        have hfit : n ≤ cap := by have := HH.out.fits; have := HN.out; omega
        have hnil := HH.out.nil
        have hby := HH.out.rest
        rw [← HN.out] at hby
        have hbt := hby.take m (by have := HN.out; omega)
        have hk1 := run_slice_to (P := Try.prog) 26 5 Try.underlying26 size5 A n cap m (by omega)
        obtain ⟨A2, hA2⟩ : ∃ A2 : Option Addr, A2 = if cap = m then A else A.map (·.add m) := ⟨_, rfl⟩
        have hs1 := run_slice_from (P := Try.prog) 26 5 Try.underlying26 size5 A n cap m hmn
        have hs2 := run_sliceAt_from (P := Try.prog) 26 5 Try.underlying26 size5 A n cap m hmn
        rw [← hA2] at hs1 hs2
        have htl : (c.rest.take m).length ≤ 1099511627776 := by rw [List.length_take]; omega
        have HBT := hide hbt
        have HA2 := hide hA2
        have HNIL := hide hnil
        have HRK := hide hrk
        have hz00 : z = 0 := q1
        subst hz00
        clear hbt hA2 hnil hrk hby q1
        go_enter Try.func48, Try.ntmps48
        go_wp2_with (go_at_call 44; refine (clone_any (c.rest.take m) htl A m cap w.heap.size _ HBT.out HNIL.out).mono ?_; rintro e w1 ⟨v1, rfl, own1, hb1⟩; have HX := hide (And.intro own1 hb1); obtain ⟨k0, k1⟩ := bcell hb1; clear own1 hb1)
        go_ret
        obtain ⟨own1, hb1⟩ := HX.out
        refine ⟨v1, rfl, ?_, A2, cap - m, ?_, (Turned.of_below hb1 (fun k => k = g)).setCell (fun _ => rfl) _⟩
        · rw [HRK.out]
          refine owned_keep own1 fun q hq hql => Below.heap_setCell w1 _ _ q ?_
          intro e
          have h1 := (owned_lt own1 hq).1
          change q = g at e
          omega
        · rw [HRK.out]
          have h1 := HH.out.cut m (by have := HN.out; omega) hb1
          rw [← HA2.out, ← HN.out] at h1
          exact h1
      · have q3b : (n : Int) < many := by omega
        have HFAIL := hide (HFA.out (by have := HN.out; simp [Cu.rawOk]; omega))
        have hz00 : z = 0 := q1
        subst hz00
        go_enter Try.func48, Try.ntmps48
        go_wp2_with (go_at_call 62; refine (cfail_any 4 (.inr rfl) c g T rb A cap _ HH.out).mono ?_; rintro e w2 ⟨rfl, hc2, ht2⟩; have HX := hide (And.intro hc2 ht2); clear hc2 ht2)
        go_ret
        exact HFAIL.out _ HX.out
    · have q2b : (n : Int) < IntKind.u64.wrap many := by simp only [IntKind.wrap, IntKind.signed, IntKind.bits]; simp; omega
      have HFAIL := hide (HFA.out (by simp [Cu.rawOk]; omega))
      have hz00 : z = 0 := q1
      subst hz00
      go_enter Try.func48, Try.ntmps48
      go_wp2_with (go_at_call 62; refine (cfail_any 4 (.inr rfl) c g T rb A cap _ HH.out).mono ?_; rintro e w2 ⟨rfl, hc2, ht2⟩; have HX := hide (And.intro hc2 ht2); clear hc2 ht2)
      go_ret
      exact HFAIL.out _ HX.out
  · have q1b : (z != 0) = true := by simp [q1]
    have HFAIL := hide (HFA.out (by have := HZ.out; simp [Cu.rawOk]; omega))
    go_enter Try.func48, Try.ntmps48
    go_wp2_with (go_at_call 62; refine (cfail_any 4 (.inr rfl) c g T rb A cap _ HH.out).mono ?_; rintro e w2 ⟨rfl, hc2, ht2⟩; have HX := hide (And.intro hc2 ht2); clear hc2 ht2)
    go_ret
    exact HFAIL.out _ HX.out
set_option maxRecDepth 100000 in
set_option maxHeartbeats 1000000 in
theorem ctext_any (most : Int) (_hmost : -9223372036854775808 ≤ most ∧ most ≤ 9223372036854775807) (c : Cu) (hc : c.rest.length ≤ 1099511627776) (g T rb : Nat) (A : Option Addr) (cap : Nat) (w : World) (h : CuAt w g T rb c A cap) :
    Calls Try.prog 51 #[.pointer (some ⟨g, 0, none⟩), .int .i64 most] w fun e w' => ∃ v, e = .returned v ∧ w'.ownsRow w.heap.size 5 1 v (c.text most).1.length (bv (c.text most).1) ∧ ∃ A' cap', CuAt w' g T rb (c.text most).2 A' cap' ∧ Turned (· = g) w w' := by
  have HH := hide h
  clear h
  obtain ⟨n, hn⟩ : ∃ n, n = (c.num 1099511627776).1 := ⟨_, rfl⟩
  obtain ⟨c2, hc2⟩ : ∃ c2, c2 = (c.num 1099511627776).2 := ⟨_, rfl⟩
  have hnl : n ≤ 1099511627776 ∧ c2.rest.length ≤ 1099511627776 := by
    rw [hn, hc2]
    unfold Cu.num
    split
    · rename_i h1
      simp only [numOk, Bool.and_eq_true, decide_eq_true_eq] at h1
      exact ⟨h1.2.2.1, by simp only [List.length_drop]; omega⟩
    · exact ⟨by simp, by simp [Cu.fail]⟩
  have HT := hide (show c.text most = if c2.wrong ≠ 0 then ([], c2) else if most < (n : Int) then ([], c2.fail 3) else c2.raw (n : Int) by rw [hn, hc2]; rfl)
  have hcn : c.num 1099511627776 = (n, c2) := by rw [hn, hc2]
  have HCN := hide hcn
  clear hn hc2 hcn
  have hcall := cnum_any 1099511627776 (by omega) c hc g T rb A cap w HH.out
  rw [HCN.out] at hcall
  have HCALL := hide hcall
  clear hcall
  go_enter Try.func51, Try.ntmps51
  go_wp2_with fail
  refine HCALL.out.mono ?_
  rintro e w1 ⟨rfl, A1, cap1, hc1, ht1⟩
  have c1 := hc1.blk.cell 1
  simp only [List.getElem?_toArray, List.getElem?_cons_zero, List.getElem?_cons_succ] at c1
  have hlt1 := hc1.blk.lt
  have hs1 := ht1.size
  obtain ⟨z, hz⟩ : ∃ z : Int, z = (c2.wrong : Int) := ⟨_, rfl⟩
  rw [← hz] at c1
  have HX := hide (And.intro hc1 ht1)
  have HZ := hide hz
  clear hc1 ht1 hz
  dsimp only
  have hn0 : (0 : Int) ≤ (n : Int) := by omega
  have hn1 : (n : Int) ≤ 1099511627776 := by omega
  by_cases q1 : z = 0
  · subst q1
    by_cases q2 : most < (n : Int)
    · go_wp2_with (go_at_call 62; refine (cfail_any 3 (.inl rfl) c2 g T rb A1 cap1 _ HX.out.1).mono ?_; rintro e w2 ⟨rfl, hc2, ht2⟩; have HY := hide (And.intro hc2 ht2); clear hc2 ht2)
      go_ret
      rw [HT.out, if_neg (by have := HZ.out; omega), if_pos q2]
      exact ⟨_, rfl, ⟨rfl, .inl ⟨rfl, rfl⟩⟩, none, 0, HY.out.1, HX.out.2.trans HY.out.2⟩
    · have hcall2 := craw_any (n : Int) (by omega) c2 hnl.2 g T rb A1 cap1 w1 HX.out.1
      have HCALL2 := hide hcall2
      clear hcall2
      go_wp2_with fail
      refine HCALL2.out.mono ?_
      rintro e w2 ⟨v2, rfl, own2, A2, cap2, hc2, ht2⟩
      have HY := hide (And.intro own2 (And.intro hc2 ht2))
      clear own2 hc2 ht2
      dsimp only
      go_wp2_with fail
      go_ret
      rw [HT.out, if_neg (by have := HZ.out; omega), if_neg (by omega)]
      exact ⟨v2, rfl, owned_base HY.out.1 (fun q hq => by have := (owned_lt HY.out.1 hq).1; omega), A2, cap2, HY.out.2.1, HX.out.2.trans HY.out.2.2⟩
  · have q1b : (z != 0) = true := by simp [q1]
    go_wp2_with fail
    go_ret
    rw [HT.out, if_pos (by have := HZ.out; omega)]
    exact ⟨_, rfl, ⟨rfl, .inl ⟨rfl, rfl⟩⟩, A1, cap1, HX.out.1, HX.out.2⟩
set_option maxRecDepth 100000 in
set_option maxHeartbeats 400000 in
theorem cleft_any (c : Cu) (g T rb : Nat) (A : Option Addr) (cap : Nat) (w : World) (h : CuAt w g T rb c A cap) : Calls Try.prog 53 #[.pointer (some ⟨g, 0, none⟩)] w fun e w' => e = .returned (.int .i64 (c.rest.length : Int)) ∧ w = w' := by
  have c0 := h.blk.cell 0
  simp only [List.getElem?_toArray, List.getElem?_cons_zero] at c0
  have hlt := h.blk.lt
  obtain ⟨n, hn⟩ : ∃ n, n = c.rest.length := ⟨_, rfl⟩
  rw [← hn] at c0 ⊢
  clear h hn
  go_enter Try.func53, Try.ntmps53
  go_wp2
  go_ret
  exact ⟨rfl, rfl⟩
set_option maxRecDepth 100000 in
set_option maxHeartbeats 400000 in
theorem cend_any (c : Cu) (g T rb : Nat) (A : Option Addr) (cap : Nat) (w : World) (h : CuAt w g T rb c A cap) : Calls Try.prog 40 #[.pointer (some ⟨g, 0, none⟩)] w fun e w' => e = .returned (.int .i64 (c.end_ : Int)) ∧ w = w' := by
  have c0 := h.blk.cell 0
  have c1 := h.blk.cell 1
  simp only [List.getElem?_toArray, List.getElem?_cons_zero, List.getElem?_cons_succ] at c0 c1
  have hlt := h.blk.lt
  obtain ⟨n, hn⟩ : ∃ n, n = c.rest.length := ⟨_, rfl⟩
  obtain ⟨z, hz⟩ : ∃ z : Int, z = (c.wrong : Int) := ⟨_, rfl⟩
  have he : (c.end_ : Int) = if z = 0 ∧ 0 < n then 4 else z := by
    unfold Cu.end_
    have e1 : c.rest ≠ [] ↔ 0 < n := by rw [hn]; cases c.rest <;> simp
    rw [hz]
    by_cases q : c.wrong = 0 ∧ c.rest ≠ []
    · rw [if_pos q, if_pos ⟨by omega, e1.1 q.2⟩]; rfl
    · rw [if_neg q, if_neg (fun h => q ⟨by omega, e1.2 h.2⟩)]
  rw [← hn] at c0
  rw [← hz] at c1
  obtain ⟨R, hR⟩ : ∃ R : Int, R = (c.end_ : Int) := ⟨_, rfl⟩
  rw [← hR] at he ⊢
  have HE := hide he
  clear h hn hz he hR
  by_cases q1 : z = 0
  · subst q1
    by_cases q2 : 0 < n
    · have q3 : (0 : Int) < (n : Int) := by omega
      go_enter Try.func40, Try.ntmps40
      go_wp2
      go_ret
      exact ⟨ret_int (by rw [HE.out, if_pos (by simp [q2])]), rfl⟩
    · have q3 : ¬ (0 : Int) < (n : Int) := by omega
      go_enter Try.func40, Try.ntmps40
      go_wp2
      go_ret
      exact ⟨ret_int (by rw [HE.out, if_neg (fun h => q2 h.2)]), rfl⟩
  · have q1b : (z == 0) = false := by simp [q1]
    go_enter Try.func40, Try.ntmps40
    go_wp2
    go_ret
    exact ⟨ret_int (by rw [HE.out, if_neg (fun h => q1 h.1)]), rfl⟩
set_option maxRecDepth 100000 in
set_option maxHeartbeats 400000 in
theorem over_any (l : List UInt8) (hl : l.length ≤ 1099511627776) (A : Option Addr) (n cap : Nat) (B : Nat) (w : World) (hv : BytesAt w B (.slice A n cap) l) (hnil : A = none → cap = 0) :
    Calls Try.prog 38 #[.slice A n cap] w fun e w' => ∃ g rb A' cap', e = .returned (.pointer (some ⟨g, 0, none⟩)) ∧ w.heap.size ≤ g ∧ (0 < l.length → w.heap.size ≤ rb ∧ rb < g) ∧ CuAt w' g 114 rb ⟨l, 0⟩ A' cap' ∧ Below w.heap.size w w' := by
  go_enter Try.func38, Try.ntmps38
  go_wp2_with (go_at_call 44; refine (clone_any l hl A n cap B _ hv hnil).mono ?_; rintro e w1 ⟨v1, rfl, own1, hb1⟩; obtain ⟨A1, cap1, rfl⟩ := owned_slice own1; have HX := hide (And.intro own1 hb1); clear own1 hb1)
  go_ret
  obtain ⟨own1, hb1⟩ := HX.out
  have hs := hb1.size
  have hal : Below w1.heap.size w1 (w1.alloc (.cells #[.slice A1 l.length cap1, .int .i64 0] 114)) := (Below.refl _ _).alloc (Nat.le_refl _) _
  rcases owned_form own1 with ⟨e, h0, _⟩ | ⟨q, cp, cur, e, hq, hc, _, hb, hcs, ht, hlt⟩
  · injection e with e1 e2 e3
    subst e1 e3
    exact ⟨w1.heap.size, w1.heap.size + 1, none, 0, rfl, hs, fun h => by omega, ⟨Blk.new _ _ _, by show l.length ≤ 0; omega, fun _ => rfl, by omega, fun h => by have h : 0 < l.length := h; omega⟩, hb1.alloc hs _⟩
  · injection e with e1 e2 e3
    subst e1 e3
    refine ⟨w1.heap.size, q, _, cap1, rfl, hs, fun h => ⟨hq, hlt⟩, ⟨Blk.new _ _ _, hc, (fun h => by cases h), by omega, fun h => ⟨0, rfl, by rw [size_alloc]; omega, fun j hj => ?_⟩⟩, hb1.alloc hs _⟩
    obtain ⟨A', c', e, _, hrd⟩ := bytesAt_owned own1
    injection e with e1 e2 e3
    subst e1 e3
    obtain ⟨b, off, e4, h4, h5⟩ := hrd h
    injection e4 with e4
    injection e4 with e4 e5
    subst e4 e5
    exact cell_alloc_some (h5 j hj) _
end Go.Proofs.Ytjmenaplgndnnaa
