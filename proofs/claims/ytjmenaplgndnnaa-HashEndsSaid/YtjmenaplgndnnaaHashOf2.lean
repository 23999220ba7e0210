/- The walk of hash.Of. -/
import Derived.Test.YtjmenaplgndnnaaHashOf
namespace Go.Proofs.Ytjmenaplgndnnaa
open Go.RowKit
theorem tx_take (t : List UInt8) (ls : List (List UInt8)) (k : Nat) (h : k < ls.length) : tx t (ls.take (k + 1)) = tx t (ls.take k) ++ [num (ls.getD k []).length, ls.getD k []] := by
  rw [List.take_succ_eq_append_getElem h, tx_snoc]
  simp [List.getD, h]
theorem mem_flat_le {ls : List (List UInt8)} {l : List UInt8} (h : l ∈ ls) : l.length ≤ ls.flatten.length := by
  induction ls with
  | nil => cases h
  | cons x xs ih =>
    rw [List.flatten_cons, List.length_append]
    rcases List.mem_cons.1 h with rfl | h
    · omega
    · have := ih h; omega
set_option maxRecDepth 100000 in
set_option maxHeartbeats 1000000 in
theorem of_any (tag : ByteArray) (t : List UInt8) (ht : t = tag.data.toList) (htl : tag.size ≤ 1000000000) (ls : List (List UInt8)) (hl : ls.flatten.length ≤ 1000000000) (hn : ls.length ≤ 1000000000) (v : Value) (w : World) (B : Nat) (hB : B ≤ w.heap.size) (hp : PartsAt w B v ls) :
    Calls Try.prog 31 #[.string tag, v] w fun e w' => e = .returned (.agg (bv (ofB t ls)).toArray) ∧ Below w.heap.size w w' := by
  obtain ⟨A, cap, rfl, hcap, hA⟩ := hp
  have htn : t.length = tag.size := by rw [ht]; simp
  obtain ⟨i, hi, hz0, hz1, hz2⟩ := info_parts info_row
  have hll : ∀ l ∈ ls, l.length < 18446744073709551616 := fun l h => by have := mem_flat_le h; omega
  have hsum : (tx t ls).flatten.length ≤ 1099511627000 := by have := flat_tx t ls (by omega) hll; omega
  have HSUM := hide hsum
  have HA := hide hA
  have HT := hide ht
  have HTN := hide htn
  clear hA ht htn hll hsum
  obtain ⟨R, hR⟩ : ∃ R, R = w.heap.size := ⟨_, rfl⟩
  have HR := hide hR
  clear hR
  go_enter Try.func31, Try.ntmps31
  go_step
  go_step
  apply wp_region_lit
  refine wpList_value (o := ⟨some 4, _, _, _, _, _⟩) rfl (.pointer (some ⟨R, 0, none⟩)) (w.alloc (.cells z20 57)) (by rw [HR.out]; kernel_rfl) ?_
  dsimp only [Act.put, List.setIfInBounds_toArray, List.set_cons_zero, List.set_cons_succ]
  obtain ⟨w0, hw0⟩ : ∃ w0, w0 = w.alloc (.cells z20 57) := ⟨_, rfl⟩
  have hb0 : Blk w0 R 57 z20 := by rw [hw0, HR.out]; exact Blk.new _ _ _
  have hbl0 : Below w.heap.size w w0 := by rw [hw0]; exact (Below.refl _ _).alloc (Nat.le_refl _) _
  rw [← hw0]
  clear hw0
  have HB0 := hide (And.intro hb0 hbl0)
  clear hb0 hbl0
  go_wp2_with (first
    | (go_at_call 55; refine (length_any tag.size (by omega) _).mono ?_; rintro e w1 ⟨v1, rfl, own1, hb1⟩; obtain ⟨A1, k1, rfl⟩ := owned_slice own1; have HX1 := hide (And.intro own1 hb1); clear own1 hb1)
    | ((with_reducible refine wpList_text (o := ⟨some 12, _, _, _, _, _⟩) rfl 9 26 5 (.tmp 11) rfl Try.underlying9 Try.underlying26 Try.underlying5 tag rfl ?_); intro g2 k2 w2 ht2 hc2 hg2 hl2 hb2; have HX2 := hide (And.intro ht2 (And.intro hc2 (And.intro hg2 (And.intro hl2 hb2)))); clear ht2 hc2 hg2 hl2 hb2))
  obtain ⟨b0, hb0⟩ : ∃ b0, b0 = w0.heap.size := ⟨_, rfl⟩
  have HB00 := hide hb0
  have hrow0 : TRow (w2.alloc (.cells #[.slice A1 (num tag.size).length k1, .slice (some ⟨g2, 0, none⟩) tag.size k2] 26)) b0 (.slice (some ⟨w2.heap.size, 0, none⟩) 2 2) [.slice A1 (num tag.size).length k1, .slice (some ⟨g2, 0, none⟩) tag.size k2] (tx t []) := by
    obtain ⟨own1, hb1⟩ := HX1.out
    obtain ⟨ht2, hc2, hg2, hl2, hb2⟩ := HX2.out
    have q1 : TB w1 b0 (.slice A1 (num tag.size).length k1) (num tag.size) := TB.of_owned own1
    have q2 : TB w2 b0 (.slice (some ⟨g2, 0, none⟩) tag.size k2) t := by
      have h := TB.of_text (base := b0) hc2 hl2 ht2
      rwa [← HT.out] at h
    have al : Below w2.heap.size w2 (w2.alloc (.cells #[.slice A1 (num tag.size).length k1, .slice (some ⟨g2, 0, none⟩) tag.size k2] 26)) := (Below.refl _ _).alloc (Nat.le_refl _) _
    refine ⟨owned_base (two_own _ _ _ _) (fun g hg => ?_), rfl, fun j hj => ?_⟩
    · injection hg with hg
      change w2.heap.size = g at hg
      have := hb1.size; have := hb2.size; omega
    · have hj2 : j < 2 := hj
      match j, hj2 with
      | 0, _ => rw [show (tx t []).getD 0 [] = num tag.size by rw [← HTN.out]; rfl]; exact (q1.below hb2).below al
      | 1, _ => exact q2.below al
  have hbl0 : Blk (w2.alloc (.cells #[.slice A1 (num tag.size).length k1, .slice (some ⟨g2, 0, none⟩) tag.size k2] 26)) R 57 z20 ∧ Below w.heap.size w (w2.alloc (.cells #[.slice A1 (num tag.size).length k1, .slice (some ⟨g2, 0, none⟩) tag.size k2] 26)) ∧ b0 ≤ (w2.alloc (.cells #[.slice A1 (num tag.size).length k1, .slice (some ⟨g2, 0, none⟩) tag.size k2] 26)).heap.size := by
    obtain ⟨own1, hb1⟩ := HX1.out
    obtain ⟨ht2, hc2, hg2, hl2, hb2⟩ := HX2.out
    obtain ⟨c0, c1⟩ := HB0.out
    have s1 := hb1.size
    have s2 := hb2.size
    have l0 := c0.lt
    have l1 := c1.size
    refine ⟨((c0.below hb1 l0).below hb2 (by omega)).alloc _, ((c1.trans (hb1.mono l1)).trans (hb2.mono (by omega))).alloc (by omega) _, ?_⟩
    rw [size_alloc]; omega
  have hRb : R < b0 := by have := HB0.out.1.lt; omega
  have HROW := hide hrow0
  have HBL := hide hbl0
  clear hrow0 hbl0 hb0
  go_loopw [5, 16] (fun v5 i wr => ∃ (k : Nat) (us : List Value), k ≤ ls.length ∧ i = .int .i64 (k : Int) ∧ TRow wr b0 v5 us (tx t (ls.take k)) ∧ Blk wr R 57 z20 ∧ Below w.heap.size w wr ∧ b0 ≤ wr.heap.size) (fun _ i _ => ls.length - (intOf i).toNat)
  case atStart => exact ⟨0, _, by omega, rfl, HROW.out, HBL.out.1, HBL.out.2.1, HBL.out.2.2⟩
  case round =>
    obtain ⟨k, us, hk, rfl, hrow, hbR, hbw, hbs⟩ := hrel
    by_cases hlt : k < ls.length
    · obtain ⟨b, off, rfl, hbB, hcells⟩ := HA.out (by omega)
      obtain ⟨u, hu, hby⟩ := hcells k hlt
      have ha : Alike B w wr := alike_of_below (hbw.mono hB)
      have cu : wr.cell? ⟨b, off + k, none⟩ = some u := (ha.cell (p := ⟨b, off + k, none⟩) hbB).trans hu
      obtain ⟨l, hl'⟩ : ∃ l, l = ls.getD k [] := ⟨_, rfl⟩
      have hll : l.length ≤ ls.flatten.length := mem_flat_le (by rw [hl']; simp [List.getD, hlt])
      rw [← hl'] at hby
      have htb : TB wr b0 u l := TB.of_bytes (hby.alike ha) (by have := HB0.out.2.size; have := HB00.out; omega) (by have := hbw.size; omega)
      obtain ⟨Aj, cj, rfl, hcj, _⟩ := id hby
      have HU := hide (And.intro htb hl')
      have hus : us.length = 2 + 2 * k := by rw [hrow.len, length_tx, List.length_take]; omega
      obtain ⟨A5, k5, rfl⟩ := owned_slice hrow.own
      have HRO := hide hrow
      have HK := hide (And.intro hbR (And.intro hbw hbs))
      have i1 : (0 : Int) ≤ (k : Int) := by omega
      have i2 : (k : Int) < (ls.length : Int) := by omega
      have HUS := hide hus
      clear hu hby hcells hl' htb hrow hbR hbw hus
      go_wp2_with (first
        | (go_at_call 55; refine (length_any l.length (by omega) _).mono ?_; rintro e w3 ⟨v3, rfl, own3, hb3⟩; obtain ⟨A3, k3, rfl⟩ := owned_slice own3; have HX3 := hide (And.intro own3 hb3); clear own3 hb3)
        | (at_builtin; (refine wpList_app rfl _ _ 48 rfl b0 26 i (.slice none 0 0) 24 Try.underlying48 hi hz0 hz1 hz2 rfl (.slice A5 us.length k5) us.length us ?h0 _ 2 2 [.slice A3 (num l.length).length k3, .slice Aj l.length cj] (two_src _ _ _ _ rfl rfl) ?h1 ?h2 ?h3 rfl rfl ?_)))
      case h0 => exact owned_keep HRO.out.own fun q _ hq => (Below.heap_alloc w3 _ q (by have := HX3.out.2.size; omega)).trans (HX3.out.2.block q hq)
      case h1 => have := HUS.out; simp only [maxLen]; omega
      case h2 => have := HUS.out; omega
      case h3 => have := HX3.out.2.size; have := HK.out.2.2; rw [size_alloc]; omega
      intro v5 w5 own5 gr5 _ _
      have hwr3 : Below wr.heap.size wr (w3.alloc (.cells #[.slice A3 (num l.length).length k3, .slice Aj l.length cj] 26)) := HX3.out.2.alloc HX3.out.2.size _
      have hgrow : TRow w5 b0 v5 (us ++ [.slice A3 (num l.length).length k3, .slice Aj l.length cj]) (tx t (ls.take k) ++ [num l.length, l]) := by
        refine (HRO.out.keep hwr3).grow (fun g hg => (owned_lt HRO.out.own hg).1) own5 gr5 rfl fun j hj => ?_
        have hj2 : j < 2 := hj
        match j, hj2 with
        | 0, _ => exact (TB.of_owned HX3.out.1).below ((Below.refl _ _).alloc (Nat.le_refl _) _)
        | 1, _ => exact HU.out.1.below hwr3
      have hfr : Blk w5 R 57 z20 ∧ Below w.heap.size w w5 ∧ b0 ≤ w5.heap.size := by
        obtain ⟨c0, c1, c2⟩ := HK.out
        have s3 := hwr3.size
        refine ⟨((c0.below hwr3 c0.lt)).grown gr5 (fun e => ?_), ((c1.trans (hwr3.mono c1.size)).grown gr5 (by have := c1.size; omega) (fun q hq => ?_)), by have := gr5.size; omega⟩
        · have := (owned_lt HRO.out.own e.symm).1; omega
        · have := (owned_lt HRO.out.own hq).1; have := HB00.out; have := HB0.out.2.size; omega
      obtain ⟨A6, k6, rfl⟩ := owned_slice own5
      have HG := hide (And.intro hgrow hfr)
      clear own5 gr5 hwr3 hgrow hfr
      go_wp2_with fail
      go_roundw
      case rel =>
        obtain ⟨hgrow, h1, h2, h3⟩ := HG.out
        refine ⟨k + 1, us ++ [.slice A3 (num l.length).length k3, .slice Aj l.length cj], by omega, by go_num, ?_, h1, h2, h3⟩
        rw [tx_take t ls k hlt, ← HU.out.2]
        exact hgrow
      case measure => simp [intOf]; omega
    · obtain rfl : k = ls.length := by omega
      rw [List.take_of_length_le (Nat.le_refl _)] at hrow
      have hpar := hrow.parts
      have hlen : (tx t ls).length = 2 + 2 * ls.length := length_tx t ls
      obtain ⟨D, hD⟩ : ∃ D, D = Sha.sum (tx t ls).flatten := ⟨_, rfl⟩
      have hDl : D.length = 32 := by rw [hD]; exact sum_len _
      have hsz : (Try.prog.info? 57).map (·.size) = some (bv (fold D 32)).toArray.size := by rw [List.size_toArray, bv, List.length_map, length_fold]; exact size_hash
      have hzs : z20.size = (bv (fold D 32)).toArray.size := by
        have e : (bv (fold D 32)).toArray.size = 20 := by rw [List.size_toArray, bv, List.length_map, length_fold]
        rw [e]; rfl
      have HP := hide hpar
      have HK := hide (And.intro hbR (And.intro hbw hbs))
      have HDD := hide hD
      have HDL := hide hDl
      have HLE := hide hlen
      clear hrow hpar hbR hbw hbs hDl hlen hD
      go_wp2_with (first
        | (go_at_call 35; refine (sum_any (tx t ls) HSUM.out (by rw [HLE.out]; omega) _ _ wr.heap.size (Nat.le_refl _) HP.out).mono ?_; rintro e w6 ⟨rfl, hb6⟩; rw [← HDD.out]; have HX6 := hide hb6; clear hb6)
        | (go_at_call 29; refine (fold_any D HDL.out _).mono ?_; rintro e w7 ⟨rfl, hb7⟩; have HX7 := hide hb7; clear hb7; have HR7 := hide ((HK.out.1.below HX6.out HK.out.1.lt).below HX7.out (Nat.lt_of_lt_of_le HK.out.1.lt HX6.out.size)))
        | ((with_reducible refine wpList_store_blkA (o := ⟨none, _, _, _, _, _⟩) rfl 57 (.tmp 4) (.tmp 30) rfl R z20 (bv (fold D 32)).toArray 57 HR7.out hsz hzs (bv_one _) ?_ ?_ ?_); rfl; rfl; intro w9 h9 hg9; dsimp only [Act.put]))
      refine bodyPost_ret (results_cell_blk rfl _ _ R 57 (bv (fold D 32)).toArray _ _ rfl h9 Try.underlying57 hsz) rfl ⟨by rw [ofB, ← HDD.out], ?_⟩
      obtain ⟨c0, c1, c2⟩ := HK.out
      have s6 := HX6.out.size
      have s7 := HX7.out.size
      have s1 := c1.size
      have hRw := HR.out
      refine (((c1.trans (HX6.out.mono s1)).trans (HX7.out.mono (by omega)))).grown hg9 (by omega) ?_
      intro x hx; injection hx with hx; omega
end Go.Proofs.Ytjmenaplgndnnaa
