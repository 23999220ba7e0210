/- spenceref02.Of. -/
import Derived.Test.YtjmenaplgndnnaaRefH
namespace Go.Proofs.Ytjmenaplgndnnaa
open Go.RowKit
theorem owned_src0 {w : World} {base cap : Nat} {A : Option Addr} {l : List UInt8} (h : w.ownsRow base 5 1 (.slice A l.length cap) l.length (bv l)) : Src w A l.length cap (bv l) :=
  bv_src (bytesAt_owned h) (own_nil0 h)
theorem z20_fold (l : List UInt8) : z20.size = (bv (fold l 32)).toArray.size := by simp [z20, bv, length_fold]
/-- tag and parts so far, as bytes -/
def tb (t : List UInt8) (ls : List (List UInt8)) : List UInt8 := (tx t ls).flatten
theorem tb_nil (t : List UInt8) : tb t [] = num t.length ++ t := by simp [tb, tx]
theorem tb_take (t : List UInt8) (ls : List (List UInt8)) (k : Nat) (h : k < ls.length) : tb t (ls.take (k + 1)) = (tb t (ls.take k) ++ num (ls.getD k []).length) ++ ls.getD k [] := by
  unfold tb; rw [tx_take t ls k h, List.flatten_append]; simp
theorem tb_len (t : List UInt8) (ls : List (List UInt8)) (k : Nat) (h : t.length + fl ls + ls.length ≤ 100000) : (tb t (ls.take k)).length ≤ 1100000 := by
  have h1 := fl_le ls k
  unfold fl at h1 h
  have h2 := flat_tx t (ls.take k) (by omega) (fun l hl => by have := mem_flat_le hl; omega)
  have h3 : (ls.take k).length ≤ ls.length := by rw [List.length_take]; omega
  unfold tb
  omega
set_option maxRecDepth 100000 in
set_option maxHeartbeats 4000000 in
theorem rof_any (tag : ByteArray) (t : List UInt8) (ht : t = tag.data.toList) (ls : List (List UInt8)) (hsm : t.length + fl ls + ls.length ≤ 100000) (v : Value) (w : World) (B : Nat) (hB : B ≤ w.heap.size) (hp : RowsAt w B v ls) :
    Calls Try.prog 32 #[.string tag, v] w fun e w' => e = .returned (.agg (bv (ofB t ls)).toArray) ∧ Below w.heap.size w w' := by
  obtain ⟨A, cap, rfl, hcap, hA⟩ := hp
  obtain ⟨i, hi, hz0, hz1, hz2⟩ := info_parts info5
  have htn : t.length = tag.size := by rw [ht]; simp
  have hln : ls.length ≤ 100000 := by omega
  have htl : tag.size ≤ 100000 := by omega
  have HT := hide (And.intro ht htn)
  have HA := hide hA
  have HSM := hide hsm
  obtain ⟨R, hR⟩ : ∃ R, R = w.heap.size := ⟨_, rfl⟩
  have HR := hide hR
  obtain ⟨D, hD⟩ : ∃ D, D = Value.agg (bv (ofB t ls)).toArray := ⟨_, rfl⟩
  rw [← hD]
  have HD := hide hD
  clear hD hA hsm ht htn
  go_enter Try.func32, Try.ntmps32
  go_step
  go_step
  apply wp_region_lit
  refine wpList_value (o := ⟨some 4, _, _, _, _, _⟩) rfl (.pointer (some ⟨R, 0, none⟩)) (w.alloc (.cells z20 57)) (by rw [HR.out]; kernel_rfl) ?_
  dsimp only [Act.put, List.setIfInBounds_toArray, List.set_cons_zero, List.set_cons_succ]
  obtain ⟨w1, hw1⟩ : ∃ w1, w1 = w.alloc (.cells z20 57) := ⟨_, rfl⟩
  have hb1 : Blk w1 R 57 z20 := by rw [hw1, HR.out]; exact Blk.new _ _ _
  have hbl1 : Below R w w1 := by rw [hw1, HR.out]; exact (Below.refl _ _).alloc (Nat.le_refl _) _
  have hs1 : w1.heap.size = R + 1 := by rw [hw1, HR.out]; simp
  have hBR : B ≤ R := by omega
  rw [← hw1]
  have H1 := hide (And.intro hb1 (And.intro hbl1 hs1))
  clear hw1 hb1 hbl1 hs1 hR hB
  go_wp2_with (first
    | (go_at_call 22; refine (rnumber_any tag.size (by omega) _).mono ?_; rintro e w2 ⟨v2, rfl, own2, hb2⟩; obtain ⟨A2, k2, rfl⟩ := owned_slice own2; have hn2 := num_len tag.size (by omega); have hs2 := hb2.size; have HX2 := hide (And.intro own2 hb2); clear own2 hb2)
    | (at_builtin; (refine Lib.wpList_append_own_string w2 (o := ⟨some 11, _, _, _, _, _⟩) rfl (.tmp 9) (.tmp 10) 26 9 rfl w1.heap.size 5 i Try.underlying26 Try.underlying9 hi hz0 hz1 hz2 (.slice A2 (num tag.size).length k2) (num tag.size).length (bv (num tag.size)) rfl HX2.out.1 tag rfl (by simp only [maxLen]; omega) (by omega) hs2 ?_); intro v3 w3 own3 gr3 _; obtain ⟨A3, k3, rfl⟩ := owned_slice own3; have HX3 := hide (And.intro own3 gr3); clear own3 gr3))
  have hstart : ∃ m, m = (tb t (ls.take 0)).length ∧ m = (num tag.size).length + tag.size ∧ w3.ownsRow (R + 1) 5 1 (.slice A3 m k3) m (bv (tb t (ls.take 0))) ∧ Blk w3 R 57 z20 ∧ Below R w w3 ∧ R + 1 ≤ w3.heap.size := by
    obtain ⟨ht, htn⟩ := HT.out
    obtain ⟨hb1, hbl1, hs1⟩ := H1.out
    obtain ⟨own2, hb2⟩ := HX2.out
    obtain ⟨own3, gr3⟩ := HX3.out
    have e : bv (num tag.size) ++ Lib.strCells tag = bv (tb t (ls.take 0)) := by
      rw [List.take_zero, tb_nil, bvA, htn]
      congr 1
      rw [ht]
      rfl
    have hgq : ∀ q, (Value.slice A2 (num tag.size).length k2).ownBlock = some q → R + 1 ≤ q := fun q hq => by have := (owned_lt own2 hq).1; omega
    refine ⟨_, ?_, rfl, by rw [← e, ← hs1]; exact own3, (hb1.below hb2 (by omega)).grown gr3 (fun e => by have := hgq _ e.symm; omega), (hbl1.trans (hb2.mono (by omega))).grown gr3 (by omega) (fun q hq => by have := hgq q hq; omega), by have := gr3.size; omega⟩
    rw [List.take_zero, tb_nil, List.length_append, htn]
  obtain ⟨m0, hm0, hm1, hst⟩ := hstart
  rw [← hm1]
  have HST := hide (And.intro hm0 hst)
  clear hm0 hm1 hst
  go_loopw [5, 6] (fun v5 v6 wr => ∃ (k m : Nat) (A5 : Option Addr) (cap5 : Nat), k ≤ ls.length ∧ v6 = .int .i64 (k : Int) ∧ m = (tb t (ls.take k)).length ∧ v5 = .slice A5 m cap5 ∧ wr.ownsRow (R + 1) 5 1 v5 m (bv (tb t (ls.take k))) ∧ Blk wr R 57 z20 ∧ Below R w wr ∧ R + 1 ≤ wr.heap.size) (fun _ v6 _ => ls.length - (intOf v6).toNat)
  case atStart => exact ⟨0, m0, A3, k3, by omega, rfl, HST.out.1, rfl, HST.out.2⟩
  case round =>
    obtain ⟨k, m, A5, cap5, hk, rfl, hm, rfl, own5, hbR, hbw, hsz⟩ := hrel
    have hmb := tb_len t ls k HSM.out
    rw [← hm] at hmb
    by_cases hlt : k < ls.length
    · obtain ⟨b, off, rfl, hbB, hcells⟩ := HA.out (by omega)
      obtain ⟨Aj, cj, cu0, hby, hnil⟩ := hcells k hlt
      have ha : Alike B w wr := alike_of_below (hbw.mono hBR)
      have cu := (ha.cell (p := ⟨b, off + k, none⟩) hbB).trans cu0
      obtain ⟨l, hlk⟩ : ∃ l, l = ls.getD k [] := ⟨_, rfl⟩
      have hll : l.length ≤ 100000 := by
        have h1 := HSM.out
        have h2 := flat_get ls k hlt
        unfold fl at h1
        rw [hlk]
        omega
      rw [← hlk] at cu hby
      have htk := tb_take t ls k hlt
      rw [← hlk] at htk
      have hn3 := num_len l.length (by omega)
      have i1 : (0 : Int) ≤ (k : Int) := by omega
      have i2 : (k : Int) < (ls.length : Int) := by omega
      have hbz : b < wr.heap.size := by omega
      obtain ⟨T, hT⟩ : ∃ T, T = tb t (ls.take k) := ⟨_, rfl⟩
      rw [← hT] at own5 htk hm
      have H3 := hide (And.intro own5 (And.intro hbR (And.intro hbw (And.intro (hby.alike ha) (And.intro hnil (And.intro htk (And.intro hm cu)))))))
      clear own5 hbR hbw hby hnil hcells htk hm hlk cu0 ha hT
      go_wp2_with fail
      go_region_held3 (fun w' => w'.cell? ⟨b, off + k, none⟩ = some (.slice Aj l.length cj)) (first | go_keep | exact hkeep)
        (first
          | (go_at_call 22; refine (rnumber_any l.length (by omega) _).mono ?_; rintro e w4 ⟨v4, rfl, own4, hb4⟩; obtain ⟨A4, k4, rfl⟩ := owned_slice own4; have hs4 : wr.heap.size ≤ w4.heap.size := hb4.size; have hkeep : w4.cell? ⟨b, off + k, none⟩ = some (.slice Aj l.length cj) := (hb4.cell (p := ⟨b, off + k, none⟩) hbz).trans H3.out.2.2.2.2.2.2.2; have HX4 := hide (And.intro own4 hb4); clear own4 hb4)
          | (refine step_app (o := ⟨some 25, _, _, _, _, _⟩) rfl (.tmp 18) (.tmp 24) 26 rfl (R + 1) 5 i (.int .u8 0) 1 Try.underlying26 hi hz0 hz1 hz2 rfl (.slice A5 m cap5) m (bv T) (owned_keep H3.out.1 fun g _ hlt => HX4.out.2.block g hlt) A4 (num l.length).length k4 (bv (num l.length)) (owned_src0 HX4.out.1) (by simp only [maxLen]; omega) (by omega) (by omega) rfl rfl ?_; intro v5 w5 own5' gr5 mv5 _; obtain ⟨A6, k6, rfl⟩ := owned_slice own5'; have hs5 : w4.heap.size ≤ w5.heap.size := gr5.size; have hkeep : w5.cell? ⟨b, off + k, none⟩ = some (.slice Aj l.length cj) := ((World.cell?_of_block (gr5.block b (by omega) (fun e => by have := (owned_lt H3.out.1 e.symm).1; omega))).trans ((HX4.out.2.cell (p := ⟨b, off + k, none⟩) hbz).trans H3.out.2.2.2.2.2.2.2)); have hal5 : Alike B wr w5 := (show Alike B wr w4 from fun q hq => HX4.out.2.block q (show q < wr.heap.size by omega)).trans (fun q hq => gr5.block q (by omega) (fun e => by have := (owned_lt H3.out.1 e.symm).1; omega)); have HX5 := hide (And.intro own5' (And.intro gr5 hal5)); clear own5' gr5 mv5 hal5)
          | (refine step_app (o := ⟨some 30, _, _, _, _, _⟩) rfl (.tmp 25) (.tmp 29) 26 rfl (R + 1) 5 i (.int .u8 0) 1 Try.underlying26 hi hz0 hz1 hz2 rfl (.slice A6 (m + (num l.length).length) k6) (m + (num l.length).length) (bv T ++ bv (num l.length)) HX5.out.1 Aj l.length cj (bv l) (bv_src (H3.out.2.2.2.1.alike HX5.out.2.2) H3.out.2.2.2.2.1) (by simp only [maxLen]; omega) (by omega) (by omega) rfl rfl ?_; intro v7 w7 own7 gr7 mv7 _; obtain ⟨A8, k8, rfl⟩ := owned_slice own7; have hs7 : w5.heap.size ≤ w7.heap.size := gr7.size; have hkeep : w7.cell? ⟨b, off + k, none⟩ = some (.slice Aj l.length cj) := (World.cell?_of_block (gr7.block b (by omega) (fun e => by have := (owned_lt HX5.out.1 e.symm).1; omega))).trans ((HX5.out.2.2.cell (p := ⟨b, off + k, none⟩) hbB).trans H3.out.2.2.2.2.2.2.2); have HX7 := hide (And.intro own7 gr7); clear own7 gr7 mv7))
      go_wp2_with fail
      go_roundw
      case rel =>
        obtain ⟨own5, hbR, hbw, _, _, htk, hm, _⟩ := H3.out
        obtain ⟨own4, hb4⟩ := HX4.out
        obtain ⟨own6, gr6, _⟩ := HX5.out
        obtain ⟨own7, gr7⟩ := HX7.out
        have hb4' : Below wr.heap.size wr w4 := ((Below.refl wr.heap.size wr).drew).trans hb4
        have g5 : ∀ q, (Value.slice A5 m cap5).ownBlock = some q → R + 1 ≤ q := fun q hq => (owned_lt own5 hq).1
        have g6 : ∀ q, (Value.slice A6 (m + (num l.length).length) k6).ownBlock = some q → R + 1 ≤ q := fun q hq => (owned_lt own6 hq).1
        refine ⟨k + 1, m + (num l.length).length + l.length, A8, k8, by omega, by go_num, by rw [htk, List.length_append, List.length_append, hm], rfl, by rw [htk, bvA, bvA]; exact own7, ?_, ?_, by omega⟩
        · exact ((hbR.below hb4' (by omega)).grown gr6 (fun e => by have := g5 _ e.symm; omega)).grown gr7 (fun e => by have := g6 _ e.symm; omega)
        · exact ((hbw.trans (hb4'.mono (by omega))).grown gr6 (by omega) (fun q hq => by have := g5 q hq; omega)).grown gr7 (by omega) (fun q hq => by have := g6 q hq; omega)
      case measure => simp [intOf]; omega
    · obtain rfl : k = ls.length := by omega
      obtain ⟨L, hL⟩ : ∃ L, L = tb t ls := ⟨_, rfl⟩
      rw [List.take_of_length_le (Nat.le_refl _), ← hL] at own5 hm
      have hLl : L.length ≤ 1000000000 := by omega
      subst hm
      have HL := hide hL
      have hby := bytesAt_owned own5
      have hnil := own_nil0 own5
      have H3 := hide (And.intro hby (And.intro hbR (And.intro hbw hnil)))
      clear own5 hbR hbw hby hnil hL
      have hS32 : (Sha.sum L).length = 32 := sum_len L
      obtain ⟨S, hS⟩ : ∃ S, S = Sha.sum L := ⟨_, rfl⟩
      rw [← hS] at hS32
      have HS := hide (And.intro hS32 hS)
      clear hS hS32
      go_wp2_with (first
        | (go_at_call 56; refine (digest_any L hLl A5 cap5 wr.heap.size _ (Nat.le_refl _) H3.out.1 H3.out.2.2.2).mono ?_; rintro e w5 ⟨rfl, hb5⟩; rw [← HS.out.2]; have hs5 := hb5.size; have HB5 := hide hb5; clear hb5)
        | (go_at_call 30; refine (rfold_any S HS.out.1 _).mono ?_; rintro e w6 ⟨rfl, hb6⟩; have HB6 := hide (And.intro hb6 ((H3.out.2.1.below HB5.out H3.out.2.1.lt).below hb6 (by have := H3.out.2.1.lt; omega))); clear hb6)
        | ((with_reducible refine wpList_store_blkA (o := ⟨none, .store 57 (.tmp 4) (.tmp 33), _, _, _, _⟩) rfl 57 (.tmp 4) (.tmp 33) rfl R z20 (bv (fold S 32)).toArray 57 HB6.out.2 (hash_info S 32) (z20_fold S) (bv_one _) ?_ ?_ ?_); rfl; rfl; intro w9 h9 hg9; dsimp only [Act.put]))
      have hR0 := HR.out
      have hb6 := HB6.out.1.size
      refine bodyPost_ret (results_cell_blk rfl _ _ R 57 (bv (fold S 32)).toArray _ _ rfl h9 Try.underlying57 (hash_info S 32)) rfl ⟨by rw [HD.out, HS.out.2, HL.out]; rfl, ?_⟩
      rw [← hR0]
      exact ((H3.out.2.2.1.trans (HB5.out.mono (by omega))).trans (HB6.out.1.mono (by omega))).grown hg9 (by omega) (by intro k hk; injection hk with hk; omega)
end Go.Proofs.Ytjmenaplgndnnaa
