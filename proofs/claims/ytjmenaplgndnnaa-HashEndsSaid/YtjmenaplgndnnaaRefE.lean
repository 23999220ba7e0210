/- Rows of bytes that came in; spencelaw02.size; the document's Sum. -/
import Derived.Test.YtjmenaplgndnnaaRefD
import Derived.Test.YtjmenaplgndnnaaHashOf2
namespace Go.Proofs.Ytjmenaplgndnnaa
open Go.RowKit
/-- a slice of slices of bytes, each a slice by its form -/
def RowsAt (w : World) (B : Nat) (v : Value) (ls : List (List UInt8)) : Prop :=
  ∃ A cap, v = .slice A ls.length cap ∧ ls.length ≤ cap ∧ (0 < ls.length → ∃ b off, A = some ⟨b, off, none⟩ ∧ b < B ∧ ∀ j, j < ls.length → ∃ A' c', w.cell? ⟨b, off + j, none⟩ = some (.slice A' (ls.getD j []).length c') ∧ BytesAt w B (.slice A' (ls.getD j []).length c') (ls.getD j []) ∧ (A' = none → c' = 0))
theorem RowsAt.parts {w : World} {B : Nat} {v : Value} {ls : List (List UInt8)} (h : RowsAt w B v ls) : PartsAt w B v ls := by
  obtain ⟨A, cap, hv, hc, hA⟩ := h
  refine ⟨A, cap, hv, hc, fun h0 => ?_⟩
  obtain ⟨b, off, h1, h2, h3⟩ := hA h0
  refine ⟨b, off, h1, h2, fun j hj => ?_⟩
  obtain ⟨A', c', h4, h5, _⟩ := h3 j hj
  exact ⟨_, h4, h5⟩
theorem RowsAt.alike {w w' : World} {B : Nat} {v : Value} {ls : List (List UInt8)} (h : RowsAt w B v ls) (ha : Alike B w w') : RowsAt w' B v ls := by
  obtain ⟨A, cap, hv, hc, hA⟩ := h
  refine ⟨A, cap, hv, hc, fun h0 => ?_⟩
  obtain ⟨b, off, h1, h2, h3⟩ := hA h0
  refine ⟨b, off, h1, h2, fun j hj => ?_⟩
  obtain ⟨A', c', h4, h5, h6⟩ := h3 j hj
  exact ⟨A', c', (ha.cell (p := ⟨b, off + j, none⟩) h2).trans h4, h5.alike ha, h6⟩
theorem flat_take (ls : List (List UInt8)) (k : Nat) (h : k < ls.length) : (ls.take (k + 1)).flatten = (ls.take k).flatten ++ ls.getD k [] := by
  rw [List.take_succ_eq_append_getElem h, List.flatten_append]; simp [List.getD, h]
theorem flat_le (ls : List (List UInt8)) (k : Nat) : (ls.take k).flatten.length ≤ ls.flatten.length := by
  have h2 : ls.flatten = (ls.take k).flatten ++ (ls.drop k).flatten := by rw [← List.flatten_append, List.take_append_drop]
  rw [h2, List.length_append]; omega
theorem flat_get (ls : List (List UInt8)) (k : Nat) (h : k < ls.length) : (ls.getD k []).length ≤ ls.flatten.length := by
  have h1 := flat_le ls (k + 1)
  rw [flat_take ls k h, List.length_append] at h1
  omega
/-- how many bytes rows have -/
def fl (ls : List (List UInt8)) : Nat := ls.flatten.length
theorem fl_take (ls : List (List UInt8)) (k : Nat) (h : k < ls.length) : fl (ls.take (k + 1)) = fl (ls.take k) + (ls.getD k []).length := by
  unfold fl; rw [flat_take ls k h, List.length_append]
theorem fl_le (ls : List (List UInt8)) (k : Nat) : fl (ls.take k) ≤ fl ls := flat_le ls k
set_option maxRecDepth 100000 in
set_option maxHeartbeats 1000000 in
theorem size02_any (ls : List (List UInt8)) (hl : ls.length ≤ 140737488355328) (hb : ∀ l ∈ ls, l.length ≤ 140737488355328) (v : Value) (B : Nat) (w : World) (hv : RowsAt w B v ls) :
    Calls Try.prog 26 #[v] w fun e w' => ∃ r : Nat, e = .returned (.int .i64 (r : Int)) ∧ w = w' ∧ r ≤ 281474976720000 ∧ (r = ls.length + fl ls ∨ 6000 < r ∧ 6000 < ls.length + fl ls) := by
  obtain ⟨A, cap, rfl, hcap, hA⟩ := hv
  have HA := hide hA
  have HB := hide hb
  clear hA hb
  go_enter Try.func26, Try.ntmps26
  go_wp2_with fail
  go_loop [3, 4] (fun s i => ∃ k r : Nat, k ≤ ls.length ∧ i = .int .i64 (k : Int) ∧ s = .int .i64 (r : Int) ∧ r = ls.length + fl (ls.take k) ∧ r ≤ 281474976720000) (fun _ i => ls.length - (intOf i).toNat)
  case atStart => exact ⟨0, ls.length, by omega, rfl, rfl, by simp [fl], by omega⟩
  case round =>
    obtain ⟨k, r, hk, rfl, rfl, hr, hr2⟩ := hrel
    have HR := hide hr
    clear hr
    by_cases hlt : k < ls.length
    · by_cases hm : r ≤ 6000
      · obtain ⟨b, off, rfl, _, hp⟩ := HA.out (by omega)
        obtain ⟨A', c', c3, _, _⟩ := hp k hlt
        obtain ⟨n, hn⟩ : ∃ n, n = (ls.getD k []).length := ⟨_, rfl⟩
        rw [← hn] at c3
        have hn2 : n ≤ 140737488355328 := by rw [hn]; exact HB.out _ (by simp [List.getD, hlt])
        have HN := hide hn
        have i1 : (0 : Int) ≤ (k : Int) := by omega
        have i2 : (k : Int) < (ls.length : Int) := by omega
        clear hp hn
        go_wp2_with fail
        go_round
        case rel => exact ⟨k + 1, r + n, by omega, by go_num, by go_num, by rw [fl_take ls k hlt, ← HN.out, HR.out]; omega, by omega⟩
        case measure => simp [intOf]; omega
      · have hm2 : 6000 < r := by omega
        have i2 : (k : Int) < (ls.length : Int) := by omega
        go_wp2_with fail
        go_ret
        refine ⟨r, rfl, rfl, hr2, .inr ⟨hm2, ?_⟩⟩
        have := HR.out
        have := fl_le ls k
        omega
    · obtain rfl : k = ls.length := by omega
      go_wp2_with fail
      go_ret
      refine ⟨r, rfl, rfl, hr2, .inl ?_⟩
      rw [HR.out, List.take_of_length_le (Nat.le_refl _)]
theorem own_nil0 {w : World} {base n cap : Nat} {A : Option Addr} {e : TypeId} {xs : List Value} (h : w.ownsRow base e 1 (.slice A n cap) n xs) : A = none → cap = 0 := by
  intro hA
  rcases owned_form h with ⟨e, _⟩ | ⟨q, cp, cur, e, _⟩
  · injection e
  · injection e with e1
    rw [hA] at e1
    cases e1
theorem sum_info (l : List UInt8) : (Try.prog.info? 53).map (·.size) = some (bv (Sha.sum l)).toArray.size := by rw [List.size_toArray, bv, List.length_map, sum_len]; exact size27
theorem sum_size (l : List UInt8) : z32.size = (bv (Sha.sum l)).toArray.size := by simp [z32, bv, sum_len]
set_option maxRecDepth 100000 in
set_option maxHeartbeats 1000000 in
theorem rsum_any (ls : List (List UInt8)) (hl : ls.flatten.length ≤ 1000000000) (hn : ls.length ≤ 1000000000) (v : Value) (w : World) (B : Nat) (hB : B ≤ w.heap.size) (hp : RowsAt w B v ls) :
    Calls Try.prog 57 #[v] w fun e w' => e = .returned (.agg (bv (Sha.sum ls.flatten)).toArray) ∧ Below w.heap.size w w' := by
  obtain ⟨A, cap, rfl, hcap, hA⟩ := hp
  obtain ⟨i, hi, hz0, hz1, hz2⟩ := info_parts info5
  have HA := hide hA
  clear hA
  obtain ⟨R, hR⟩ : ∃ R, R = w.heap.size := ⟨_, rfl⟩
  have HR := hide hR
  obtain ⟨D, hD⟩ : ∃ D, D = Value.agg (bv (Sha.sum ls.flatten)).toArray := ⟨_, rfl⟩
  rw [← hD]
  have HD := hide hD
  obtain ⟨M, hM⟩ : ∃ M, M = fl ls := ⟨_, rfl⟩
  have hl' : M ≤ 1000000000 := by rw [hM]; exact hl
  have HM := hide hM
  clear hD hl hM
  go_enter Try.func57, Try.ntmps57
  go_step
  go_step
  apply wp_region_lit
  refine wpList_value (o := ⟨some 2, _, _, _, _, _⟩) rfl (.pointer (some ⟨R, 0, none⟩)) (w.alloc (.cells z32 53)) (by rw [HR.out]; kernel_rfl) ?_
  dsimp only [Act.put, List.setIfInBounds_toArray, List.set_cons_zero, List.set_cons_succ]
  obtain ⟨w1, hw1⟩ : ∃ w1, w1 = w.alloc (.cells z32 53) := ⟨_, rfl⟩
  have hb1 : Blk w1 R 53 z32 := by rw [hw1, HR.out]; exact Blk.new _ _ _
  have hbl1 : Below R w w1 := by rw [hw1, HR.out]; exact (Below.refl _ _).alloc (Nat.le_refl _) _
  have hs1 : w1.heap.size = R + 1 := by rw [hw1, HR.out]; simp
  have hBR : B ≤ R := by omega
  rw [← hw1]
  have H1 := hide (And.intro hb1 (And.intro hbl1 hs1))
  clear hw1 hb1 hbl1 hs1 hR hB
  go_wp2_with fail
  go_loopw [3, 4] (fun v3 v4 wr => ∃ (k m : Nat) (A3 : Option Addr) (cap3 : Nat), k ≤ ls.length ∧ v4 = .int .i64 (k : Int) ∧ m = fl (ls.take k) ∧ v3 = .slice A3 m cap3 ∧ wr.ownsRow (R + 1) 5 1 v3 m (bv (ls.take k).flatten) ∧ Blk wr R 53 z32 ∧ Below R w wr ∧ R + 1 ≤ wr.heap.size) (fun _ v4 _ => ls.length - (intOf v4).toNat)
  case atStart => exact ⟨0, 0, none, 0, by omega, rfl, rfl, rfl, ⟨rfl, .inl ⟨rfl, rfl⟩⟩, H1.out.1, H1.out.2.1, by rw [H1.out.2.2]; exact Nat.le_refl _⟩
  case round =>
    obtain ⟨k, m, A3, cap3, hk, rfl, hm, rfl, own3, hbR, hbw, hsz⟩ := hrel
    have hmf := fl_le ls k
    rw [← hm, ← HM.out] at hmf
    by_cases hlt : k < ls.length
    · obtain ⟨b, off, rfl, hbB, hcells⟩ := HA.out (by omega)
      obtain ⟨Aj, cj, cu, hby, hnil⟩ := hcells k hlt
      have ha : Alike B w wr := alike_of_below (hbw.mono hBR)
      have cu := (ha.cell (p := ⟨b, off + k, none⟩) hbB).trans cu
      obtain ⟨l, hlk⟩ : ∃ l, l = ls.getD k [] := ⟨_, rfl⟩
      rw [← hlk] at cu hby
      have hfl := flat_take ls k hlt
      rw [← hlk] at hfl
      have hmf2 : m + l.length ≤ M := by
        have h := fl_le ls (k + 1)
        rw [fl_take ls k hlt, ← hm, ← hlk, ← HM.out] at h
        exact h
      have hsrc : Src wr Aj l.length cj (bv l) := bv_src (hby.alike ha) hnil
      have i1 : (0 : Int) ≤ (k : Int) := by omega
      have i2 : (k : Int) < (ls.length : Int) := by omega
      have H3 := hide (And.intro own3 (And.intro hbR (And.intro hbw (And.intro hsrc (And.intro hfl hm)))))
      clear own3 hbR hbw hsrc hfl hm hlk hby hcells ha hnil
      go_wp2_with (at_builtin; (refine wpList_app (o := ⟨some 16, _, _, _, _, _⟩) rfl (.tmp 11) (.tmp 15) 26 rfl (R + 1) 5 i (.int .u8 0) 1 Try.underlying26 hi hz0 hz1 hz2 rfl _ m _ H3.out.1 Aj l.length cj (bv l) H3.out.2.2.2.1 (by simp only [maxLen]; omega) (by omega) hsz rfl rfl ?_); intro v4 w4 own4 gr4 mv4 _; obtain ⟨A4, cap4, rfl⟩ := owned_slice own4; have H4 := hide (And.intro own4 gr4); clear own4 gr4 mv4)
      go_roundw
      case rel =>
        obtain ⟨own3, hbR, hbw, hsrc, hfl, hm⟩ := H3.out
        obtain ⟨own4, gr4⟩ := H4.out
        refine ⟨k + 1, m + l.length, A4, cap4, by omega, by go_num, by unfold fl at hm ⊢; rw [hfl, List.length_append, hm], rfl, by rw [hfl, bvA]; exact own4, hbR.grown gr4 (fun e => ?_), hbw.grown gr4 (by omega) (fun q hq => ?_), Nat.le_trans hsz gr4.size⟩
        · have := (owned_lt own3 e.symm).1; omega
        · have := (owned_lt own3 hq).1; omega
      case measure => simp [intOf]; omega
    · obtain rfl : k = ls.length := by omega
      obtain ⟨L, hL⟩ : ∃ L, L = ls.flatten := ⟨_, rfl⟩
      rw [List.take_of_length_le (Nat.le_refl _)] at own3 hm
      rw [← hL] at own3
      unfold fl at hm
      rw [← hL] at hm
      have hLl : L.length ≤ 1000000000 := by omega
      subst hm
      have HL := hide hL
      have hby := bytesAt_owned own3
      have hnil := own_nil0 own3
      have H3 := hide (And.intro hby (And.intro hbR (And.intro hbw hnil)))
      clear own3 hbR hbw hby hnil hL hmf hk hlt
      go_wp2_with (first
        | (go_at_call 56; refine (digest_any L hLl A3 cap3 wr.heap.size _ (Nat.le_refl _) H3.out.1 H3.out.2.2.2).mono ?_; rintro e w5 ⟨rfl, hb5⟩; have HB5 := hide hb5; have HR5 := hide (H3.out.2.1.below hb5 H3.out.2.1.lt); clear hb5)
        | ((with_reducible refine wpList_store_blkA (o := ⟨none, .store 53 (.tmp 2) (.tmp 18), _, _, _, _⟩) rfl 53 (.tmp 2) (.tmp 18) rfl R z32 (bv (Sha.sum L)).toArray 53 HR5.out (sum_info L) (sum_size L) (bv_one _) ?_ ?_ ?_); rfl; rfl; intro w9 h9 hg9; dsimp only [Act.put]))
      have hR0 := HR.out
      have hb5 := HB5.out.size
      refine bodyPost_ret (results_cell_blk rfl _ _ R 53 (bv (Sha.sum L)).toArray _ _ rfl h9 Try.underlying53 (sum_info L)) rfl ⟨by rw [HD.out, HL.out], ?_⟩
      rw [← hR0]
      exact (H3.out.2.2.1.trans (HB5.out.mono (by omega))).grown hg9 (by omega) (by intro k hk; injection hk with hk; omega)
end Go.Proofs.Ytjmenaplgndnnaa
