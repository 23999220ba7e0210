/- spencelaw02.HashParts is true, whatever it is asked of. -/
import Derived.Test.YtcckmnabjjamfaaExec
import Derived.Test.YtcckmnabjjamfaaHashOf2
import Derived.Test.YtcckmnabjjamfaaAwakeHash
import Derived.Test.YtcckmnabjjamfaaPick
namespace Go.Proofs.Ytcckmnabjjamfaa
open Go.RowKit
theorem sum_made {w : World} {ty : TypeId} {us : List Value} {ls : List (List UInt8)} {l : List UInt8} (hr : RowOf w w.heap.size us ls) (hl : ls.flatten = l) (hn : l.length ≤ 1099511627000) (hm : ls.length ≤ 1099511627000) :
    ∀ (u : Value) (W : World), Ext w W → madeSlc w.heap.size ty us.toArray u W → Calls Try.prog 15 #[u] W fun e w' => e = .returned (.agg (bv (Sha.sum l)).toArray) ∧ Ext W w' := by
  intro u W hx hu
  have hp := parts_made hu hx hr
  rw [← hl]
  exact sum_any ls (by rw [hl]; exact hn) hm u W W.heap.size (Nat.le_refl _) hp
theorem of_made {w : World} {ty : TypeId} {us : List Value} {ls : List (List UInt8)} (tag : ByteArray) (t : List UInt8) (ht : t = tag.data.toList) (htl : tag.size ≤ 1000000000) (hr : RowOf w w.heap.size us ls) (hn : ls.flatten.length ≤ 1000000000) (hm : ls.length ≤ 1000000000) :
    ∀ (u : Value) (W : World), Ext w W → madeSlc w.heap.size ty us.toArray u W → Calls Try.prog 46 #[.string tag, u] W fun e w' => e = .returned (.agg (bv (ofB t ls)).toArray) ∧ Ext W w' := by
  intro u W hx hu
  have hp := parts_made hu hx hr
  exact of_any tag t ht htl ls hn hm u W W.heap.size (Nat.le_refl _) hp
theorem nil_bytes (w : World) (B : Nat) : BytesAt w B (.slice none 0 0) [] := ⟨none, 0, rfl, Nat.le_refl _, fun h => absurd h (by simp)⟩
set_option maxRecDepth 100000 in
set_option maxHeartbeats 1000000 in
theorem hashParts_big (l : List UInt8) (A : Option Addr) (cap : Nat) (hl : l.length ≤ 140737488355328) (tag : ByteArray) (ht : tag.size ≤ 140737488355328) (cut again : Int) (hbig : 6000 < l.length + tag.size) (w : World) :
    Calls Try.prog 11 #[.slice A l.length cap, .int .i64 cut, .int .i64 again, .string tag] w fun e w' => e = .returned (.bool true) ∧ Below w.heap.size w w' := by
  have h1 : (6000 : Int) < (l.length : Int) + (tag.size : Int) := by omega
  go_enter Try.func11, Try.ntmps11
  go_wp2_with fail
  refine (awake_any _).mono ?_
  rintro e w1 ⟨rfl, hb1⟩
  have HB1 := hide hb1
  clear hb1
  dsimp only
  go_wp2_with fail
  go_ret
  exact ⟨rfl, HB1.out⟩
set_option maxRecDepth 100000 in
set_option maxHeartbeats 4000000 in
theorem hashParts_small (l : List UInt8) (A : Option Addr) (cap : Nat) (hnil : A = none → cap = 0) (tag : ByteArray) (cut again : Int) (hc : -9223372036854775808 ≤ cut ∧ cut ≤ 9223372036854775807) (ha : -9223372036854775808 ≤ again ∧ again ≤ 9223372036854775807) (hsm : l.length + tag.size ≤ 6000) (w : World) (hv : BytesAt w w.heap.size (.slice A l.length cap) l) :
    Calls Try.prog 11 #[.slice A l.length cap, .int .i64 cut, .int .i64 again, .string tag] w fun e w' => e = .returned (.bool true) ∧ Below w.heap.size w w' := by
  have h1 : ¬ (6000 : Int) < (l.length : Int) + (tag.size : Int) := by omega
  have h0 : l.length ≤ 6000 := by omega
  obtain ⟨k, hk⟩ : ∃ k : Nat, (k : Int) = cut % ((l.length : Int) + 1) := ⟨(cut % ((l.length : Int) + 1)).toNat, Int.toNat_of_nonneg (Int.emod_nonneg _ (by omega))⟩
  obtain ⟨m, hm⟩ : ∃ m : Nat, (m : Int) = again % ((l.length : Int) + 1) := ⟨(again % ((l.length : Int) + 1)).toNat, Int.toNat_of_nonneg (Int.emod_nonneg _ (by omega))⟩
  have hkl : k ≤ l.length := by have := Int.emod_lt_of_pos cut (show (0 : Int) < (l.length : Int) + 1 by omega); omega
  have hml : m ≤ l.length := by have := Int.emod_lt_of_pos again (show (0 : Int) < (l.length : Int) + 1 by omega); omega
  have hlc : l.length ≤ cap := by obtain ⟨_, _, e, h, _⟩ := hv; injection e with _ _ e; omega
  have HC := hide hc
  have HA := hide ha
  have HV := hide hv
  have HK := hide hk
  have HM := hide hm
  have HN := hide hnil
  clear hc ha hv hk hm hnil
  go_enter Try.func11, Try.ntmps11
  go_wp2_with fail
  refine (awake_any _).mono ?_
  rintro e w1 ⟨rfl, hb1⟩
  have HB1 := hide hb1
  clear hb1
  dsimp only
  go_wp2_with fail
  refine (pick_any cut ((l.length : Int) + 1) _ (by omega) (by omega) HC.out).mono ?_
  rintro e w' ⟨rfl, rfl⟩
  rw [← HK.out]
  dsimp only
  go_wp2_with fail
  refine (pick_any again ((l.length : Int) + 1) _ (by omega) (by omega) HA.out).mono ?_
  rintro e w' ⟨rfl, rfl⟩
  rw [← HM.out]
  dsimp only
  go_wp2_with fail
  have hv1 : BytesAt w1 w1.heap.size (.slice A l.length cap) l := by
    obtain ⟨A', c', e, h2, h3⟩ := HV.out.alike (alike_of_below HB1.out)
    exact ⟨A', c', e, h2, fun h => by obtain ⟨b, off, h4, h5, h6⟩ := h3 h; exact ⟨b, off, h4, Nat.lt_of_lt_of_le h5 HB1.out.size, h6⟩⟩
  have bk := hv1.take k hkl
  have bd := hv1.drop k hkl
  have bm := hv1.take m hml
  have be := hv1.drop m hml
  have hk1 := run_slice_to (P := Try.prog) 40 5 Try.underlying40 size5 A l.length cap k (by omega)
  have hk2 := run_sliceAt_from (P := Try.prog) 40 5 Try.underlying40 size5 A l.length cap k hkl
  have hm1 := run_slice_to (P := Try.prog) 40 5 Try.underlying40 size5 A l.length cap m (by omega)
  have hm2 := run_sliceAt_from (P := Try.prog) 40 5 Try.underlying40 size5 A l.length cap m hml
  obtain ⟨Ak, hAk⟩ : ∃ Ak, Ak = if cap = k then A else A.map (·.add k) := ⟨_, rfl⟩
  obtain ⟨Am, hAm⟩ : ∃ Am, Am = if cap = m then A else A.map (·.add m) := ⟨_, rfl⟩
  rw [← hAk] at hk2 bd
  rw [← hAm] at hm2 be
  obtain ⟨D, hD⟩ : ∃ D, D = Sha.sum l := ⟨_, rfl⟩
  have hDl : D.length = 32 := by rw [hD]; exact sum_len _
  have hfk : [l.take k, l.drop k].flatten = l := by simp
  have hfm : [l.take m, l.drop m].flatten = l := by simp
  have hs37 := sum_made (ty := 40) (RowOf.cons bk (RowOf.cons bd (RowOf.nil _ _))) hfk (by omega) (by simp)
  have hs40 := sum_made (ty := 40) (RowOf.cons hv1 (RowOf.nil _ _)) (show [l].flatten = l by simp) (by omega) (by simp)
  have hs50 := sum_made (ty := 40) (RowOf.cons bk (RowOf.cons (nil_bytes _ _) (RowOf.cons bd (RowOf.nil _ _)))) (show [l.take k, [], l.drop k].flatten = l by simp) (by omega) (by simp)
  have hs58 := sum_made (ty := 40) (RowOf.cons bm (RowOf.cons be (RowOf.nil _ _))) hfm (by omega) (by simp)
  rw [← hD] at hs37 hs40 hs50 hs58
  have hne := run_neq_bv (P := Try.prog) 27 5 32 Try.underlying27 Try.underlying5 size5 D D hDl hDl
  have hbb : (!(D == D)) = false := by simp
  rw [hbb] at hne
  have hL : ∀ p ∈ ([(37, madeSlc w1.heap.size 40 #[.slice A k cap, .slice Ak (l.length - k) (cap - k)]), (40, madeSlc w1.heap.size 40 #[.slice A l.length cap]), (50, madeSlc w1.heap.size 40 #[.slice A k cap, .slice none 0 0, .slice Ak (l.length - k) (cap - k)]), (58, madeSlc w1.heap.size 40 #[.slice A m cap, .slice Am (l.length - m) (cap - m)])] : MadeL), MadeOk p.2 := by
    intro p hp
    simp only [List.mem_cons, List.not_mem_nil, or_false] at hp
    rcases hp with rfl | rfl | rfl | rfl <;> exact madeSlc_ok _ _ _
  refine wp_made 30 [(37, madeSlc w1.heap.size 40 #[.slice A k cap, .slice Ak (l.length - k) (cap - k)]), (40, madeSlc w1.heap.size 40 #[.slice A l.length cap]), (50, madeSlc w1.heap.size 40 #[.slice A k cap, .slice none 0 0, .slice Ak (l.length - k) (cap - k)]), (58, madeSlc w1.heap.size 40 #[.slice A m cap, .slice Am (l.length - m) (cap - m)])] (by kernel_rfl) (by kernel_rfl) hL (by simp) (by simp) ?_
  simp only [List.take_succ_cons, List.take_zero, List.drop_succ_cons, List.drop_zero]
  refine made_val (.slice A l.length cap) (by kernel_rfl) (by kernel_rfl) (by kernel_rfl) (fun _ _ => by kernel_rfl) ?_
  simp only [Act.put, List.setIfInBounds_toArray, List.set_cons_zero, List.set_cons_succ]
  refine made_val (.int .i64 (k : Int)) (by kernel_rfl) (by kernel_rfl) (by kernel_rfl) (fun _ _ => by kernel_rfl) ?_
  simp only [Act.put, List.setIfInBounds_toArray, List.set_cons_zero, List.set_cons_succ]
  refine made_val (.slice A k cap) (by kernel_rfl) (by kernel_rfl) (by kernel_rfl) (fun W _ => exec_slice 40 _ none (some _) none rfl _ hk1 W) ?_
  simp only [Act.put, List.setIfInBounds_toArray, List.set_cons_zero, List.set_cons_succ]
  refine made_val (.slice A l.length cap) (by kernel_rfl) (by kernel_rfl) (by kernel_rfl) (fun _ _ => by kernel_rfl) ?_
  simp only [Act.put, List.setIfInBounds_toArray, List.set_cons_zero, List.set_cons_succ]
  refine made_val (.int .i64 (k : Int)) (by kernel_rfl) (by kernel_rfl) (by kernel_rfl) (fun _ _ => by kernel_rfl) ?_
  simp only [Act.put, List.setIfInBounds_toArray, List.set_cons_zero, List.set_cons_succ]
  refine made_val (.slice Ak (l.length - k) (cap - k)) (by kernel_rfl) (by kernel_rfl) (by kernel_rfl) (fun W _ => exec_slice 40 _ (some _) none none rfl _ hk2 W) ?_
  simp only [Act.put, List.setIfInBounds_toArray, List.set_cons_zero, List.set_cons_succ]
  refine made_new 37 _ hL (by kernel_rfl) (by kernel_rfl) rfl rfl (new_slc (Nat.le_refl _) rfl (fun W => by kernel_rfl)) ?_
  simp only [Act.put, List.setIfInBounds_toArray, List.set_cons_zero, List.set_cons_succ]
  refine made_call1 37 _ (.agg (bv D).toArray) 15 (fun u => #[u]) (by kernel_rfl) rfl (by kernel_rfl) (by kernel_rfl) (fun u W => by kernel_rfl) hs37 ?_
  simp only [Act.put, List.setIfInBounds_toArray, List.set_cons_zero, List.set_cons_succ]
  refine made_val (.slice A l.length cap) (by kernel_rfl) (by kernel_rfl) (by kernel_rfl) (fun _ _ => by kernel_rfl) ?_
  simp only [Act.put, List.setIfInBounds_toArray, List.set_cons_zero, List.set_cons_succ]
  refine made_new 40 _ hL (by kernel_rfl) (by kernel_rfl) rfl rfl (new_slc (Nat.le_refl _) rfl (fun W => by kernel_rfl)) ?_
  simp only [Act.put, List.setIfInBounds_toArray, List.set_cons_zero, List.set_cons_succ]
  refine made_call1 40 _ (.agg (bv D).toArray) 15 (fun u => #[u]) (by kernel_rfl) rfl (by kernel_rfl) (by kernel_rfl) (fun u W => by kernel_rfl) hs40 ?_
  simp only [Act.put, List.setIfInBounds_toArray, List.set_cons_zero, List.set_cons_succ]
  refine made_val (.bool false) (by kernel_rfl) (by kernel_rfl) (by kernel_rfl) (fun W _ => exec_binop_agg _ _ _ _ _ rfl _ _ rfl rfl (by kernel_rfl) _ hne W) ?_
  simp only [Act.put, List.setIfInBounds_toArray, List.set_cons_zero, List.set_cons_succ]
  refine made_val (.bool false) (by kernel_rfl) (by kernel_rfl) (by kernel_rfl) (fun _ _ => by kernel_rfl) ?_
  simp only [Act.put, List.setIfInBounds_toArray, List.set_cons_zero, List.set_cons_succ]
  refine made_val (.slice A l.length cap) (by kernel_rfl) (by kernel_rfl) (by kernel_rfl) (fun _ _ => by kernel_rfl) ?_
  simp only [Act.put, List.setIfInBounds_toArray, List.set_cons_zero, List.set_cons_succ]
  refine made_val (.int .i64 (k : Int)) (by kernel_rfl) (by kernel_rfl) (by kernel_rfl) (fun _ _ => by kernel_rfl) ?_
  simp only [Act.put, List.setIfInBounds_toArray, List.set_cons_zero, List.set_cons_succ]
  refine made_val (.slice A k cap) (by kernel_rfl) (by kernel_rfl) (by kernel_rfl) (fun W _ => exec_slice 40 _ none (some _) none rfl _ hk1 W) ?_
  simp only [Act.put, List.setIfInBounds_toArray, List.set_cons_zero, List.set_cons_succ]
  refine made_val (.slice A l.length cap) (by kernel_rfl) (by kernel_rfl) (by kernel_rfl) (fun _ _ => by kernel_rfl) ?_
  simp only [Act.put, List.setIfInBounds_toArray, List.set_cons_zero, List.set_cons_succ]
  refine made_val (.int .i64 (k : Int)) (by kernel_rfl) (by kernel_rfl) (by kernel_rfl) (fun _ _ => by kernel_rfl) ?_
  simp only [Act.put, List.setIfInBounds_toArray, List.set_cons_zero, List.set_cons_succ]
  refine made_val (.slice Ak (l.length - k) (cap - k)) (by kernel_rfl) (by kernel_rfl) (by kernel_rfl) (fun W _ => exec_slice 40 _ (some _) none none rfl _ hk2 W) ?_
  simp only [Act.put, List.setIfInBounds_toArray, List.set_cons_zero, List.set_cons_succ]
  refine made_new 50 _ hL (by kernel_rfl) (by kernel_rfl) rfl rfl (new_slc (Nat.le_refl _) rfl (fun W => by kernel_rfl)) ?_
  simp only [Act.put, List.setIfInBounds_toArray, List.set_cons_zero, List.set_cons_succ]
  refine made_call1 50 _ (.agg (bv D).toArray) 15 (fun u => #[u]) (by kernel_rfl) rfl (by kernel_rfl) (by kernel_rfl) (fun u W => by kernel_rfl) hs50 ?_
  simp only [Act.put, List.setIfInBounds_toArray, List.set_cons_zero, List.set_cons_succ]
  refine made_val (.slice A l.length cap) (by kernel_rfl) (by kernel_rfl) (by kernel_rfl) (fun _ _ => by kernel_rfl) ?_
  simp only [Act.put, List.setIfInBounds_toArray, List.set_cons_zero, List.set_cons_succ]
  refine made_val (.int .i64 (m : Int)) (by kernel_rfl) (by kernel_rfl) (by kernel_rfl) (fun _ _ => by kernel_rfl) ?_
  simp only [Act.put, List.setIfInBounds_toArray, List.set_cons_zero, List.set_cons_succ]
  refine made_val (.slice A m cap) (by kernel_rfl) (by kernel_rfl) (by kernel_rfl) (fun W _ => exec_slice 40 _ none (some _) none rfl _ hm1 W) ?_
  simp only [Act.put, List.setIfInBounds_toArray, List.set_cons_zero, List.set_cons_succ]
  refine made_val (.slice A l.length cap) (by kernel_rfl) (by kernel_rfl) (by kernel_rfl) (fun _ _ => by kernel_rfl) ?_
  simp only [Act.put, List.setIfInBounds_toArray, List.set_cons_zero, List.set_cons_succ]
  refine made_val (.int .i64 (m : Int)) (by kernel_rfl) (by kernel_rfl) (by kernel_rfl) (fun _ _ => by kernel_rfl) ?_
  simp only [Act.put, List.setIfInBounds_toArray, List.set_cons_zero, List.set_cons_succ]
  refine made_val (.slice Am (l.length - m) (cap - m)) (by kernel_rfl) (by kernel_rfl) (by kernel_rfl) (fun W _ => exec_slice 40 _ (some _) none none rfl _ hm2 W) ?_
  simp only [Act.put, List.setIfInBounds_toArray, List.set_cons_zero, List.set_cons_succ]
  refine made_new 58 _ hL (by kernel_rfl) (by kernel_rfl) rfl rfl (new_slc (Nat.le_refl _) rfl (fun W => by kernel_rfl)) ?_
  simp only [Act.put, List.setIfInBounds_toArray, List.set_cons_zero, List.set_cons_succ]
  refine made_call1 58 _ (.agg (bv D).toArray) 15 (fun u => #[u]) (by kernel_rfl) rfl (by kernel_rfl) (by kernel_rfl) (fun u W => by kernel_rfl) hs58 ?_
  simp only [Act.put, List.setIfInBounds_toArray, List.set_cons_zero, List.set_cons_succ]
  refine made_val (.bool false) (by kernel_rfl) (by kernel_rfl) (by kernel_rfl) (fun W _ => exec_binop_agg _ _ _ _ _ rfl _ _ rfl rfl (by kernel_rfl) _ hne W) ?_
  simp only [Act.put, List.setIfInBounds_toArray, List.set_cons_zero, List.set_cons_succ]
  show ∀ w', _ → _
  intro w2 hx2
  simp only [ended, List.nil_append, List.cons_append]
  intro u37 _ _ u40 _ _ u50 _ _ u58 _ _
  simp only [Act.put, List.setIfInBounds_toArray, List.set_cons_zero, List.set_cons_succ]
  go_wp2_with fail
  have hv2 : BytesAt w2 w2.heap.size (.slice A l.length cap) l := by
    obtain ⟨A', c', e, h2, h3⟩ := hv1.alike (alike_of_below hx2)
    exact ⟨A', c', e, h2, fun h => by obtain ⟨b, off, h4, h5, h6⟩ := h3 h; exact ⟨b, off, h4, Nat.lt_of_lt_of_le h5 hx2.size, h6⟩⟩
  have bk2 := hv2.take k hkl
  have bd2 := hv2.drop k hkl
  have bm2 := hv2.take m hml
  have be2 := hv2.drop m hml
  rw [← hAk] at bd2
  rw [← hAm] at be2
  obtain ⟨t, ht⟩ : ∃ t, t = tag.data.toList := ⟨_, rfl⟩
  have ho69 := of_made (ty := 40) tag t ht (by omega) (RowOf.cons bk2 (RowOf.cons bd2 (RowOf.nil _ _))) (by rw [hfk]; omega) (by simp)
  have ho78 := of_made (ty := 40) tag t ht (by omega) (RowOf.cons bm2 (RowOf.cons be2 (RowOf.nil _ _))) (by rw [hfm]; omega) (by simp)
  obtain ⟨X, hX⟩ : ∃ X, X = ofB t [l.take k, l.drop k] := ⟨_, rfl⟩
  obtain ⟨Y, hY⟩ : ∃ Y, Y = ofB t [l.take m, l.drop m] := ⟨_, rfl⟩
  rw [← hX] at ho69
  rw [← hY] at ho78
  have hXl : X.length = 20 := by rw [hX]; exact length_fold _ _
  have hYl : Y.length = 20 := by rw [hY]; exact length_fold _ _
  have hL : ∀ p ∈ ([(69, madeSlc w2.heap.size 40 #[.slice A k cap, .slice Ak (l.length - k) (cap - k)]), (78, madeSlc w2.heap.size 40 #[.slice A m cap, .slice Am (l.length - m) (cap - m)]), (11, madePtr w2.heap.size 34 z20), (12, madePtr w2.heap.size 34 z20)] : MadeL), MadeOk p.2 := by
    intro p hp
    simp only [List.mem_cons, List.not_mem_nil, or_false] at hp
    rcases hp with rfl | rfl | rfl | rfl
    · exact madeSlc_ok _ _ _
    · exact madeSlc_ok _ _ _
    · exact madePtr_ok _ _ _
    · exact madePtr_ok _ _ _
  refine wp_made 20 [(69, madeSlc w2.heap.size 40 #[.slice A k cap, .slice Ak (l.length - k) (cap - k)]), (78, madeSlc w2.heap.size 40 #[.slice A m cap, .slice Am (l.length - m) (cap - m)]), (11, madePtr w2.heap.size 34 z20), (12, madePtr w2.heap.size 34 z20)] (by kernel_rfl) (by kernel_rfl) hL (by simp) (by simp) ?_
  simp only [List.take_succ_cons, List.take_zero, List.drop_succ_cons, List.drop_zero]
  refine made_val (.string tag) (by kernel_rfl) (by kernel_rfl) (by kernel_rfl) (fun _ _ => by kernel_rfl) ?_
  simp only [Act.put, List.setIfInBounds_toArray, List.set_cons_zero, List.set_cons_succ]
  refine made_val (.slice A l.length cap) (by kernel_rfl) (by kernel_rfl) (by kernel_rfl) (fun _ _ => by kernel_rfl) ?_
  simp only [Act.put, List.setIfInBounds_toArray, List.set_cons_zero, List.set_cons_succ]
  refine made_val (.int .i64 (k : Int)) (by kernel_rfl) (by kernel_rfl) (by kernel_rfl) (fun _ _ => by kernel_rfl) ?_
  simp only [Act.put, List.setIfInBounds_toArray, List.set_cons_zero, List.set_cons_succ]
  refine made_val (.slice A k cap) (by kernel_rfl) (by kernel_rfl) (by kernel_rfl) (fun W _ => exec_slice 40 _ none (some _) none rfl _ hk1 W) ?_
  simp only [Act.put, List.setIfInBounds_toArray, List.set_cons_zero, List.set_cons_succ]
  refine made_val (.slice A l.length cap) (by kernel_rfl) (by kernel_rfl) (by kernel_rfl) (fun _ _ => by kernel_rfl) ?_
  simp only [Act.put, List.setIfInBounds_toArray, List.set_cons_zero, List.set_cons_succ]
  refine made_val (.int .i64 (k : Int)) (by kernel_rfl) (by kernel_rfl) (by kernel_rfl) (fun _ _ => by kernel_rfl) ?_
  simp only [Act.put, List.setIfInBounds_toArray, List.set_cons_zero, List.set_cons_succ]
  refine made_val (.slice Ak (l.length - k) (cap - k)) (by kernel_rfl) (by kernel_rfl) (by kernel_rfl) (fun W _ => exec_slice 40 _ (some _) none none rfl _ hk2 W) ?_
  simp only [Act.put, List.setIfInBounds_toArray, List.set_cons_zero, List.set_cons_succ]
  refine made_new 69 _ hL (by kernel_rfl) (by kernel_rfl) rfl rfl (new_slc (Nat.le_refl _) rfl (fun W => by kernel_rfl)) ?_
  simp only [Act.put, List.setIfInBounds_toArray, List.set_cons_zero, List.set_cons_succ]
  refine made_call1 69 _ (.agg (bv X).toArray) 46 (fun u => #[.string tag, u]) (by kernel_rfl) rfl (by kernel_rfl) (by kernel_rfl) (fun u W => by kernel_rfl) ho69 ?_
  simp only [Act.put, List.setIfInBounds_toArray, List.set_cons_zero, List.set_cons_succ]
  refine made_val (.string tag) (by kernel_rfl) (by kernel_rfl) (by kernel_rfl) (fun _ _ => by kernel_rfl) ?_
  simp only [Act.put, List.setIfInBounds_toArray, List.set_cons_zero, List.set_cons_succ]
  refine made_val (.slice A l.length cap) (by kernel_rfl) (by kernel_rfl) (by kernel_rfl) (fun _ _ => by kernel_rfl) ?_
  simp only [Act.put, List.setIfInBounds_toArray, List.set_cons_zero, List.set_cons_succ]
  refine made_val (.int .i64 (m : Int)) (by kernel_rfl) (by kernel_rfl) (by kernel_rfl) (fun _ _ => by kernel_rfl) ?_
  simp only [Act.put, List.setIfInBounds_toArray, List.set_cons_zero, List.set_cons_succ]
  refine made_val (.slice A m cap) (by kernel_rfl) (by kernel_rfl) (by kernel_rfl) (fun W _ => exec_slice 40 _ none (some _) none rfl _ hm1 W) ?_
  simp only [Act.put, List.setIfInBounds_toArray, List.set_cons_zero, List.set_cons_succ]
  refine made_val (.slice A l.length cap) (by kernel_rfl) (by kernel_rfl) (by kernel_rfl) (fun _ _ => by kernel_rfl) ?_
  simp only [Act.put, List.setIfInBounds_toArray, List.set_cons_zero, List.set_cons_succ]
  refine made_val (.int .i64 (m : Int)) (by kernel_rfl) (by kernel_rfl) (by kernel_rfl) (fun _ _ => by kernel_rfl) ?_
  simp only [Act.put, List.setIfInBounds_toArray, List.set_cons_zero, List.set_cons_succ]
  refine made_val (.slice Am (l.length - m) (cap - m)) (by kernel_rfl) (by kernel_rfl) (by kernel_rfl) (fun W _ => exec_slice 40 _ (some _) none none rfl _ hm2 W) ?_
  simp only [Act.put, List.setIfInBounds_toArray, List.set_cons_zero, List.set_cons_succ]
  refine made_new 78 _ hL (by kernel_rfl) (by kernel_rfl) rfl rfl (new_slc (Nat.le_refl _) rfl (fun W => by kernel_rfl)) ?_
  simp only [Act.put, List.setIfInBounds_toArray, List.set_cons_zero, List.set_cons_succ]
  refine made_call1 78 _ (.agg (bv Y).toArray) 46 (fun u => #[.string tag, u]) (by kernel_rfl) rfl (by kernel_rfl) (by kernel_rfl) (fun u W => by kernel_rfl) ho78 ?_
  simp only [Act.put, List.setIfInBounds_toArray, List.set_cons_zero, List.set_cons_succ]
  refine made_new 11 _ hL (by kernel_rfl) (by kernel_rfl) rfl rfl (new_ptr (Nat.le_refl _) (fun W => by kernel_rfl)) ?_
  simp only [Act.put, List.setIfInBounds_toArray, List.set_cons_zero, List.set_cons_succ]
  refine made_new 12 _ hL (by kernel_rfl) (by kernel_rfl) rfl rfl (new_ptr (Nat.le_refl _) (fun W => by kernel_rfl)) ?_
  simp only [Act.put, List.setIfInBounds_toArray, List.set_cons_zero, List.set_cons_succ]
  show ∀ w', _ → _
  intro w3 hx3
  simp only [ended, List.nil_append, List.cons_append]
  intro u69 _ _ u78 _ _ u11 h11 _ u12 h12 hd12
  simp only [Act.put, List.setIfInBounds_toArray, List.set_cons_zero, List.set_cons_succ]
  obtain ⟨r11, rfl, hr11, b11⟩ := h11
  obtain ⟨r12, rfl, hr12, b12⟩ := h12
  have hrr : r11 ≠ r12 := fun e => hd12 (.pointer (some ⟨r11, 0, none⟩)) (by simp) (by rw [e])
  have hs34 : ∀ Z : List UInt8, Z.length = 20 → (Try.prog.info? 34).map (·.size) = some (bv Z).toArray.size := by
    intro Z hZ
    rw [List.size_toArray, bv, List.length_map, hZ]; exact size_hash
  have hz34 : ∀ Z : List UInt8, Z.length = 20 → z20.size = (bv Z).toArray.size := by
    intro Z hZ
    have e : (bv Z).toArray.size = 20 := by rw [List.size_toArray, bv, List.length_map, hZ]
    rw [e]; rfl
  refine wpList_store_blkA (o := ⟨none, _, _, _, _, _⟩) rfl 34 (.tmp 11) (.tmp 70) rfl r11 z20 (bv X).toArray 34 b11 (hs34 X hXl) (hz34 X hXl) (bv_one _) rfl rfl ?_
  intro w4 c11 g11
  simp only [Act.put]
  have b12' := b12.grown g11 (fun e => hrr (Option.some.inj e).symm)
  refine wpList_store_blkA (o := ⟨none, _, _, _, _, _⟩) rfl 34 (.tmp 12) (.tmp 79) rfl r12 z20 (bv Y).toArray 34 b12' (hs34 Y hYl) (hz34 Y hYl) (bv_one _) rfl rfl ?_
  intro w5 c12 g12
  simp only [Act.put]
  have c11' := c11.grown g12 (fun e => hrr (Option.some.inj e))
  have hbw : Below w.heap.size w w5 := by
    have s1 := HB1.out.size
    have s2 := hx2.size
    have s3 := hx3.size
    have h6 := (HB1.out.trans (hx2.mono s1)).trans (hx3.mono (by omega))
    have h7 := h6.grown g11 (by omega) (by intro q hq; injection hq with hq; omega)
    exact h7.grown g12 (by have := g11.size; omega) (by intro q hq; injection hq with hq; omega)
  have hxy : k = m → X = Y := fun e => by rw [hX, hY, e]
  have HF := hide (And.intro c11' (And.intro c12 (And.intro hbw (And.intro hxy (And.intro hXl hYl)))))
  have HS := hide hs34
  clear c11' c12 hbw hxy c11 g11 g12 b12 b12' b11 hr11 hr12 hd12 hrr hs34 hz34 hx3 hL ho69 ho78 hX hY hXl hYl ht bk2 bd2 bm2 be2 hv2 hx2 hbb hne hs37 hs40 hs50 hs58 hfk hfm hDl hD hAk hAm hk1 hk2 hm1 hm2 be bd bk bm hv1
  by_cases hkm : k = m
  · have hkm2 : ((k : Int) != (m : Int)) = false := by simp [hkm]
    have hxy := HF.out.2.2.2.1 hkm
    rw [← hxy] at HF
    have hne := run_eql_bv (P := Try.prog) 34 5 20 Try.underlying34 Try.underlying5 size5 X X HF.out.2.2.2.2.1 HF.out.2.2.2.2.1
    have hbb : (X == X) = true := by simp
    rw [hbb] at hne
    clear hxy hbb
    go_wp2_with (first
      | ((with_reducible refine wpList_load_blk_w (o := ⟨some 84, _, _, _, _, _⟩) ?_ 34 (.tmp 11) rfl r11 34 (bv X).toArray _ _ HF.out.1 Try.underlying34 (HS.out X HF.out.2.2.2.2.1) ?_ ?_); rfl; rfl; dsimp only [Act.put, List.setIfInBounds_toArray, List.set_cons_zero, List.set_cons_succ])
      | ((with_reducible refine wpList_load_blk_w (o := ⟨some 85, _, _, _, _, _⟩) ?_ 34 (.tmp 12) rfl r12 34 (bv X).toArray _ _ HF.out.2.1 Try.underlying34 (HS.out X HF.out.2.2.2.2.1) ?_ ?_); rfl; rfl; dsimp only [Act.put, List.setIfInBounds_toArray, List.set_cons_zero, List.set_cons_succ]))
    go_ret
    exact ⟨rfl, HF.out.2.2.1⟩
  · have hkm2 : ((k : Int) != (m : Int)) = true := by simp; omega
    go_wp2_with fail
    go_ret
    exact ⟨rfl, HF.out.2.2.1⟩
end Go.Proofs.Ytcckmnabjjamfaa
