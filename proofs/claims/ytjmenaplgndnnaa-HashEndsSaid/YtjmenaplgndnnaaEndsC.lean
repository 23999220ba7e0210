/- spencelaw02.HashEnds: the walk. -/
import Derived.Test.YtjmenaplgndnnaaEndsB
namespace Go.Proofs.Ytjmenaplgndnnaa
open Go.RowKit
theorem sq_le (k : Nat) (h : k < 140) : k * k ≤ 19600 := by
  have := Nat.mul_le_mul (Nat.le_of_lt h) (Nat.le_of_lt h)
  omega
theorem owned_len {w : World} {R k : Nat} {A : Option Addr} {cap : Nat} {l : List UInt8} (hl : l.length = k) (h : w.ownsRow R 5 1 (.slice A k cap) k (bv l)) : BytesAt w w.heap.size (.slice A k cap) l := by
  subst hl
  exact bytesAt_owned h
def t56 : List UInt8 := [97, 98, 99, 100, 98, 99, 100, 101, 99, 100, 101, 102, 100, 101, 102, 103, 101, 102, 103, 104, 102, 103, 104, 105, 103, 104, 105, 106, 104, 105, 106, 107, 105, 106, 107, 108, 106, 107, 108, 109, 107, 108, 109, 110, 108, 109, 110, 111, 109, 110, 111, 112, 110, 111, 112, 113]
theorem sum56 : (Sha.sum t56)[0]? = some 0x24 ∧ (Sha.sum t56)[1]? = some 0x8d ∧ (Sha.sum t56)[2]? = some 0x6a ∧ (Sha.sum t56)[3]? = some 0x61 := by decide +kernel
theorem one_parts (w : World) (b b2 B n : Nat) (l : List UInt8) (hn : l.length = n) (hb : b < B) (hb2 : b2 < B) (h : ∀ j, w.cell? ⟨b, j, none⟩ = (bv l).toArray[j]?) (h2 : Blk w b2 26 #[.slice (some ⟨b, 0, none⟩) n n]) : PartsAt w B (.slice (some ⟨b2, 0, none⟩) 1 1) [l] := by
  subst hn
  refine ⟨_, 1, rfl, Nat.le_refl _, fun _ => ⟨b2, 0, rfl, hb2, fun j hj => ?_⟩⟩
  have : j = 0 := by simp at hj; omega
  subst this
  refine ⟨_, h2.cell 0, _, l.length, rfl, Nat.le_refl _, fun _ => ⟨b, 0, rfl, hb, fun j hj => ?_⟩⟩
  rw [Nat.zero_add, h]
  have hj2 : j < l.length := hj
  simp [bv, hj2]
theorem one_rows (w : World) (x : UInt8) : RowsAt ((w.alloc (.cells #[.int .u8 (x.toNat : Int)] 5)).alloc (.cells #[.slice (some ⟨w.heap.size, 0, none⟩) 1 1] 26)) (w.heap.size + 1 + 1) (.slice (some ⟨w.heap.size + 1, 0, none⟩) 1 1) [[x]] := by
  have hb : BytesAt (w.alloc (.cells #[.int .u8 (x.toNat : Int)] 5)) (w.alloc (.cells #[.int .u8 (x.toNat : Int)] 5)).heap.size (.slice (some ⟨w.heap.size, 0, none⟩) 1 1) [x] := by
    refine ⟨_, 1, rfl, Nat.le_refl _, fun _ => ⟨w.heap.size, 0, rfl, by rw [size_alloc]; omega, fun j hj => ?_⟩⟩
    have : j = 0 := by simp at hj; omega
    subst this
    exact (Blk.new w 5 _).cell 0
  have h := rows_made (W := ((w.alloc (.cells #[.int .u8 (x.toNat : Int)] 5)).alloc (.cells #[.slice (some ⟨w.heap.size, 0, none⟩) 1 1] 26))) (B0 := 0) (ty := 26) (u := .slice (some ⟨w.heap.size + 1, 0, none⟩) 1 1) ⟨w.heap.size + 1, rfl, Nat.zero_le _, Blk.new1 _ _ _ _⟩ (Ext.alloc _ _) (RowN.cons hb (by intro h; cases h) (RowN.nil _))
  rwa [size_alloc, size_alloc] at h
theorem exec_rem5 {P : Program} {ρ : Operand → Value} {o : Oper} (x : Operand) (t r : TypeId) (ho : o.op = .binOp .rem t x (.const (.int .i64 5)) r) (k m : Nat) (hk : k < 1000) (hx : ρ x = .int .i64 (k : Int)) (hy : ρ (.const (.int .i64 5)) = .int .i64 5) (hm : (k : Int) % 5 = (m : Int)) (W : World) : (execOp ρ o).run P W = .ok (.value (.int .i64 (m : Int))) W := by
  have h1 : (k : Int).tmod 5 = (m : Int) := by rw [Int.tmod_eq_emod_of_nonneg (by omega)]; exact hm
  unfold execOp
  simp only [ho, hx, hy, go_sem, Op.intDiv, h1]
  simp
theorem flat_rep (k : Nat) : (List.replicate k (List.replicate 100 (97 : UInt8))).flatten = List.replicate (k * 100) 97 := by
  induction k with
  | zero => rfl
  | succ k ih => rw [List.replicate_succ, List.flatten_cons, ih, List.replicate_append_replicate]; congr 1; omega
theorem TB.of_blk {w : World} {base g n : Nat} {l : List UInt8} (hb : Blk w g 5 (bv l).toArray) (hn : l.length = n) : TB w base (.slice (some ⟨g, 0, none⟩) n n) l := by
  subst hn
  refine ⟨_, l.length, rfl, Nat.le_refl _, fun _ => ⟨g, 0, rfl, hb.lt, .inr ⟨_, _, hb⟩, fun j hj => ?_⟩⟩
  rw [Nat.zero_add, hb.cell]
  simp [bv, hj]
theorem bv56 : #[Value.int IntKind.u8 97, Value.int IntKind.u8 98, Value.int IntKind.u8 99, Value.int IntKind.u8 100, Value.int IntKind.u8 98, Value.int IntKind.u8 99, Value.int IntKind.u8 100, Value.int IntKind.u8 101, Value.int IntKind.u8 99, Value.int IntKind.u8 100, Value.int IntKind.u8 101, Value.int IntKind.u8 102, Value.int IntKind.u8 100, Value.int IntKind.u8 101, Value.int IntKind.u8 102, Value.int IntKind.u8 103, Value.int IntKind.u8 101, Value.int IntKind.u8 102, Value.int IntKind.u8 103, Value.int IntKind.u8 104, Value.int IntKind.u8 102, Value.int IntKind.u8 103, Value.int IntKind.u8 104, Value.int IntKind.u8 105, Value.int IntKind.u8 103, Value.int IntKind.u8 104, Value.int IntKind.u8 105, Value.int IntKind.u8 106, Value.int IntKind.u8 104, Value.int IntKind.u8 105, Value.int IntKind.u8 106, Value.int IntKind.u8 107, Value.int IntKind.u8 105, Value.int IntKind.u8 106, Value.int IntKind.u8 107, Value.int IntKind.u8 108, Value.int IntKind.u8 106, Value.int IntKind.u8 107, Value.int IntKind.u8 108, Value.int IntKind.u8 109, Value.int IntKind.u8 107, Value.int IntKind.u8 108, Value.int IntKind.u8 109, Value.int IntKind.u8 110, Value.int IntKind.u8 108, Value.int IntKind.u8 109, Value.int IntKind.u8 110, Value.int IntKind.u8 111, Value.int IntKind.u8 109, Value.int IntKind.u8 110, Value.int IntKind.u8 111, Value.int IntKind.u8 112, Value.int IntKind.u8 110, Value.int IntKind.u8 111, Value.int IntKind.u8 112, Value.int IntKind.u8 113] = (bv t56).toArray := by kernel_rfl
theorem byte_of (s k j : Nat) (hs : s = k * k) (hj : j = (s + k / 2) % 256) : ∃ x : UInt8, j = x.toNat ∧ eb (k + 1) = eb k ++ [x] := by
  subst hs hj
  refine ⟨UInt8.ofNat (k * k + k / 2), ?_, rfl⟩
  rw [UInt8.toNat_ofNat']
set_option maxRecDepth 100000 in
set_option maxHeartbeats 4000000 in
theorem hashEnds_any (w : World) :
    Calls Try.prog 6 #[] w fun e w' => e = .returned (.bool true) ∧ Below w.heap.size w w' := by
  obtain ⟨i, hi, hz0, hz1, hz2⟩ := info_parts info_u8
  obtain ⟨ir, hir, rz0, rz1, rz2⟩ := info_parts info_row
  obtain ⟨R, hR⟩ : ∃ R, R = w.heap.size := ⟨_, rfl⟩
  have HR := hide hR
  clear hR
  go_enter Try.func6, Try.ntmps6
  go_wp2_with fail
  go_loopw [1, 2] (fun b n wr => ∃ k : Nat, k ≤ 140 ∧ n = .int .i64 (k : Int) ∧ wr.ownsRow R 5 1 b k (bv (eb k)) ∧ Below R w wr) (fun _ n _ => 140 - (intOf n).toNat)
  case atStart => exact ⟨0, by omega, rfl, ⟨rfl, .inl ⟨rfl, rfl⟩⟩, by rw [HR.out]; exact Below.refl _ _⟩
  case round =>
    obtain ⟨k, hk, rfl, ho, hb⟩ := hrel
    obtain ⟨A, cap, rfl⟩ := owned_slice ho
    by_cases hlt : k < 140
    · have hsq := sq_le k hlt
      obtain ⟨s, hs⟩ : ∃ s, s = k * k := ⟨_, rfl⟩
      have e1 : (k : Int) * (k : Int) = (s : Int) := by rw [hs]; exact (Int.natCast_mul k k).symm
      rw [← hs] at hsq
      have HO := hide (And.intro ho hb)
      have HS := hide hs
      clear ho hb hs
      go_wp2_with fail
      obtain ⟨q, hqe⟩ : ∃ q, q = s % (k + 1) := ⟨_, rfl⟩
      have hqi : (s : Int) % ((k : Int) + 1) = (q : Int) := by rw [hqe, Int.natCast_emod, Int.natCast_add]; rfl
      have hqk : q ≤ k := by have := Nat.mod_lt s (show 0 < k + 1 by omega); omega
      obtain ⟨m, hme⟩ : ∃ m, m = k % 5 := ⟨_, rfl⟩
      have hmi : (k : Int) % 5 = (m : Int) := by omega
      have hmk : m ≤ k := by omega
      have hm5 : m < 5 := by omega
      rw [hqi]
      clear hqe
      have hlen := length_eb k
      have hv := owned_len hlen HO.out.1
      have hnil := own_nil0 HO.out.1
      have hkc : k ≤ cap := by obtain ⟨_, _, e, h, _⟩ := hv; injection e with _ _ e; omega
      have bq := hv.take q (by omega)
      have bd := hv.drop q (by omega)
      have bm := hv.take m (by omega)
      have hq1 := run_slice_to (P := Try.prog) 26 5 Try.underlying26 size5 A k cap q (by omega)
      have hq2 := run_sliceAt_from (P := Try.prog) 26 5 Try.underlying26 size5 A k cap q hqk
      have hm1 := run_slice_to (P := Try.prog) 26 5 Try.underlying26 size5 A k cap m (by omega)
      obtain ⟨Ad, hAd⟩ : ∃ Ad, Ad = if cap = q then A else A.map (·.add q) := ⟨_, rfl⟩
      rw [← hAd] at hq2 bd
      have hdn : Ad = none → cap - q = 0 := by
        intro h
        rw [hAd] at h
        split at h
        · omega
        · cases hA : A with
          | none => have := hnil hA; omega
          | some a => rw [hA] at h; cases h
      obtain ⟨D, hD⟩ : ∃ D, D = Sha.sum (eb k) := ⟨_, rfl⟩
      have hDl : D.length = 32 := by rw [hD]; exact sum_len _
      have hfl3 : [(eb k).take q, [], (eb k).drop q].length + fl [(eb k).take q, [], (eb k).drop q] ≤ 6000 := by simp [fl, hlen]; omega
      have hfl2 : [eb k, (eb k).take q].length + fl [eb k, (eb k).take q] + (ByteArray.mk ((eb k).take m).toArray).size ≤ 6000 := by
        have e : (ByteArray.mk ((eb k).take m).toArray).size = ((eb k).take m).length := by simp [ByteArray.size]
        rw [e]
        simp [fl, hlen]; omega
      have hc23 := sums_made (ty := 26) (RowN.cons bq hnil (RowN.cons (bytes_none _ _) (fun _ => rfl) (RowN.cons bd hdn (RowN.nil _)))) hfl3
      have hc28 := sum_made2 (ty := 26) (RowOf.cons hv (RowOf.nil _ _)) (show [eb k].flatten = eb k by simp) (by omega) (by simp)
      rw [← hD] at hc28
      have hc39 := folds_made (ty := 26) D hDl _ (RowN.cons hv hnil (RowN.cons bq hnil (RowN.nil _))) hfl2
      have hcv : ∀ W, Ext wr W → (convert 26 9 (.slice A m cap)).run Try.prog W = .ok (.string ⟨((eb k).take m).toArray⟩) W := fun W hx => conv_any (bm.alike (alike_of_below hx)) hnil
      have hL : ∀ p ∈ ([(23, madeSlc wr.heap.size 26 #[.slice A q cap, .slice none 0 0, .slice Ad (k - q) (cap - q)]), (28, madeSlc wr.heap.size 26 #[.slice A k cap]), (39, madeSlc wr.heap.size 26 #[.slice A k cap, .slice A q cap])] : MadeL), MadeOk p.2 := by
        intro p hp
        simp only [List.mem_cons, List.not_mem_nil, or_false] at hp
        rcases hp with rfl | rfl | rfl <;> exact madeSlc_ok _ _ _
      refine wp_made 25 [(23, madeSlc wr.heap.size 26 #[.slice A q cap, .slice none 0 0, .slice Ad (k - q) (cap - q)]), (28, madeSlc wr.heap.size 26 #[.slice A k cap]), (39, madeSlc wr.heap.size 26 #[.slice A k cap, .slice A q cap])] (by kernel_rfl) (by kernel_rfl) hL (by simp) (by simp) ?_
      simp only [List.take_succ_cons, List.take_zero, List.drop_succ_cons, List.drop_zero]
      refine made_val (.slice A k cap) (by kernel_rfl) (by kernel_rfl) (by kernel_rfl) (fun _ _ => by kernel_rfl) ?_
      simp only [Act.put, List.setIfInBounds_toArray, List.set_cons_zero, List.set_cons_succ]
      refine made_val (.int .i64 (q : Int)) (by kernel_rfl) (by kernel_rfl) (by kernel_rfl) (fun _ _ => by kernel_rfl) ?_
      simp only [Act.put, List.setIfInBounds_toArray, List.set_cons_zero, List.set_cons_succ]
      refine made_val (.slice A q cap) (by kernel_rfl) (by kernel_rfl) (by kernel_rfl) (fun W _ => exec_slice 26 _ none (some _) none rfl _ hq1 W) ?_
      simp only [Act.put, List.setIfInBounds_toArray, List.set_cons_zero, List.set_cons_succ]
      refine made_val (.slice A k cap) (by kernel_rfl) (by kernel_rfl) (by kernel_rfl) (fun _ _ => by kernel_rfl) ?_
      simp only [Act.put, List.setIfInBounds_toArray, List.set_cons_zero, List.set_cons_succ]
      refine made_val (.int .i64 (q : Int)) (by kernel_rfl) (by kernel_rfl) (by kernel_rfl) (fun _ _ => by kernel_rfl) ?_
      simp only [Act.put, List.setIfInBounds_toArray, List.set_cons_zero, List.set_cons_succ]
      refine made_val (.slice Ad (k - q) (cap - q)) (by kernel_rfl) (by kernel_rfl) (by kernel_rfl) (fun W _ => exec_slice 26 _ (some _) none none rfl _ hq2 W) ?_
      simp only [Act.put, List.setIfInBounds_toArray, List.set_cons_zero, List.set_cons_succ]
      refine made_new 23 _ hL (by kernel_rfl) (by kernel_rfl) rfl rfl (new_slc (Nat.le_refl _) rfl (fun W => by kernel_rfl)) ?_
      simp only [Act.put, List.setIfInBounds_toArray, List.set_cons_zero, List.set_cons_succ]
      refine made_call1 23 _ (.bool true) 34 (fun u => #[u]) (by kernel_rfl) rfl (by kernel_rfl) (by kernel_rfl) (fun u W => by kernel_rfl) hc23 ?_
      simp only [Act.put, List.setIfInBounds_toArray, List.set_cons_zero, List.set_cons_succ]
      refine made_val (.bool false) (by kernel_rfl) (by kernel_rfl) (by kernel_rfl) (fun _ _ => by kernel_rfl) ?_
      simp only [Act.put, List.setIfInBounds_toArray, List.set_cons_zero, List.set_cons_succ]
      refine made_val (.bool false) (by kernel_rfl) (by kernel_rfl) (by kernel_rfl) (fun _ _ => by kernel_rfl) ?_
      simp only [Act.put, List.setIfInBounds_toArray, List.set_cons_zero, List.set_cons_succ]
      refine made_val (.slice A k cap) (by kernel_rfl) (by kernel_rfl) (by kernel_rfl) (fun _ _ => by kernel_rfl) ?_
      simp only [Act.put, List.setIfInBounds_toArray, List.set_cons_zero, List.set_cons_succ]
      refine made_new 28 _ hL (by kernel_rfl) (by kernel_rfl) rfl rfl (new_slc (Nat.le_refl _) rfl (fun W => by kernel_rfl)) ?_
      simp only [Act.put, List.setIfInBounds_toArray, List.set_cons_zero, List.set_cons_succ]
      refine made_call1 28 _ (.agg (bv D).toArray) 35 (fun u => #[u]) (by kernel_rfl) rfl (by kernel_rfl) (by kernel_rfl) (fun u W => by kernel_rfl) hc28 ?_
      simp only [Act.put, List.setIfInBounds_toArray, List.set_cons_zero, List.set_cons_succ]
      refine made_val (.slice A k cap) (by kernel_rfl) (by kernel_rfl) (by kernel_rfl) (fun _ _ => by kernel_rfl) ?_
      simp only [Act.put, List.setIfInBounds_toArray, List.set_cons_zero, List.set_cons_succ]
      refine made_val (.int .i64 (k : Int)) (by kernel_rfl) (by kernel_rfl) (by kernel_rfl) (fun _ _ => by kernel_rfl) ?_
      simp only [Act.put, List.setIfInBounds_toArray, List.set_cons_zero, List.set_cons_succ]
      refine made_val (.int .i64 (m : Int)) (by kernel_rfl) (by kernel_rfl) (by kernel_rfl) (fun W _ => exec_rem5 (.tmp 31) _ _ rfl k m (by omega) rfl rfl hmi W) ?_
      simp only [Act.put, List.setIfInBounds_toArray, List.set_cons_zero, List.set_cons_succ]
      refine made_val (.slice A m cap) (by kernel_rfl) (by kernel_rfl) (by kernel_rfl) (fun W _ => exec_slice 26 _ none (some _) none rfl _ hm1 W) ?_
      simp only [Act.put, List.setIfInBounds_toArray, List.set_cons_zero, List.set_cons_succ]
      refine made_val (.string ⟨((eb k).take m).toArray⟩) (by kernel_rfl) (by kernel_rfl) (by kernel_rfl) (fun W hx => exec_convert 26 9 (.tmp 33) rfl _ W (hcv W hx)) ?_
      simp only [Act.put, List.setIfInBounds_toArray, List.set_cons_zero, List.set_cons_succ]
      refine made_val (.slice A k cap) (by kernel_rfl) (by kernel_rfl) (by kernel_rfl) (fun _ _ => by kernel_rfl) ?_
      simp only [Act.put, List.setIfInBounds_toArray, List.set_cons_zero, List.set_cons_succ]
      refine made_val (.slice A k cap) (by kernel_rfl) (by kernel_rfl) (by kernel_rfl) (fun _ _ => by kernel_rfl) ?_
      simp only [Act.put, List.setIfInBounds_toArray, List.set_cons_zero, List.set_cons_succ]
      refine made_val (.int .i64 (q : Int)) (by kernel_rfl) (by kernel_rfl) (by kernel_rfl) (fun _ _ => by kernel_rfl) ?_
      simp only [Act.put, List.setIfInBounds_toArray, List.set_cons_zero, List.set_cons_succ]
      refine made_val (.slice A q cap) (by kernel_rfl) (by kernel_rfl) (by kernel_rfl) (fun W _ => exec_slice 26 _ none (some _) none rfl _ hq1 W) ?_
      simp only [Act.put, List.setIfInBounds_toArray, List.set_cons_zero, List.set_cons_succ]
      refine made_new 39 _ hL (by kernel_rfl) (by kernel_rfl) rfl rfl (new_slc (Nat.le_refl _) rfl (fun W => by kernel_rfl)) ?_
      simp only [Act.put, List.setIfInBounds_toArray, List.set_cons_zero, List.set_cons_succ]
      refine made_call1 39 _ (.bool true) 5 (fun u => #[.agg (bv D).toArray, .string ⟨((eb k).take m).toArray⟩, u]) (by kernel_rfl) rfl (by kernel_rfl) (by kernel_rfl) (fun u W => by kernel_rfl) hc39 ?_
      simp only [Act.put, List.setIfInBounds_toArray, List.set_cons_zero, List.set_cons_succ]
      refine made_val (.bool false) (by kernel_rfl) (by kernel_rfl) (by kernel_rfl) (fun _ _ => by kernel_rfl) ?_
      simp only [Act.put, List.setIfInBounds_toArray, List.set_cons_zero, List.set_cons_succ]
      show ∀ w', _ → _
      intro w2 hx2
      simp only [ended, List.nil_append, List.cons_append]
      intro u23 _ _ u28 _ _ u39 _ _
      simp only [Act.put, List.setIfInBounds_toArray, List.set_cons_zero, List.set_cons_succ]
      have own2 : w2.ownsRow R 5 1 (.slice A k cap) k (bv (eb k)) := owned_keep HO.out.1 fun g hg hlt => hx2.block g hlt
      have hb2 : Below R w w2 := HO.out.2.trans (hx2.mono (by have := HO.out.2.size; have := HR.out; omega))
      obtain ⟨x, hx, heb⟩ := byte_of s k _ HS.out rfl
      have hxm : ((s : Int) + (k : Int) / 2) % 256 = (x.toNat : Int) := by rw [← hx, Int.natCast_emod, Int.natCast_add, Int.natCast_ediv]; rfl
      have hsz2 : R ≤ w2.heap.size := by have := hx2.size; have := HO.out.2.size; have := HR.out; omega
      have HEB := hide heb
      have H2 := hide (And.intro own2 hb2)
      clear own2 hb2 heb hx hx2 hc23 hc28 hc39 hcv hL hv bq bd bm hq1 hq2 hm1 hAd hdn hfl2 hfl3 hD hDl hlen hnil
      go_wp2_with (at_builtin; (refine wpList_app (o := ⟨some 52, _, _, _, _, _⟩) rfl (.tmp 43) (.tmp 51) 26 rfl R 5 i (.int .u8 0) 1 Try.underlying26 hi hz0 hz1 hz2 rfl (.slice A k cap) k (bv (eb k)) (H2.out.1.alloc _) _ 1 1 [.int .u8 (x.toNat : Int)] (src_one _ _ _ rfl) ?h1 ?h2 ?h3 rfl rfl ?_))
      case h1 => simp only [maxLen]; omega
      case h2 => omega
      case h3 => rw [size_alloc]; omega
      intro v3 w3 own3 gr3 _ _
      have hb3 : Below R w w3 := (H2.out.2.alloc hsz2 _).grown gr3 (by rw [size_alloc]; omega) (fun g hg => (owned_lt H2.out.1 hg).1)
      obtain ⟨A3, k3, rfl⟩ := owned_slice own3
      have H3 := hide (And.intro own3 hb3)
      clear own3 gr3 hb3
      simp only [Act.put, List.setIfInBounds_toArray, List.set_cons_zero, List.set_cons_succ]
      go_wp2_with fail
      go_roundw
      case rel =>
        refine ⟨k + 1, by omega, by go_num, ?_, H3.out.2⟩
        rw [HEB.out, bvA]
        exact H3.out.1
      case measure => simp [intOf]; omega
    · clear ho
      have HB := hide hb
      clear hb
      go_wp2_with fail
      go_loopw [4] (fun v wr2 => ∃ j : Nat, j ≤ 256 ∧ v = .int .i64 (j : Int) ∧ Below R w wr2) (fun v _ => 256 - (intOf v).toNat)
      case atStart => exact ⟨0, by omega, rfl, HB.out⟩
      case round =>
        obtain ⟨j, hj, rfl, hb⟩ := hrel
        have HB2 := hide hb
        clear hb
        by_cases hjl : j < 256
        · obtain ⟨x, rfl⟩ : ∃ x : UInt8, j = x.toNat := ⟨UInt8.ofNat j, by rw [UInt8.toNat_ofNat']; omega⟩
          have hx1 : (x.toNat : Int) % 256 = (x.toNat : Int) := by omega
          have hrows := hide (one_rows wr x)
          have hR2 : R ≤ wr.heap.size := by have := HB2.out.size; have := HR.out; omega
          go_wp2_with (go_at_call 34; refine (hashSums_small [[x]] (by simp [fl]) _ _ (wr.heap.size + 1 + 1) (by simp only [size_alloc]; omega) hrows.out).mono ?_; rintro e w1 ⟨rfl, hb1⟩; have HB3 := hide hb1; clear hb1)
          go_roundw
          case rel => exact ⟨x.toNat + 1, by omega, by go_num, (HB2.out.alloc hR2 _ |>.alloc (by rw [size_alloc]; omega) _).trans (HB3.out.mono (by simp only [size_alloc]; omega))⟩
          case measure => simp [intOf]; omega
        · clear HB
          go_wp2_with fail
          go_loopw [5, 6] (fun v i wr3 => ∃ (k3 : Nat) (us : List Value), k3 ≤ 1000 ∧ i = .int .i64 (k3 : Int) ∧ TRow wr3 R v us (List.replicate k3 (List.replicate 100 97)) ∧ Below R w wr3) (fun _ i _ => 1000 - (intOf i).toNat)
          case atStart => exact ⟨0, [], by omega, rfl, ⟨⟨rfl, .inl ⟨rfl, rfl⟩⟩, rfl, fun j hj => absurd hj (by simp)⟩, HB2.out⟩
          case round =>
            obtain ⟨k3, us, hk3, rfl, hrow, hb⟩ := hrel
            obtain ⟨A3, c3, rfl⟩ := owned_slice hrow.own
            have hus : us.length = k3 := by rw [hrow.len]; simp
            have hR3 : R ≤ wr.heap.size := by have := hb.size; have := HR.out; omega
            have HX := hide (And.intro hrow (And.intro hb hus))
            clear hrow hb hus
            by_cases hkl : k3 < 1000
            · clear HB2
              go_wp2_with fail
              refine (letters_any 100 (by omega) _).mono ?_
              rintro e w1 ⟨rfl, hbk, hb1⟩
              have hR4 : R ≤ w1.heap.size := by have := hb1.size; omega
              have H1 := hide (And.intro hbk hb1)
              clear hbk hb1
              dsimp only
              go_wp2_with (at_builtin; (refine wpList_app (o := ⟨some 70, _, _, _, _, _⟩) rfl (.tmp 67) (.tmp 69) 48 rfl R 26 ir (.slice none 0 0) 24 Try.underlying48 hir rz0 rz1 rz2 rfl (.slice A3 us.length c3) us.length us ((HX.out.1.keep H1.out.2).own.alloc _) _ 1 1 [.slice (some ⟨wr.heap.size, 0, none⟩) 100 100] (src_one _ _ _ rfl) ?h1 ?h2 ?h3 rfl rfl ?_))
              case h1 => have := HX.out.2.2; simp only [maxLen]; omega
              case h2 => have := HX.out.2.2; omega
              case h3 => rw [size_alloc]; omega
              intro v4 w4 own4 gr4 _ _
              have hal : Below w1.heap.size w1 (w1.alloc (.cells #[.slice (some ⟨wr.heap.size, 0, none⟩) 100 100] 26)) := (Below.refl _ _).alloc (Nat.le_refl _) _
              have hrow4 : TRow w4 R v4 (us ++ [.slice (some ⟨wr.heap.size, 0, none⟩) 100 100]) (List.replicate (k3 + 1) (List.replicate 100 97)) := by
                rw [List.replicate_succ']
                refine ((HX.out.1.keep H1.out.2).keep hal).grow (fun g hg => (owned_lt HX.out.1.own hg).1) own4 gr4 rfl fun j hj => ?_
                have : j = 0 := by simp at hj; omega
                subst this
                exact (TB.of_blk H1.out.1 (by simp)).below hal
              have hb4 : Below R w w4 := ((HX.out.2.1.trans (H1.out.2.mono hR3)).trans (hal.mono hR4)).grown gr4 (by rw [size_alloc]; omega) (fun g hg => (owned_lt HX.out.1.own hg).1)
              obtain ⟨A4, c4, rfl⟩ := owned_slice own4
              have H4 := hide (And.intro hrow4 hb4)
              clear own4 gr4 hal hrow4 hb4
              go_wp2_with fail
              go_roundw
              case rel => exact ⟨k3 + 1, _, by omega, by go_num, by simpa using H4.out.1, H4.out.2⟩
              case measure => simp [intOf]; omega
            · obtain rfl : k3 = 1000 := by omega
              clear HB2
              have hcv := fun (w : World) (C : Array Value) (n c : Nat) => Lib.run_convert_bytes_const (P := Try.prog) w 26 5 C n c Try.underlying26 Try.underlying5
              go_wp2_with fail
              rw [bv56]
              obtain ⟨C, hC⟩ : ∃ C, C = (bv t56).toArray := ⟨_, rfl⟩
              rw [← hC]
              have hpt := one_parts ((wr.alloc (.cells C 5 (56, 57))).alloc (.cells #[.slice (some ⟨wr.heap.size, 0, none⟩) 56 56] 26)) wr.heap.size (wr.heap.size + 1) (wr.heap.size + 1 + 1) 56 t56 rfl (by omega) (by omega) (fun j => ((World.cell?_alloc_lt _ _ _ (by simp only [size_alloc]; omega)).trans (World.cell?_alloc_mark wr _ 5 (56, 57) j)).trans (by rw [hC])) (Blk.new1 _ _ _ _)
              have HPT := hide hpt
              have hbl : Below R w ((wr.alloc (.cells C 5 (56, 57))).alloc (.cells #[.slice (some ⟨wr.heap.size, 0, none⟩) 56 56] 26)) := (HX.out.2.1.alloc hR3 _).alloc (by rw [size_alloc]; omega) _
              have hrow : TRow ((wr.alloc (.cells C 5 (56, 57))).alloc (.cells #[.slice (some ⟨wr.heap.size, 0, none⟩) 56 56] 26)) R (.slice A3 us.length c3) us (List.replicate 1000 (List.replicate 100 97)) := (HX.out.1.keep ((Below.refl _ _).alloc (Nat.le_refl _) _)).keep ((Below.refl _ _).alloc (Nat.le_refl _) _)
              obtain ⟨W0, hW0⟩ : ∃ W0, W0 = (wr.alloc (.cells C 5 (56, 57))).alloc (.cells #[.slice (some ⟨wr.heap.size, 0, none⟩) 56 56] 26) := ⟨_, rfl⟩
              have hs0 : W0.heap.size = wr.heap.size + 1 + 1 := by rw [hW0]; simp only [size_alloc]
              rw [← hW0] at HPT hbl hrow ⊢
              have H0 := hide (And.intro hbl hrow)
              have HS0 := hide hs0
              clear hpt hW0 hbl hrow hs0
              refine (sum_any [t56] (by decide) (by decide) _ _ (wr.heap.size + 1 + 1) (by rw [HS0.out]; exact Nat.le_refl _) HPT.out).mono ?_
              rintro e w1 ⟨rfl, hb1⟩
              have HB1 := hide hb1
              clear hb1
              dsimp only
              obtain ⟨L, hL⟩ : ∃ L, L = Sha.sum ([t56] : List (List UInt8)).flatten := ⟨_, rfl⟩
              rw [← hL]
              have HL : Hid (L = Sha.sum t56) := hide (hL.trans (by rw [List.flatten_cons, List.flatten_nil, List.append_nil]))
              clear hL
              go_wp2_with fail
              refine (begins_any L 0x24 0x8d 0x6a 0x61 (by rw [HL.out]; exact sum56.1) (by rw [HL.out]; exact sum56.2.1) (by rw [HL.out]; exact sum56.2.2.1) (by rw [HL.out]; exact sum56.2.2.2) _ _ _ _ rfl rfl rfl rfl _).mono ?_
              rintro e w2 ⟨rfl, hb2⟩
              have HB2 := hide hb2
              clear hb2
              dsimp only
              go_wp2_with fail
              obtain ⟨M, hM⟩ : ∃ M, M = Sha.sum (List.replicate 100000 (97 : UInt8)) := ⟨_, rfl⟩
              have hMl : M.length = 32 := by rw [hM]; exact sum_len _
              have hfr : (List.replicate 1000 (List.replicate 100 (97 : UInt8))).flatten = List.replicate 100000 97 := flat_rep 1000
              have hrow2 := (H0.out.2.keep HB1.out).keep (HB2.out.mono (Nat.le_refl _))
              have hp2 := hrow2.parts
              refine (sum_any (List.replicate 1000 (List.replicate 100 97)) (by rw [hfr, List.length_replicate]; omega) (by rw [List.length_replicate]; omega) _ _ w2.heap.size (Nat.le_refl _) (by have e : us.length = (List.replicate 1000 (List.replicate 100 (97 : UInt8))).length := hrow2.len; exact hp2)).mono ?_
              rintro e w3 ⟨rfl, hb3⟩
              rw [hfr, ← hM]
              have HB3 := hide hb3
              have HM := hide hM
              clear hb3 hp2 hrow2 hfr hM
              dsimp only
              go_wp2_with fail
              refine (letters_any 100000 (by omega) _).mono ?_
              rintro e w4 ⟨rfl, hbk, hb4⟩
              have hp4 := one_parts (w4.alloc (.cells #[.slice (some ⟨w3.heap.size, 0, none⟩) 100000 100000] 26)) w3.heap.size w4.heap.size (w4.heap.size + 1) 100000 (List.replicate 100000 97) (List.length_replicate ..) (by have := hbk.lt; omega) (by omega) (fun j => (hbk.alloc _).cell j) (Blk.new _ _ _)
              have H4 := hide (And.intro hp4 hb4)
              clear hbk hb4 hp4
              dsimp only
              go_wp2_with fail
              refine (sum_any [List.replicate 100000 97] (by rw [List.flatten_cons, List.flatten_nil, List.append_nil, List.length_replicate]; omega) (show 1 ≤ 1099511627000 by omega) _ _ (w4.heap.size + 1) (by rw [size_alloc]; omega) H4.out.1).mono ?_
              rintro e w5 ⟨rfl, hb5⟩
              rw [List.flatten_cons, List.flatten_nil, List.append_nil, ← HM.out]
              have HB5 := hide hb5
              clear hb5
              dsimp only
              have heq := run_eql_bv (P := Try.prog) 53 5 32 Try.underlying53 Try.underlying5 size5 M M hMl hMl
              rw [show (M == M) = true by simp] at heq
              go_wp2_with fail
              refine (awake_any _).mono ?_
              rintro e w6 ⟨rfl, hb6⟩
              have HB6 := hide hb6
              clear hb6
              dsimp only
              go_wp2_with fail
              go_ret
              have hRw := HR.out
              have b0 := H0.out.1
              have s0 := b0.size
              have b1 := b0.trans (HB1.out.mono (by omega))
              have s1 := b1.size
              have b2 := b1.trans (HB2.out.mono (by omega))
              have s2 := b2.size
              have b3 := b2.trans (HB3.out.mono (by omega))
              have s3 := b3.size
              have b4 := (b3.trans (H4.out.2.mono (by omega))).alloc (by have := (b3.trans (H4.out.2.mono (by omega))).size; omega) (.cells #[.slice (some ⟨w3.heap.size, 0, none⟩) 100000 100000] 26)
              have s4 := b4.size
              have b5 := b4.trans (HB5.out.mono (by omega))
              have s5 := b5.size
              have b6 := b5.trans (HB6.out.mono (by omega))
              refine ⟨rfl, ?_⟩
              rw [← hRw]
              exact b6
end Go.Proofs.Ytjmenaplgndnnaa
