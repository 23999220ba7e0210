/- The walk of the document's digest (spenceref02.Digest). -/
import Derived.Test.YtjmenaplgndnnaaRefC
namespace Go.Proofs.Ytjmenaplgndnnaa
open Go.RowKit
section
variable {P : Program} {ρ : Operand → Value} {o : Oper}
theorem exec_load_blk (ty : TypeId) (x : Operand) (ho : o.op = .load ty x) (g : Nat) (hx : ρ x = .pointer (some ⟨g, 0, none⟩)) (t : TypeId) (cs : Array Value) (n : Nat) (e : TypeId) (hu : P.underlying ty = some (.array n e)) (hi : (P.info? ty).map (·.size) = some cs.size) (W : World) (hb : Blk W g t cs) :
    (execOp ρ o).run P W = .ok (.value (.agg cs)) W := by
  unfold execOp
  simp only [ho, hx, Instr.loadAt, Instr.sureAddr, Sem.run_bind, Sem.run_pure, Result.andThen_ok, run_loadVar_row W g t ty cs (0, 0) _ hb hu rfl hi]
end
theorem run_slA64 (b off n cap q : Nat) (h1 : 64 * q + 64 ≤ n) (h2 : n ≤ cap) (w : World) :
    (Instr.sliceAt 26 (.slice (some ⟨b, off, none⟩) n cap) (some (.int .i64 ((64 * q : Nat) : Int))) (some (.int .i64 ((64 * q + 64 : Nat) : Int))) none).run Try.prog w = .ok (.slice (some ⟨b, off + 64 * q, none⟩) 64 (cap - 64 * q)) w := by
  have e2 : Try.prog.elem 26 = 5 := by simp [Program.elem, Try.underlying26]
  have hs : (Try.prog.info? 5).map (·.size) = some 1 := size5
  rw [run_sliceAt_slice w 26 _ _ _ _ (by rw [e2]; exact Try.underlying26)]
  have h := run_slice_lh (P := Try.prog) w 26 (some ⟨b, off, none⟩) n cap (by rw [e2]; exact Try.underlying26) .i64 .i64 ((64 * q : Nat) : Int) ((64 * q + 64 : Nat) : Int) (by omega) (by omega) (by omega)
  have h3 : ¬ cap = 64 * q := by omega
  have h4 : 64 * q + 64 - 64 * q = 64 := by omega
  rw [h, e2, size_run 5 hs, Result.andThen_ok, sliced, Int.toNat_natCast, Int.toNat_natCast, h4]
  simp [h3, Addr.add_mid]
set_option maxRecDepth 100000 in
set_option maxHeartbeats 1000000 in
theorem digest_any (c : List UInt8) (hc : c.length ≤ 1000000000) (A : Option Addr) (cap B : Nat) (w : World) (hB : B ≤ w.heap.size) (hv : BytesAt w B (.slice A c.length cap) c) (hnil : A = none → cap = 0) :
    Calls Try.prog 56 #[.slice A c.length cap] w fun e w' => e = .returned (.agg (bv (Sha.sum c)).toArray) ∧ Below w.heap.size w w' := by
  have HV := hide hv
  clear hv
  obtain ⟨R, hR⟩ : ∃ R, R = w.heap.size := ⟨_, rfl⟩
  have HR := hide hR
  clear hR
  obtain ⟨D, hD⟩ : ∃ D, D = Value.agg (bv (Sha.sum c)).toArray := ⟨_, rfl⟩
  rw [← hD]
  have HD := hide hD
  clear hD
  go_enter Try.func56, Try.ntmps56
  go_step
  go_step
  apply wp_region_lit
  refine wpList_value (o := ⟨some 2, _, _, _, _, _⟩) rfl (.pointer (some ⟨R, 0, none⟩)) (w.alloc (.cells z32 53)) (by rw [HR.out]; kernel_rfl) ?_
  dsimp only [Act.put, List.setIfInBounds_toArray, List.set_cons_zero, List.set_cons_succ]
  obtain ⟨w1, hw1⟩ : ∃ w1, w1 = w.alloc (.cells z32 53) := ⟨_, rfl⟩
  have hb1 : Blk w1 R 53 z32 := by rw [hw1, HR.out]; exact Blk.new _ _ _
  have hbl1 : Below R w w1 := by rw [hw1, HR.out]; exact (Below.refl _ _).alloc (Nat.le_refl _) _
  have hs1 : R + 1 = w1.heap.size := by rw [hw1, HR.out]; simp
  rw [← hw1]
  clear hw1
  go_step
  go_step
  go_step
  go_step
  apply wp_region_lit
  refine wpList_value (o := ⟨some 8, _, _, _, _, _⟩) rfl (.agg (x8 Sha.first)) w1 (by kernel_rfl) ?_
  dsimp only [Act.put, List.setIfInBounds_toArray, List.set_cons_zero, List.set_cons_succ]
  refine wpList_value (o := ⟨some 3, _, _, _, _, _⟩) rfl (.pointer (some ⟨w1.heap.size, 0, none⟩)) (w1.alloc (.cells z8 106)) (by kernel_rfl) ?_
  dsimp only [Act.put, List.setIfInBounds_toArray, List.set_cons_zero, List.set_cons_succ]
  refine wpList_store_blkA (o := ⟨none, .store 106 (.tmp 3) (.tmp 8), _, _, _, _⟩) rfl 106 (.tmp 3) (.tmp 8) rfl w1.heap.size z8 (x8 Sha.first) 106 (Blk.new _ _ _) (x8_info _) (by rw [← x8_uv]; exact z8_size _ rfl) (x8_one _) rfl rfl ?_
  intro w2 hx2 hg2
  dsimp only [Act.put]
  obtain ⟨X, hX⟩ : ∃ X, X = w1.heap.size := ⟨_, rfl⟩
  rw [← hX] at hx2 hg2 ⊢
  have hs2 := hg2.size
  simp only [size_alloc] at hs2
  have hRX : R < X := by omega
  have hb2 : Blk w2 R 53 z32 := (hb1.alloc (.cells z8 106)).grown hg2 (by intro e; injection e with e; omega)
  have hbl2 : Below R w w2 := (hbl1.alloc (by omega) _).grown hg2 (by rw [size_alloc]; omega) (by intro k hk; injection hk with hk; omega)
  have HX2 := hide (And.intro hx2 (And.intro hb2 hbl2))
  have hX2 : X < w2.heap.size := by omega
  have HX := hide (And.intro hX hs1)
  clear hx2 hb2 hbl2 hg2 hb1 hbl1 hs2 hX hs1
  go_wp2_with fail
  refine (padded_any c hc A cap B _ (HV.out.alike (alike_of_below (HX2.out.2.2.mono (by rw [HR.out]; exact hB)))) hnil).mono ?_
  rintro e w4 ⟨v4, rfl, own4, hb4⟩
  obtain ⟨L, hL⟩ : ∃ L, L = Sha.pad c := ⟨_, rfl⟩
  rw [← hL] at own4
  have hL0 : 0 < L.length := by rw [hL, Sha.length_pad]; omega
  have hL1 : L.length ≤ 1000000200 := by rw [hL, Sha.length_pad]; have := noughts_lt c.length; omega
  obtain ⟨A4, cap4, rfl⟩ := owned_slice own4
  obtain ⟨A4', cap4', he, hc4, hcell4⟩ := bytesAt_owned own4
  injection he with e1 e2 e3
  subst e1 e3
  obtain ⟨b, off, rfl, hbl, hcell⟩ := hcell4 hL0
  have hbX : X < b := by have h := (owned_lt own4 rfl).1; change w2.heap.size ≤ b at h; omega
  obtain ⟨Q, hQ⟩ : ∃ Q, L.length = 64 * Q := ⟨L.length / 64, by have := Sha.pad_mod c; rw [hL]; omega⟩
  have hx4 : Blk w4 X 106 (x8 Sha.first) := HX2.out.1.below hb4 hX2
  have hr4 : Blk w4 R 53 z32 := HX2.out.2.1.below hb4 (by omega)
  have hbl4 : Below R w w4 := HX2.out.2.2.trans (hb4.mono (by omega))
  have hs4 := hb4.size
  obtain ⟨n, hn⟩ : ∃ n, n = L.length := ⟨_, rfl⟩
  rw [← hn] at hc4 hL0 hL1 hQ ⊢
  have HX4 := hide (And.intro hx4 (And.intro hr4 (And.intro hbl4 (And.intro hcell hn))))
  have HL := hide hL
  have HQ := hide hQ
  clear hx4 hr4 hbl4 hcell hn hL own4 hb4 hcell4 hQ
  dsimp only
  go_wp2_with fail
  go_loopw [5] (fun i wr => ∃ q : Nat, q ≤ Q ∧ i = .int .i64 ((64 * q : Nat) : Int) ∧ Blk wr X 106 (x8 (Sha.stN L q)) ∧ w4.grownBy wr (some X)) (fun i _ => n - (intOf i).toNat)
  case atStart => exact ⟨0, by omega, rfl, HX4.out.1, World.grownBy.refl _ _⟩
  case round =>
    obtain ⟨q, hq, rfl, hbk, hgr⟩ := hrel
    by_cases hlt : q < Q
    · obtain ⟨i, hi⟩ : ∃ i, i = 64 * q := ⟨_, rfl⟩
      have hin : i + 64 ≤ n := by have := HQ.out; omega
      have i1 : (i : Int) < (n : Int) := by omega
      have i2 : ((64 * q : Nat) : Int) = (i : Int) := by omega
      rw [i2]
      obtain ⟨st, hst⟩ : ∃ st, st = Sha.stN L q := ⟨_, rfl⟩
      rw [← hst] at hbk
      obtain ⟨Bq, hBq⟩ : ∃ Bq, Bq = (L.drop i).take 64 := ⟨_, rfl⟩
      have hBl : Bq.length = 64 := by rw [hBq, List.length_take, List.length_drop, ← HX4.out.2.2.2.2]; omega
      have hbc : ∀ j, j < 64 → wr.cell? ⟨b, (off + i) + j, none⟩ = some (.int .u8 ((Bq.getD j 0).toNat : Int)) := by
        intro j hj
        have e : Bq.getD j 0 = L.getD (i + j) 0 := by
          rw [hBq, List.getD_eq_getElem?_getD, List.getD_eq_getElem?_getD, List.getElem?_take_of_lt hj, List.getElem?_drop]
        rw [e, Nat.add_assoc]
        have hlt' : i + j < L.length := by rw [← HX4.out.2.2.2.2]; omega
        exact (World.cell?_of_block (hgr.block b hbl (by intro e; injection e with e; omega))).trans (HX4.out.2.2.2.1 (i + j) hlt')
      have hsl := fun W => run_slA64 b off n cap4 q (by omega) hc4 W
      rw [i2, show ((64 * q + 64 : Nat) : Int) = ((i + 64 : Nat) : Int) by omega, ← hi] at hsl
      have hcall := fun (W : World) (hx : Ext wr W) => rblock_any st Bq hBl b (off + i) 64 (cap4 - i) (Nat.le_refl _) (by omega) W (fun j hj => (hx.cell (p := ⟨b, (off + i) + j, none⟩) (by have := hgr.size; show b < _; omega)).trans (hbc j hj))
      have HI := hide (And.intro hi i2)
      have HS := hide (And.intro hst hBq)
      have HBK := hide hbk
      clear hi i2 hst hBq hbk hbc
      go_wp2_with fail
      refine wp_made 7 [] (by kernel_rfl) (by kernel_rfl) (by intro p hp; cases hp) List.nodup_nil (by intro t ht; cases ht) ?_
      simp only [List.take_succ_cons, List.take_zero, List.drop_succ_cons, List.drop_zero]
      refine made_val (.agg (x8 st)) (by kernel_rfl) (by kernel_rfl) (by kernel_rfl) (fun W hx => exec_load_blk 106 _ rfl X rfl 106 (x8 st) _ _ Try.underlying106 (x8_info _) W (HBK.out.below hx HBK.out.lt)) ?_
      simp only [Act.put, List.setIfInBounds_toArray, List.set_cons_zero, List.set_cons_succ]
      refine made_val (.slice (some ⟨b, off, none⟩) n cap4) (by kernel_rfl) (by kernel_rfl) (by kernel_rfl) (fun _ _ => by kernel_rfl) ?_
      simp only [Act.put, List.setIfInBounds_toArray, List.set_cons_zero, List.set_cons_succ]
      refine made_val (.int .i64 (i : Int)) (by kernel_rfl) (by kernel_rfl) (by kernel_rfl) (fun _ _ => by kernel_rfl) ?_
      simp only [Act.put, List.setIfInBounds_toArray, List.set_cons_zero, List.set_cons_succ]
      refine made_val (.int .i64 (i : Int)) (by kernel_rfl) (by kernel_rfl) (by kernel_rfl) (fun _ _ => by kernel_rfl) ?_
      simp only [Act.put, List.setIfInBounds_toArray, List.set_cons_zero, List.set_cons_succ]
      refine made_val (.int .i64 (IntKind.i64.wrap ((i : Int) + 64))) (by kernel_rfl) (by kernel_rfl) (by kernel_rfl) (fun _ _ => by kernel_rfl) ?_
      rw [show IntKind.i64.wrap ((i : Int) + 64) = ((i + 64 : Nat) : Int) from IntWalk.i64_in _ (by omega)]
      simp only [Act.put, List.setIfInBounds_toArray, List.set_cons_zero, List.set_cons_succ]
      refine made_val (.slice (some ⟨b, off + i, none⟩) 64 (cap4 - i)) (by kernel_rfl) (by kernel_rfl) (by kernel_rfl) (fun W _ => exec_slice 26 _ (some _) (some _) none rfl _ hsl W) ?_
      simp only [Act.put, List.setIfInBounds_toArray, List.set_cons_zero, List.set_cons_succ]
      refine made_call (.agg (x8 (Sha.comp st Bq))) 87 #[.agg (x8 st), .slice (some ⟨b, off + i, none⟩) 64 (cap4 - i)] (by kernel_rfl) (by kernel_rfl) (by kernel_rfl) (fun W => by kernel_rfl) hcall ?_
      simp only [Act.put, List.setIfInBounds_toArray, List.set_cons_zero, List.set_cons_succ]
      show ∀ w', _ → _
      intro w5 hx5
      simp only [ended]
      refine wpList_store_blkA (o := ⟨none, .store 106 (.tmp 3) (.tmp 23), _, _, _, _⟩) rfl 106 (.tmp 3) (.tmp 23) rfl X (x8 st) (x8 (Sha.comp st Bq)) 106 (HBK.out.below hx5 HBK.out.lt) (x8_info _) (x8_size _ _) (x8_one _) rfl rfl ?_
      intro w6 hk6 hg6
      dsimp only [Act.put]
      have HK6 := hide (And.intro hk6 hg6)
      clear hk6 hg6 hcall hsl
      go_wp2_with fail
      go_roundw
      case rel =>
        refine ⟨q + 1, by omega, ?_, ?_, ?_⟩
        · have := HI.out.1; first | go_num | (congr 1; omega)
        · rw [Sha.stN, ← HS.out.1, show 64 * q = i from HI.out.1.symm, ← HS.out.2]
          exact HK6.out.1
        · exact only_trans hgr (only_trans ⟨hx5.os, hx5.tape, hx5.output, hx5.size, fun k hk _ => hx5.block k hk⟩ HK6.out.2)
      case measure => simp [intOf]; omega
    · obtain rfl : q = Q := by omega
      have i2 : ((64 * q : Nat) : Int) = (n : Int) := by have := HQ.out; omega
      rw [i2]
      obtain ⟨st, hst⟩ : ∃ st, st = Sha.stN L q := ⟨_, rfl⟩
      rw [← hst] at hbk
      have HST := hide hst
      have HBK := hide hbk
      clear hst hbk i2
      go_wp2_with fail
      have hgw : Below R w wr := HX4.out.2.2.1.grown hgr (by have := HX4.out.2.1.lt; omega) (by intro k hk; injection hk with hk; omega)
      have hRr : Blk wr R 53 z32 := HX4.out.2.1.grown hgr (by intro e; injection e with e; omega)
      obtain ⟨Z, hZ⟩ : ∃ Z, Z = wr.heap.size := ⟨_, rfl⟩
      obtain ⟨w7, hw7⟩ : ∃ w7, w7 = wr.alloc (.cells (ov st 0) 53) := ⟨_, rfl⟩
      have hXZ : X < Z := by rw [hZ]; exact HBK.out.lt
      have hb7 : Below Z wr w7 := by rw [hw7, hZ]; exact (Below.refl _ _).alloc (Nat.le_refl _) _
      have hz7 : Blk w7 Z 53 (ov st 0) := by rw [hw7, hZ]; exact Blk.new _ _ _
      have hx7 : Blk w7 X 106 (x8 st) := HBK.out.below hb7 hXZ
      have hR7 : Blk w7 R 53 z32 := hRr.below hb7 (by omega)
      have hbw7 : Below R w w7 := hgw.trans (hb7.mono (by omega))
      rw [← hZ]
      change Code.wp _ _ _ _ (wr.alloc (.cells (ov st 0) 53))
      rw [← hw7]
      have H7 := hide (And.intro hz7 (And.intro hx7 (And.intro hR7 hbw7)))
      clear hgw hRr hZ hw7 hb7 hz7 hx7 hR7 hbw7 HBK hgr
      go_loopw [7] (fun v wr => ∃ i : Nat, i ≤ 32 ∧ v = .int .i64 (i : Int) ∧ Blk wr Z 53 (ov st i) ∧ w7.grownBy wr (some Z)) (fun v _ => (32 - intOf v).toNat)
      case atStart => exact ⟨0, by omega, rfl, H7.out.1, World.grownBy.refl _ _⟩
      case round =>
        obtain ⟨i, hi, rfl, hri, hgz⟩ := hrel
        by_cases h32 : i < 32
        · obtain ⟨p, hp⟩ : ∃ p, p = i / 4 := ⟨_, rfl⟩
          obtain ⟨r, hr⟩ : ∃ r, r = i % 4 := ⟨_, rfl⟩
          have hp4 : (i : Int) / 4 = (p : Int) := by omega
          have hp4' : (i : Int).tdiv 4 = (p : Int) := by rw [Int.tdiv_eq_ediv_of_nonneg (by omega), hp4]
          have hr4 : (i : Int) % 4 = (r : Int) := by omega
          have hr4' : (i : Int).tmod 4 = (r : Int) := by rw [Int.tmod_eq_emod_of_nonneg (by omega), hr4]
          have hp8 : p < 8 := by omega
          have hr3 : r ≤ 3 := by omega
          have hr5 : (r : Int) ≤ 3 := by omega
          have hr6 : (0 : Int) ≤ (r : Int) := by omega
          have i0 : (0 : Int) ≤ (i : Int) := by omega
          have i1 : (i : Int) < 32 := by omega
          have cp := ((H7.out.2.1.grown hgz (by intro e; injection e with e; omega)).cell p).trans (uv_get st.list p hp8)
          have cR := hri.cell i
          rw [ov_get st i h32] at cR
          have fR := hri.frozen i
          obtain ⟨x, hx⟩ : ∃ x, x = st.list.getD p 0 := ⟨_, rfl⟩
          rw [← hx] at cp
          have HX' := hide (And.intro hx (And.intro hp hr))
          have HRI := hide hri
          clear hx hp hr hri
          go_wp2_with fail
          go_roundw
          case rel =>
            refine ⟨i + 1, by omega, by go_num, ?_, only_setCell hgz (.inl rfl) _⟩
            have h3 := HRI.out.set_ i (.int .u8 (((Sha.out st).getD i 0).toNat : Int))
            rw [ov_set st i h32] at h3
            rw [out_byte st i x p r h32 HX'.out]
            exact h3
          case measure => simp [intOf]; omega
        · obtain rfl : i = 32 := by omega
          have e32 : ov st 32 = (bv (Sha.out st)).toArray := by unfold ov; rw [List.take_of_length_le (by rw [length_out]; exact Nat.le_refl _)]; simp
          rw [e32] at hri
          have hsz : (Try.prog.info? 53).map (·.size) = some (bv (Sha.out st)).toArray.size := by rw [List.size_toArray, bv, List.length_map, length_out]; exact size27
          have hzs : z32.size = (bv (Sha.out st)).toArray.size := by simp [z32, bv, length_out]
          have hRz : Blk wr R 53 z32 := H7.out.2.2.1.grown hgz (by intro e; injection e with e; omega)
          have HRZ := hide hRz
          have HK := hide hri
          clear hri hRz
          go_wp2_with (first
            | ((with_reducible refine wpList_load_blk (o := ⟨some 40, _, _, _, _, _⟩) rfl 53 (.tmp 6) rfl Z 53 (bv (Sha.out st)).toArray _ _ HK.out Try.underlying53 hsz ?_ ?_); rfl; dsimp only [Act.put, List.setIfInBounds_toArray, List.set_cons_zero, List.set_cons_succ])
            | ((with_reducible refine wpList_store_blkA (o := ⟨none, _, _, _, _, _⟩) rfl 53 (.tmp 2) (.tmp 40) rfl R z32 (bv (Sha.out st)).toArray 53 HRZ.out hsz hzs (bv_one _) ?_ ?_ ?_); rfl; rfl; intro w9 h9 hg9; dsimp only [Act.put]))
          have hR0 := HR.out
          have hgs := hgz.size
          have hbs := H7.out.2.2.2.size
          have hRl := H7.out.2.2.1.lt
          refine bodyPost_ret (results_cell_blk rfl _ _ R 53 (bv (Sha.out st)).toArray _ _ rfl h9 Try.underlying53 hsz) rfl ⟨?_, ?_⟩
          · have h1 : (Sha.pad c).length = n := by rw [HX4.out.2.2.2.2, HL.out]
            have h2 : (Sha.pad c).length / 64 = q := by have := HQ.out; omega
            rw [HD.out, Sha.sum, h2, HST.out, HL.out]
          · rw [← hR0]
            exact ((H7.out.2.2.2).grown hgz (by omega) (by intro k hk; injection hk with hk; omega)).grown hg9 (by omega) (by intro k hk; injection hk with hk; omega)
end Go.Proofs.Ytjmenaplgndnnaa
