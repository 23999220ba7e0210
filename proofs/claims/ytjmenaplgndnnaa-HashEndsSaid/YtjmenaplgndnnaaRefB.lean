/- The walk of the document's block (spenceref02.block). -/
import Derived.Test.YtjmenaplgndnnaaRefA
namespace Go.Proofs.Ytjmenaplgndnnaa
open Go.RowKit
theorem run_sl4 (b off n cap t : Nat) (h1 : 4 * t < n) (h2 : n ≤ cap) (w : World) :
    (Instr.slice 26 (.slice (some ⟨b, off, none⟩) n cap) (some (.int .i64 (4 * (t : Int)))) none none).run Try.prog w = .ok (.slice (some ⟨b, off + 4 * t, none⟩) (n - 4 * t) (cap - 4 * t)) w := by
  have h := run_slice_from (P := Try.prog) 26 5 Try.underlying26 size5 (some ⟨b, off, none⟩) n cap (4 * t) (by omega) w
  rw [if_neg (by omega)] at h
  rw [show (4 * (t : Int)) = ((4 * t : Nat) : Int) by omega, h]
  simp [Addr.add_mid]
theorem run_slA4 (b off n cap t : Nat) (h1 : 4 * t < n) (h2 : n ≤ cap) (w : World) :
    (Instr.sliceAt 26 (.slice (some ⟨b, off, none⟩) n cap) (some (.int .i64 (4 * (t : Int)))) none none).run Try.prog w = .ok (.slice (some ⟨b, off + 4 * t, none⟩) (n - 4 * t) (cap - 4 * t)) w := by
  have h := run_sliceAt_from (P := Try.prog) 26 5 Try.underlying26 size5 (some ⟨b, off, none⟩) n cap (4 * t) (by omega) w
  rw [if_neg (by omega)] at h
  rw [show (4 * (t : Int)) = ((4 * t : Nat) : Int) by omega, h]
  simp [Addr.add_mid]

theorem turn_of (x : Sha.W) (k : Nat) (K : Int) (hK : K = (k : Int)) (h1 : 1 ≤ k) (h2 : k ≤ 31) (w : World) (n : Nat) :
    Calls Try.prog 114 #[.int .u32 (U x), .int .i64 K] (w.drewN n) fun e w' => e = .returned (.int .u32 (U (x.rotateRight k))) ∧ ∃ m, w' = w.drewN m := by
  subst hK
  exact Calls.quiet_of (turn_any x k h1 h2 _)
theorem s0_eq (x : Sha.W) : U (x.rotateRight 7 ^^^ x.rotateRight 18 ^^^ x >>> 3) = U (Sha.mix x [7, 18] ^^^ x >>> 3) := by simp [Sha.mix]
theorem s1_eq (x : Sha.W) : U (x.rotateRight 17 ^^^ x.rotateRight 19 ^^^ x >>> 10) = U (Sha.mix x [17, 19] ^^^ x >>> 10) := by simp [Sha.mix]
theorem U_not (x : Sha.W) : bits .xor .u32 4294967295 (U x) = U (~~~x) := by
  have h := U_xor (4294967295 : Sha.W) x
  rw [show U (4294967295 : Sha.W) = 4294967295 from rfl] at h
  rw [h]
  exact congrArg U (BitVec.allOnes_xor (x := x))
theorem ch_eq (e f g : Sha.W) : (e &&& f) ||| (~~~e &&& g) = g ^^^ (e &&& (f ^^^ g)) := by
  apply BitVec.eq_of_getLsbD_eq
  intro i hi
  simp only [BitVec.getLsbD_or, BitVec.getLsbD_and, BitVec.getLsbD_xor, BitVec.getLsbD_not, hi, decide_true, Bool.true_and]
  cases e.getLsbD i <;> cases f.getLsbD i <;> cases g.getLsbD i <;> rfl
theorem maj_eq (a b c : Sha.W) : ((a &&& b) ||| (a &&& c)) ||| (b &&& c) = (a &&& (b ||| c)) ||| (b &&& c) := by
  apply BitVec.eq_of_getLsbD_eq
  intro i hi
  simp only [BitVec.getLsbD_or, BitVec.getLsbD_and]
  cases a.getLsbD i <;> cases b.getLsbD i <;> cases c.getLsbD i <;> rfl
/-- the two sums of a round, as the document tells them -/
def pp (st : Sha.St) (kt wt : Sha.W) : Sha.W := st.h + (st.e.rotateRight 6 ^^^ st.e.rotateRight 11 ^^^ st.e.rotateRight 25) + ((st.e &&& st.f) ||| (~~~st.e &&& st.g)) + kt + wt
def qq (st : Sha.St) : Sha.W := (st.a.rotateRight 2 ^^^ st.a.rotateRight 13 ^^^ st.a.rotateRight 22) + (((st.a &&& st.b) ||| (st.a &&& st.c)) ||| (st.b &&& st.c))
theorem pp_eq (st : Sha.St) (kt wt : Sha.W) : pp st kt wt = Sha.rp st kt wt := by simp [pp, Sha.rp, Sha.mix, ch_eq]
theorem qq_eq (st : Sha.St) : qq st = Sha.rq st := by simp [qq, Sha.rq, Sha.mix, maj_eq]
theorem pp_law (st : Sha.St) (kt wt : Sha.W) :
    ((U st.h + U (st.e.rotateRight 6 ^^^ st.e.rotateRight 11 ^^^ st.e.rotateRight 25) +
      bits BinOp.or IntKind.u32 (U (st.e &&& st.f)) (bits BinOp.and IntKind.u32 (bits BinOp.xor IntKind.u32 (if IntKind.u32.signed = true then -1 else IntKind.u32.max) (U st.e)) (U st.g)) +
      U kt) % 4294967296 + U wt) % 4294967296 = U (pp st kt wt) := by
  rw [if_neg (by decide), show IntKind.u32.max = 4294967295 from rfl, U_not, U_and, U_or]
  unfold pp
  rw [← U_add', ← U_add', ← U_add', ← U_add']
  simp only [Int.emod_add_emod]
theorem x8_info (s : Sha.St) : (Try.prog.info? 106).map (·.size) = some (x8 s).size := by
  have h : (Try.prog.info? 106).map (·.size) = some 8 := by kernel_rfl
  rw [h]; rfl
theorem x8_size (s t : Sha.St) : (x8 s).size = (x8 t).size := rfl
theorem x8_one (s : Sha.St) : (x8 s).all (·.oneCell') = true := by rw [← x8_uv]; exact uv_one _
theorem addN_all (s t : Sha.St) : addN t.list s.list 8 = (s.add t).list := by
  have e : addN t.list s.list 8 = [t.a + s.a, t.b + s.b, t.c + s.c, t.d + s.d, t.e + s.e, t.f + s.f, t.g + s.g, t.h + s.h] := rfl
  rw [e]
  simp only [BitVec.add_comm t.a, BitVec.add_comm t.b, BitVec.add_comm t.c, BitVec.add_comm t.d, BitVec.add_comm t.e, BitVec.add_comm t.f, BitVec.add_comm t.g, BitVec.add_comm t.h]
  rfl
theorem uv8_info (l : List Sha.W) (h : l.length = 8) : (Try.prog.info? 106).map (·.size) = some (uv l).size := by
  have h2 : (Try.prog.info? 106).map (·.size) = some 8 := by kernel_rfl
  rw [h2, uv_size, h]
def z8 : Array Value := uv (List.replicate 8 0)
theorem z8_size (l : List Sha.W) (h : l.length = 8) : z8.size = (uv l).size := by unfold z8; rw [uv_size, uv_size, h]; rfl
set_option maxRecDepth 100000 in
set_option maxHeartbeats 1000000 in
theorem rblock_any (s : Sha.St) (B : List UInt8) (_hB : B.length = 64) (b off n cap : Nat) (hn : 64 ≤ n) (hcap : n ≤ cap) (w : World)
    (hc : ∀ j, j < 64 → w.cell? ⟨b, off + j, none⟩ = some (.int .u8 ((B.getD j 0).toNat : Int))) :
    Calls Try.prog 87 #[.agg (x8 s), .slice (some ⟨b, off, none⟩) n cap] w fun e w' => e = .returned (.agg (x8 (Sha.comp s B))) ∧ Below w.heap.size w w' := by
  have hb : b < w.heap.size := World.block_lt_of_cell? w _ (hc 0 (by omega))
  have HC := hide hc
  clear hc
  obtain ⟨N, hN⟩ : ∃ N, N = w.heap.size := ⟨_, rfl⟩
  have HN := hide hN
  clear hN
  obtain ⟨R, hR⟩ : ∃ R, R = Value.agg (x8 (Sha.comp s B)) := ⟨_, rfl⟩
  rw [← hR]
  have HR := hide hR
  clear hR
  go_enter Try.func87, Try.ntmps87
  unfold x8
  go_wp2_with (refine wpList_alloc64 ?_; dsimp only [Act.put, List.setIfInBounds_toArray, List.set_cons_zero, List.set_cons_succ])
  rw [← HN.out]
  obtain ⟨w3, hw3⟩ : ∃ w3, w3 = ((w.alloc (.cells (x8 s) 106)).alloc (.cells z8 106)).alloc (.cells uz 216) := ⟨_, rfl⟩
  have hs3 : N + 3 = w3.heap.size := by rw [hw3, HN.out]; simp
  have hxs : Blk w3 N 106 (x8 s) := by rw [hw3, HN.out]; exact ((Blk.new _ _ _).alloc _).alloc _
  have hxr : Blk w3 (N + 1) 106 z8 := by rw [hw3, HN.out]; exact (Blk.new1 _ _ _ _).alloc _
  have hxw : Blk w3 (N + 1 + 1) 216 (uv (wz B 0)) := by
    rw [hw3, HN.out, show w.heap.size + 1 + 1 = ((w.alloc (.cells (x8 s) 106)).alloc (.cells z8 106)).heap.size by simp]
    exact Blk.new _ _ _
  have hb3 : Below N w w3 := by rw [hw3, HN.out]; exact (((Below.refl _ _).alloc (Nat.le_refl _) _).alloc (by simp) _).alloc (by simp; omega) _
  refine Eq.mp (congrArg _ hw3) ?_
  clear hw3
  obtain ⟨X, hX⟩ : ∃ X, X = N + 1 + 1 := ⟨_, rfl⟩
  rw [← hX] at hxw ⊢
  have hNX : N + 1 < X := by omega
  have hsX : X + 1 = w3.heap.size := by omega
  have HX := hide hX
  have HXS := hide hxs
  have HXR := hide hxr
  have HXW := hide hxw
  have HB3 := hide hb3
  clear hX hxs hxr hxw hb3 hs3
  have hb0 : b < N := by rw [HN.out]; exact hb
  go_loopw [6] (fun i wr => ∃ t : Nat, t ≤ 16 ∧ i = .int .i64 t ∧ Blk wr X 216 (uv (wz B t)) ∧ Below X w3 wr) (fun i _ => 16 - (intOf i).toNat)
  case atStart => exact ⟨0, by omega, rfl, HXW.out, Below.refl _ _⟩
  case round =>
    obtain ⟨t, ht, rfl, hbk, hbel⟩ := hrel
    by_cases h16 : t < 16
    · have hcell : ∀ j, j < 64 → wr.cell? ⟨b, off + j, none⟩ = some (.int .u8 ((B.getD j 0).toNat : Int)) := fun j hj => (hbel.cell (show b < X by omega)).trans ((HB3.out.cell hb0).trans (HC.out j hj))
      have c0 := hcell (4 * t) (by omega)
      have c1 := hcell (4 * t + 1) (by omega)
      have c2 := hcell (4 * t + 2) (by omega)
      have c3 := hcell (4 * t + 3) (by omega)
      clear hcell
      have cX := hbk.cell t
      rw [uv_get _ _ (by rw [length_wz _ _ (by omega)]; omega)] at cX
      have fX := hbk.frozen t
      have hsl := run_sl4 b off n cap t (by omega) hcap
      have hslA := run_slA4 b off n cap t (by omega) hcap
      have i1 : (0 : Int) ≤ (t : Int) := by omega
      have i2 : (t : Int) < 64 := by omega
      have HBK := hide hbk
      clear hbk
      generalize hx0 : B.getD (4 * t) 0 = x0 at *
      generalize hx1 : B.getD (4 * t + 1) 0 = x1 at *
      generalize hx2 : B.getD (4 * t + 2) 0 = x2 at *
      generalize hx3 : B.getD (4 * t + 3) 0 = x3 at *
      have hrw := rword_any [x0, x1, x2, x3] rfl b (off + 4 * t) (n - 4 * t) (cap - 4 * t) (by omega) wr (by
        intro j hj
        match j, hj with
        | 0, _ => exact c0
        | 1, _ => exact c1
        | 2, _ => exact c2
        | 3, _ => exact c3)
      rw [word_hv B t x0 x1 x2 x3 ⟨hx0, hx1, hx2, hx3⟩] at hrw
      have HRW := hide hrw
      clear hx0 hx1 hx2 hx3 c0 c1 c2 c3 hrw
      go_wp2_with (go_at_call 113; refine HRW.out.mono ?_; rintro e w' ⟨rfl, rfl⟩)
      go_roundw
      case rel =>
        refine ⟨t + 1, by omega, by go_num, ?_, hbel.setCell (Nat.le_refl _) _⟩
        have := HBK.out.set_ t (.int .u32 (U (Sha.word B t)))
        rwa [uv_set, wz_step B t _ (by omega) (by simp [Sha.ws, h16])] at this
      case measure => simp [intOf]; omega
    · obtain rfl : t = 16 := by omega
      have HBK := hide hbk
      clear hbk
      go_wp2_with fail
      clear h16
      go_loopw [7] (fun i wr => ∃ t : Nat, 16 ≤ t ∧ t ≤ 64 ∧ i = .int .i64 t ∧ Blk wr X 216 (uv (wz B t)) ∧ Below X w3 wr) (fun i _ => 64 - (intOf i).toNat)
      case atStart => exact ⟨16, by omega, by omega, rfl, HBK.out, hbel⟩
      case round =>
        clear hbel HBK ht
        obtain ⟨t, ht1, ht, rfl, hbk, hbel⟩ := hrel
        by_cases h64 : t < 64
        · have h16 : ¬ t < 16 := by omega
          have hl := length_wz B t ht
          have hcell : ∀ j, j < t → wr.cell? ⟨X, j, none⟩ = some (.int .u32 (U ((Sha.ws B t).getD j 0))) := fun j hj => by
            rw [hbk.cell, uv_get _ _ (by omega), wz_get _ _ _ hj]
          have c2 := hcell (t - 2) (by omega)
          have c15 := hcell (t - 15) (by omega)
          have c7 := hcell (t - 7) (by omega)
          have c16 := hcell (t - 16) (by omega)
          clear hcell
          obtain ⟨v0, hv0⟩ : ∃ v0, v0 = Value.int .u32 (U ((wz B t).getD t 0)) := ⟨_, rfl⟩
          have cX := hbk.cell t
          rw [uv_get _ _ (by rw [hl]; omega), ← hv0] at cX
          clear hv0
          have fX := hbk.frozen t
          generalize hx2 : (Sha.ws B t).getD (t - 2) 0 = x2 at *
          generalize hx15 : (Sha.ws B t).getD (t - 15) 0 = x15 at *
          generalize hx7 : (Sha.ws B t).getD (t - 7) 0 = x7 at *
          generalize hx16 : (Sha.ws B t).getD (t - 16) 0 = x16 at *
          have HX4 := hide (And.intro hx2 (And.intro hx15 (And.intro hx7 hx16)))
          clear hx2 hx15 hx7 hx16 hl
          have HB := hide hbk
          clear hbk
          have i0 : (0 : Int) ≤ (t : Int) := by omega
          have i1 : (t : Int) < 64 := by omega
          have n15 : (0 : Int) ≤ (t : Int) - 15 := by omega
          have l15 : (t : Int) - 15 < 64 := by omega
          have m15 : IntKind.i64.wrap ((t : Int) - 15) = (t : Int) - 15 := IntWalk.i64_in _ (by omega)
          have o15 : ((t : Int) - 15).toNat = t - 15 := by omega
          have n2 : (0 : Int) ≤ (t : Int) - 2 := by omega
          have l2 : (t : Int) - 2 < 64 := by omega
          have m2 : IntKind.i64.wrap ((t : Int) - 2) = (t : Int) - 2 := IntWalk.i64_in _ (by omega)
          have o2 : ((t : Int) - 2).toNat = t - 2 := by omega
          have n7 : (0 : Int) ≤ (t : Int) - 7 := by omega
          have l7 : (t : Int) - 7 < 64 := by omega
          have m7 : IntKind.i64.wrap ((t : Int) - 7) = (t : Int) - 7 := IntWalk.i64_in _ (by omega)
          have o7 : ((t : Int) - 7).toNat = t - 7 := by omega
          have n16 : (0 : Int) ≤ (t : Int) - 16 := by omega
          have l16 : (t : Int) - 16 < 64 := by omega
          have m16 : IntKind.i64.wrap ((t : Int) - 16) = (t : Int) - 16 := IntWalk.i64_in _ (by omega)
          have o16 : ((t : Int) - 16).toNat = t - 16 := by omega
          have p15 : (15 : Int) ≤ (t : Int) := by omega
          have p2 : (2 : Int) ≤ (t : Int) := by omega
          have p7 : (7 : Int) ≤ (t : Int) := by omega
          have p16 : (16 : Int) ≤ (t : Int) := by omega
          have a1 := U_xor (x15.rotateRight 7) (x15.rotateRight 18)
          have a2 := U_xor (x15.rotateRight 7 ^^^ x15.rotateRight 18) (x15 >>> 3)
          have a3 := U_shr3' x15
          have a4 := U_xor (x2.rotateRight 17) (x2.rotateRight 19)
          have a5 := U_xor (x2.rotateRight 17 ^^^ x2.rotateRight 19) (x2 >>> 10)
          have a6 := U_shr10' x2
          go_wp2_with fail
          go_quiet (first
            | (go_at_call 114; with_reducible exact turn_of x15 7 7 rfl (by decide) (by decide) _ _)
            | (go_at_call 114; with_reducible exact turn_of x15 18 18 rfl (by decide) (by decide) _ _))
          obtain ⟨w6, hw6⟩ : ∃ w6, w6 = wr.drewN nq := ⟨_, rfl⟩
          have d2 : w6.cell? ⟨X, t - 2, none⟩ = some (.int .u32 (U x2)) := by rw [hw6]; exact c2
          have d7 : w6.cell? ⟨X, t - 7, none⟩ = some (.int .u32 (U x7)) := by rw [hw6]; exact c7
          have d16 : w6.cell? ⟨X, t - 16, none⟩ = some (.int .u32 (U x16)) := by rw [hw6]; exact c16
          have dX : w6.cell? ⟨X, t, none⟩ = some v0 := by rw [hw6]; exact cX
          have eX : w6.frozen? ⟨X, t, none⟩ = false := by rw [hw6]; exact fX
          have hb6 : Blk w6 X 216 (uv (wz B t)) := by rw [hw6]; exact HB.out.drewN _
          have hbel6 : Below X w3 w6 := by rw [hw6]; exact below_drewN hbel _
          rw [← hw6]
          have HB6 := hide hb6
          clear hw6 hb6 hbel c2 c7 c15 c16 cX fX HB
          go_wp2_with fail
          go_quiet (first
            | (go_at_call 114; with_reducible exact turn_of x2 17 17 rfl (by decide) (by decide) _ _)
            | (go_at_call 114; with_reducible exact turn_of x2 19 19 rfl (by decide) (by decide) _ _))
          rename_i n1
          have b1 := U_add (x2.rotateRight 17 ^^^ x2.rotateRight 19 ^^^ x2 >>> 10) x7
          have b2 := U_add ((x2.rotateRight 17 ^^^ x2.rotateRight 19 ^^^ x2 >>> 10) + x7) (x15.rotateRight 7 ^^^ x15.rotateRight 18 ^^^ x15 >>> 3)
          have b3 := U_add ((x2.rotateRight 17 ^^^ x2.rotateRight 19 ^^^ x2 >>> 10) + x7 + (x15.rotateRight 7 ^^^ x15.rotateRight 18 ^^^ x15 >>> 3)) x16
          go_wp2_with fail
          refine wp_quiet_tail_drewN 15 (by kernel_rfl) (by kernel_rfl) ?_
          simp only [List.take_succ_cons, List.take_zero, List.drop_succ_cons, List.drop_zero]
          repeat (go_big_quiet_step (fail))
          refine wpQuiet_nil ?_
          intro n3
          go_wp2_with fail
          go_roundw
          case rel =>
            obtain ⟨g2, g15, g7, g16⟩ := HX4.out
            refine ⟨t + 1, by omega, by omega, by go_num, ?_, ?_⟩
            · rw [← wz_step B t ((x2.rotateRight 17 ^^^ x2.rotateRight 19 ^^^ x2 >>> 10) + x7 + (x15.rotateRight 7 ^^^ x15.rotateRight 18 ^^^ x15 >>> 3) + x16) h64 (by rw [Sha.ws, if_neg h16, g2, g15, g7, g16]; simp [Sha.mix]), ← uv_set]
              first | exact (HB6.out.drewN _).set_ t _ | (simp only [U_add', U_add]; exact (HB6.out.drewN _).set_ t _)
            · exact (below_drewN hbel6 _).setCell (Nat.le_refl _) _
          case measure => simp [intOf]; omega
        · obtain rfl : t = 64 := by omega
          have HB := hide hbk
          clear hbk
          go_wp2_with fail
          refine (rks_any _).mono ?_
          rintro e w5 ⟨rfl, hb5⟩
          dsimp only
          go_step
          refine wpList_alloc64 ?_
          dsimp only [Act.put, List.setIfInBounds_toArray, List.set_cons_zero, List.set_cons_succ]
          refine wpList_store_blkA (o := ⟨none, .store 216 (.tmp 10) (.tmp 80), _, _, _, _⟩) rfl 216 (.tmp 10) (.tmp 80) rfl w5.heap.size uz (uv Sha.ks) 216 (Blk.new w5 216 uz) size_ks uz_ks (uv_one _) rfl rfl ?_
          intro w6 hk6 hg6
          obtain ⟨Y, hY⟩ : ∃ Y, Y = w5.heap.size := ⟨_, rfl⟩
          have hl6 := hg6.size
          simp only [size_alloc] at hl6
          have hXr : X < wr.heap.size := HB.out.lt
          have hs5 := hb5.size
          have hbel6 : Below X w3 w6 := Below.grown ((hbel.trans (hb5.mono (Nat.le_of_lt hXr))).alloc (by omega) _) hg6 (by simp only [size_alloc]; omega) (by intro k hk; injection hk with hk; omega)
          have hws6 : Blk w6 X 216 (uv (wz B 64)) := ((HB.out.below hb5 hXr).alloc (.cells uz 216)).grown hg6 (by intro h; injection h with h; omega)
          have hxs6 : Blk w6 N 106 (x8 s) := HXS.out.below hbel6 (by omega)
          have hxr6 : Blk w6 (N + 1) 106 z8 := HXR.out.below hbel6 hNX
          rw [← hY] at hk6 hl6 ⊢
          have hXY : X < Y := by omega
          have c0 : w6.cell? ⟨N, 0, none⟩ = some (.int .u32 (U s.a)) := hxs6.cell 0
          have c1 : w6.cell? ⟨N, 1, none⟩ = some (.int .u32 (U s.b)) := hxs6.cell 1
          have c2 : w6.cell? ⟨N, 2, none⟩ = some (.int .u32 (U s.c)) := hxs6.cell 2
          have c3 : w6.cell? ⟨N, 3, none⟩ = some (.int .u32 (U s.d)) := hxs6.cell 3
          have c4 : w6.cell? ⟨N, 4, none⟩ = some (.int .u32 (U s.e)) := hxs6.cell 4
          have c5 : w6.cell? ⟨N, 5, none⟩ = some (.int .u32 (U s.f)) := hxs6.cell 5
          have c6 : w6.cell? ⟨N, 6, none⟩ = some (.int .u32 (U s.g)) := hxs6.cell 6
          have c7 : w6.cell? ⟨N, 7, none⟩ = some (.int .u32 (U s.h)) := hxs6.cell 7
          have HK6 := hide hk6
          have HWS6 := hide hws6
          have HXS6 := hide hxs6
          have HXR6 := hide hxr6
          have HBEL6 := hide hbel6
          clear hk6 hws6 hxs6 hg6 hxr6 hY hbel6 hbel hb5 hs5 HB hXr
          dsimp only [Act.put]
          go_wp2_with fail
          obtain ⟨Z, hZ⟩ : ∃ Z, Z = w6.heap.size := ⟨_, rfl⟩
          obtain ⟨w7, hw7⟩ : ∃ w7, w7 = w6.alloc (.cells (x8 s) 106) := ⟨_, rfl⟩
          have hz7 : Blk w7 Z 106 (x8 s) := by rw [hw7, hZ]; exact Blk.new _ _ _
          have hb7 : Below Z w6 w7 := by rw [hw7, hZ]; exact (Below.refl _ _).alloc (Nat.le_refl _) _
          have hz8 : Z + 1 = w7.heap.size := by rw [hw7, hZ]; simp
          unfold x8 at hw7
          rw [← hZ, ← hw7]
          have hYZ : Y < Z := by omega
          have HZ7 := hide hz7
          have HB7 := hide hb7
          clear hZ hw7 hz7 hb7 hz8 c0 c1 c2 c3 c4 c5 c6 c7 hl6 h64 ht1 ht
          go_loopw [12] (fun i wr => ∃ t : Nat, t ≤ 64 ∧ i = .int .i64 t ∧ Blk wr Z 106 (x8 (Sha.rnds s B t)) ∧ Below Z w6 wr) (fun i _ => 64 - (intOf i).toNat)
          case atStart => exact ⟨0, by omega, rfl, HZ7.out, HB7.out⟩
          case round =>
            obtain ⟨t, ht, rfl, hbk, hbel⟩ := hrel
            by_cases h64 : t < 64
            · obtain ⟨st, hst⟩ : ∃ st, st = Sha.rnds s B t := ⟨_, rfl⟩
              rw [← hst] at hbk
              have HST := hide hst
              clear hst
              obtain ⟨kt, hkt⟩ : ∃ kt, kt = Sha.ks.getD t 0 := ⟨_, rfl⟩
              obtain ⟨wt, hwt⟩ : ∃ wt, wt = (Sha.ws B 64).getD t 0 := ⟨_, rfl⟩
              have ck : wr.cell? ⟨Y, t, none⟩ = some (.int .u32 (U kt)) := by
                rw [((HK6.out.below hbel hYZ).cell t), uv_get _ _ (by exact h64), hkt]
              have cw : wr.cell? ⟨X, t, none⟩ = some (.int .u32 (U wt)) := by
                rw [((HWS6.out.below hbel (by omega)).cell t), uv_get _ _ (by rw [length_wz _ _ (Nat.le_refl _)]; exact h64), wz_get _ _ _ h64, hwt]
              have HKT := hide (And.intro hkt hwt)
              clear hkt hwt
              have c0 : wr.cell? ⟨Z, 0, none⟩ = some (.int .u32 (U st.a)) := hbk.cell 0
              have c1 : wr.cell? ⟨Z, 1, none⟩ = some (.int .u32 (U st.b)) := hbk.cell 1
              have c2 : wr.cell? ⟨Z, 2, none⟩ = some (.int .u32 (U st.c)) := hbk.cell 2
              have c3 : wr.cell? ⟨Z, 3, none⟩ = some (.int .u32 (U st.d)) := hbk.cell 3
              have c4 : wr.cell? ⟨Z, 4, none⟩ = some (.int .u32 (U st.e)) := hbk.cell 4
              have c5 : wr.cell? ⟨Z, 5, none⟩ = some (.int .u32 (U st.f)) := hbk.cell 5
              have c6 : wr.cell? ⟨Z, 6, none⟩ = some (.int .u32 (U st.g)) := hbk.cell 6
              have c7 : wr.cell? ⟨Z, 7, none⟩ = some (.int .u32 (U st.h)) := hbk.cell 7
              have HBK := hide hbk
              clear hbk
              have e1 := U_xor (st.e.rotateRight 6) (st.e.rotateRight 11)
              have e2 := U_xor (st.e.rotateRight 6 ^^^ st.e.rotateRight 11) (st.e.rotateRight 25)
              have e3 := U_and st.e st.f
              have e4 := U_not st.e
              have e5 := U_and (~~~st.e) st.g
              have e6 := U_or (st.e &&& st.f) (~~~st.e &&& st.g)
              have n0 : (0 : Int) ≤ (t : Int) := by omega
              have n1 : (t : Int) < 64 := by omega
              go_wp2_with fail
              go_quiet (first
                | (go_at_call 114; with_reducible exact turn_of st.e 6 6 rfl (by decide) (by decide) _ _)
                | (go_at_call 114; with_reducible exact turn_of st.e 11 11 rfl (by decide) (by decide) _ _)
                | (go_at_call 114; with_reducible exact turn_of st.e 25 25 rfl (by decide) (by decide) _ _))
              rw [pp_law]
              obtain ⟨w8, hw8⟩ : ∃ w8, w8 = wr.drewN nq := ⟨_, rfl⟩
              obtain ⟨pv, hpv⟩ : ∃ pv, pv = pp st kt wt := ⟨_, rfl⟩
              rw [← hw8, ← hpv]
              have d0 : w8.cell? ⟨Z, 0, none⟩ = some (.int .u32 (U st.a)) := by rw [hw8]; exact c0
              have d1 : w8.cell? ⟨Z, 1, none⟩ = some (.int .u32 (U st.b)) := by rw [hw8]; exact c1
              have d2 : w8.cell? ⟨Z, 2, none⟩ = some (.int .u32 (U st.c)) := by rw [hw8]; exact c2
              have d3 : w8.cell? ⟨Z, 3, none⟩ = some (.int .u32 (U st.d)) := by rw [hw8]; exact c3
              have d4 : w8.cell? ⟨Z, 4, none⟩ = some (.int .u32 (U st.e)) := by rw [hw8]; exact c4
              have d5 : w8.cell? ⟨Z, 5, none⟩ = some (.int .u32 (U st.f)) := by rw [hw8]; exact c5
              have d6 : w8.cell? ⟨Z, 6, none⟩ = some (.int .u32 (U st.g)) := by rw [hw8]; exact c6
              have hbk8 : Blk w8 Z 106 (x8 st) := by rw [hw8]; exact HBK.out.drewN _
              have hbel8 : Below Z w6 w8 := by rw [hw8]; exact below_drewN hbel _
              have HBK8 := hide hbk8
              have HPV := hide hpv
              clear hpv hbk8 hw8 c0 c1 c2 c3 c4 c5 c6 c7 ck cw HBK hbel e1 e2 e3 e4 e5 e6
              have e1 := U_xor (st.a.rotateRight 2) (st.a.rotateRight 13)
              have e2 := U_xor (st.a.rotateRight 2 ^^^ st.a.rotateRight 13) (st.a.rotateRight 22)
              have e3 := U_and st.a st.b
              have e4 := U_and st.a st.c
              have e5 := U_and st.b st.c
              have e6 := U_or (st.a &&& st.b) (st.a &&& st.c)
              have e7 := U_or ((st.a &&& st.b) ||| (st.a &&& st.c)) (st.b &&& st.c)
              have e8 : (U (st.a.rotateRight 2 ^^^ st.a.rotateRight 13 ^^^ st.a.rotateRight 22) + U (((st.a &&& st.b) ||| (st.a &&& st.c)) ||| (st.b &&& st.c))) % 4294967296 = U (qq st) := U_add' _ _
              go_wp2_with fail
              go_quiet (first
                | (go_at_call 114; with_reducible exact turn_of st.a 2 2 rfl (by decide) (by decide) _ _)
                | (go_at_call 114; with_reducible exact turn_of st.a 13 13 rfl (by decide) (by decide) _ _)
                | (go_at_call 114; with_reducible exact turn_of st.a 22 22 rfl (by decide) (by decide) _ _))
              try rw [e8]
              rename_i n9
              obtain ⟨qv, hqv⟩ : ∃ qv, qv = qq st := ⟨_, rfl⟩
              rw [← hqv]
              have HQV := hide hqv
              have f1 := U_add' pv qv
              have f2 := U_add' st.d pv
              clear hqv e1 e2 e3 e4 e5 e6 e7 e8
              go_wp2_with ((with_reducible refine wpList_store_blkA (o := ⟨none, .store 106 (.tmp 11) (.tmp 169), _, _, _, _⟩) rfl 106 (.tmp 11) (.tmp 169) rfl Z (x8 st) (x8 ⟨pv + qv, st.a, st.b, st.c, st.d + pv, st.e, st.f, st.g⟩) 106 (HBK8.out.drewN _) (x8_info _) (x8_size _ _) (x8_one _) ?_ ?_ ?_); (focus rfl); (focus rfl); intro w9 hk9 hg9; dsimp only [Act.put])
              go_roundw
              case rel =>
                refine ⟨t + 1, by omega, by go_num, ?_, Below.grown (below_drewN hbel8 _) hg9 (by rw [World.heap_drewN]; have := HBK8.out.lt; have := hbel8.size; omega) (by intro k hk; injection hk with hk; omega)⟩
                have e : Sha.rnds s B (t + 1) = ⟨pv + qv, st.a, st.b, st.c, st.d + pv, st.e, st.f, st.g⟩ := by
                  rw [Sha.rnds, ← HST.out, ← HKT.out.1, ← HKT.out.2, HPV.out, HQV.out, pp_eq, qq_eq]
                  rfl
                rw [e]
                exact hk9
              case measure => simp [intOf]; omega
            · obtain rfl : t = 64 := by omega
              obtain ⟨st, hst⟩ : ∃ st, st = Sha.rnds s B 64 := ⟨_, rfl⟩
              rw [← hst] at hbk
              have HST := hide hst
              have HB := hide hbk
              have hxs9 : Blk wr N 106 (x8 s) := HXS6.out.below hbel (by omega)
              have hxr9 : Blk wr (N + 1) 106 z8 := HXR6.out.below hbel (by omega)
              have HXS9 := hide hxs9
              have HXR9 := hide hxr9
              clear hbk hst hxs9 hxr9 h64 ht
              obtain ⟨w9, hw9⟩ : ∃ w9, w9 = wr := ⟨_, rfl⟩
              rw [← hw9] at HB HXS9 HXR9 hbel ⊢
              clear hw9
              go_wp2_with fail
              go_loopw [15] (fun i wr => ∃ k : Nat, k ≤ 8 ∧ i = .int .i64 k ∧ Blk wr Z 106 (uv (addN st.list s.list k)) ∧ Below Z w9 wr) (fun i _ => 8 - (intOf i).toNat)
              case atStart => exact ⟨0, by omega, rfl, HB.out, Below.refl _ _⟩
              case round =>
                obtain ⟨k, hk, rfl, hgk, hbelk⟩ := hrel
                by_cases h8 : k < 8
                · have ck := (hgk.cell k).trans (uv_get _ _ (by rw [length_addN]; exact h8))
                  have cs := ((HXS9.out.below hbelk (by omega)).cell k).trans (uv_get s.list k h8)
                  obtain ⟨y, hy⟩ : ∃ y, y = s.list.getD k 0 := ⟨_, rfl⟩
                  obtain ⟨z, hz⟩ : ∃ z, z = (addN st.list s.list k).getD k 0 := ⟨_, rfl⟩
                  rw [← hy] at cs
                  rw [← hz] at ck
                  have HY := hide hy
                  have HZ := hide hz
                  have fk := hgk.frozen k
                  have HGK := hide hgk
                  clear hz hy hgk
                  have n0 : (0 : Int) ≤ (k : Int) := by omega
                  have n1 : (k : Int) < 8 := by omega
                  go_wp2_with fail
                  refine wp_quiet_tail_drewN 9 (by kernel_rfl) (by kernel_rfl) ?_
                  simp only [List.take_succ_cons, List.take_zero, List.drop_succ_cons, List.drop_zero]
                  repeat (go_big_quiet_step (fail))
                  refine wpQuiet_nil ?_
                  intro nq
                  go_wp2
                  go_roundw
                  case rel =>
                    refine ⟨k + 1, by omega, by go_num, ?_, (below_drewN hbelk nq).setCell (Nat.le_refl _) _⟩
                    have h3 := (HGK.out.drewN nq).set_ k (.int .u32 (U (z + y)))
                    rw [uv_set, HZ.out, HY.out, addN_step _ _ _ h8] at h3
                    first | rw [U_add'] | rw [U_add]
                    rw [HZ.out, HY.out]
                    exact h3
                  case measure => simp [intOf]; omega
                · obtain rfl : k = 8 := by omega
                  have HGK := hide hgk
                  have hxr := HXR9.out.below hbelk (by omega)
                  have HXRF := hide hxr
                  clear hgk hxr
                  obtain ⟨L, hL⟩ : ∃ L, L = addN st.list s.list 8 := ⟨_, rfl⟩
                  have hLl : L.length = 8 := by rw [hL]; exact length_addN _ _ _
                  rw [← hL] at HGK
                  have HL := hide hL
                  clear hL
                  go_wp2_with (first
                    | ((with_reducible refine wpList_load_blk (o := ⟨some 183, _, _, _, _, _⟩) rfl 106 (.tmp 11) rfl Z 106 (uv L) _ _ HGK.out Try.underlying106 (uv8_info L hLl) ?_ ?_); rfl; dsimp only [Act.put, List.setIfInBounds_toArray, List.set_cons_zero, List.set_cons_succ])
                    | ((with_reducible refine wpList_store_blkA (o := ⟨none, .store 106 (.tmp 4) (.tmp 183), _, _, _, _⟩) rfl 106 (.tmp 4) (.tmp 183) rfl (N + 1) z8 (uv L) 106 HXRF.out (uv8_info L hLl) (z8_size L hLl) (uv_one _) ?_ ?_ ?_); (focus rfl); (focus rfl); intro w10 hk10 hg10; dsimp only [Act.put]))
                  have e : R = .agg (uv L) := by
                    rw [HR.out, ← x8_uv, HL.out]
                    rw [addN_all, HST.out]
                    rfl
                  have hsz := hbelk.size
                  refine bodyPost_ret (results_cell_blk rfl _ _ (N + 1) 106 (uv L) _ _ rfl hk10 Try.underlying106 (uv8_info L hLl)) rfl ⟨by rw [e], ?_⟩
                  rw [← HN.out]
                  have hl1 := HB3.out.size
                  have hl2 := HBEL6.out.size
                  have hl3 := hbel.size
                  refine Below.grown ((HB3.out.trans ((HBEL6.out.mono (by omega)).trans ((hbel.mono (by omega)).trans (hbelk.mono (by omega)))))) hg10 (by omega) (by intro k hk; injection hk with hk; omega)
end Go.Proofs.Ytjmenaplgndnnaa
