/- The walk of a sponge that takes bytes. -/
import Derived.Test.YtjmenaplgndnnaaShaC
import Derived.Test.YtjmenaplgndnnaaShaS
import Derived.Test.YtjmenaplgndnnaaBase2
namespace Go.Proofs.Ytjmenaplgndnnaa
open Go.RowKit
theorem size5 : (Try.prog.info? 5).map (·.size) = some 1 := by kernel_rfl

/-- a sponge's block in memory, that has taken the bytes c -/
def Spg (w : World) (g T : Nat) (c : List UInt8) : Prop := ∃ s B, Sha.Sponge c s B ∧ Blk w g T (sp s.list B c.length)

/-- the row of a slice of bytes: where there is one at all, it lies at ⟨b, off⟩ -/
theorem only_trans {a b c : World} {row : Option Nat} (h : a.grownBy b row) (k : b.grownBy c row) : a.grownBy c row :=
  ⟨k.os.trans h.os, k.tape.trans h.tape, k.output.trans h.output, Nat.le_trans h.size k.size, fun i hi hne => (k.block i (Nat.lt_of_lt_of_le hi h.size) hne).trans (h.block i hi hne)⟩
theorem sp_setMany (s : List Sha.W) (B : List UInt8) (m m' : Nat) (hs : s.length = 8) (hB : B.length = 64) : (sp s B m).setIfInBounds 72 (.int .u64 (m' : Int)) = sp s B m' := by
  have h1 : ((s.map fun x => Value.int .u32 (U x)) ++ bv B).length = 72 := by simp [bv, hs, hB]
  simp only [sp, List.setIfInBounds_toArray]
  rw [List.set_append_right _ _ (by omega), h1]
  rfl
theorem sp_copy (s : List Sha.W) (B d : List UInt8) (m k : Nat) (hs : s.length = 8) (hB : B.length = 64) (hk : k + d.length ≤ 64) :
    ((sp s B m).toList.take (8 + k) ++ (bv d ++ (sp s B m).toList.drop (8 + k + (bv d).length))).toArray = sp s (splice B k d) m := by
  have h1 : (bv d).length = d.length := by simp [bv]
  have h2 : (s.map fun x => Value.int .u32 (U x)).length = 8 := by simp [hs]
  have h3 : (bv B).length = 64 := by simp [bv, hB]
  rw [h1]
  unfold sp splice
  congr 1
  generalize (s.map fun x => Value.int .u32 (U x)) = S at *
  have e : bv (B.take k ++ (d ++ B.drop (k + d.length))) = (bv B).take k ++ (bv d ++ (bv B).drop (k + d.length)) := by
    simp [bv, List.map_append, List.map_take, List.map_drop]
  rw [e]
  generalize bv B = Bv at *
  rw [List.append_assoc, List.take_append, List.drop_append, h2, List.take_of_length_le (by omega), List.drop_eq_nil_of_le (by omega),
    show 8 + k - 8 = k by omega, show 8 + k + d.length - 8 = k + d.length by omega, List.take_append_of_le_length (by omega), List.drop_append_of_le_length (by omega)]
  simp

set_option maxRecDepth 100000 in
set_option maxHeartbeats 1000000 in
theorem take_any (l : List UInt8) (c : List UInt8) (hcl : c.length + l.length ≤ 1099511627776) (g T : Nat) (A : Option Addr) (b off cap : Nat) (hcap : l.length ≤ cap) (hA : 0 < l.length → A = some ⟨b, off, none⟩) (hbg : b ≠ g) (w : World)
    (hcell : ∀ j, j < l.length → w.cell? ⟨b, off + j, none⟩ = some (.int .u8 ((l.getD j 0).toNat : Int))) (hg : Spg w g T c) :
    Calls Try.prog 59 #[.pointer (some ⟨g, 0, none⟩), .slice A l.length cap] w fun e w' => e = .returned (.tuple #[]) ∧ Spg w' g T (c ++ l) ∧ w.grownBy w' (some g) := by
  have HC := hide hcell
  have HA := hide hA
  have HG := hide hg
  clear hcell hA hg
  go_enter Try.func59, Try.ntmps59
  go_wp2_with fail
  go_loopw [1] (fun v wr => ∃ (k : Nat) (A' : Option Addr) (cap' : Nat), k ≤ l.length ∧ v = .slice A' (l.length - k) cap' ∧ l.length - k ≤ cap' ∧ (k < l.length → A' = some ⟨b, off + k, none⟩) ∧ Spg wr g T (c ++ l.take k) ∧ w.grownBy wr (some g))
    (fun v _ => match v with | .slice _ n _ => n | _ => 0)
  case atStart => exact ⟨0, A, cap, by omega, rfl, hcap, HA.out, by simpa using HG.out, World.grownBy.refl _ _⟩
  case round =>
    obtain ⟨k, A', cap', hk, rfl, hcap', hA', ⟨s, B, hsp, hbk⟩, hgr⟩ := hrel
    by_cases hlt : k < l.length
    · obtain rfl := hA' hlt
      obtain ⟨c', hc'⟩ : ∃ c', c' = c ++ l.take k := ⟨_, rfl⟩
      rw [← hc'] at hsp hbk
      have hlen : c'.length = c.length + k := by rw [hc', List.length_append, List.length_take]; omega
      have HC' := hide hc'
      clear hc'
      have cm := (hbk.cell 72).trans (sp_many _ _ _ rfl hsp.len)
      have fm := hbk.frozen 72
      obtain ⟨m, hm⟩ : ∃ m, m = c'.length := ⟨_, rfl⟩
      rw [← hm] at cm
      have hm1 : m ≤ 1099511627776 := by omega
      have n1 : (1 : Int) ≤ ((l.length - k : Nat) : Int) := by omega
      have n2 : (0 : Int) < ((l.length - k : Nat) : Int) := by omega
      have HM := hide hm
      have HL := hide hlen
      have HBK := hide hbk
      clear hm hlen hbk
      obtain ⟨q, hq⟩ : ∃ q, q = m % 64 := ⟨_, rfl⟩
      have hqm : (m : Int) % 64 = (q : Int) := by omega
      have hq64 : q < 64 := by omega
      have hq65 : ¬ 64 = q := by omega
      obtain ⟨n, hn⟩ : ∃ n, n = Nat.min (l.length - k) (64 - q) := ⟨_, rfl⟩
      have hsl := run_sliceAt_l 109 5 64 Try.underlying109 size5 g 8 q hq64
      have HQ := hide hq
      clear hq
      obtain ⟨d, hd⟩ : ∃ d, d = (l.drop k).take n := ⟨_, rfl⟩
      have hn2 : n ≤ l.length - k := hn ▸ Nat.min_le_left _ _
      have hn4 : n ≤ 64 - q := hn ▸ Nat.min_le_right _ _
      have hn1 : 1 ≤ n := hn ▸ Nat.le_min.2 ⟨by omega, by omega⟩
      have hn3 : q + n ≤ 64 := by omega
      have hn5 : n = l.length - k ∨ n = 64 - q := by
        rcases Nat.le_total (l.length - k) (64 - q) with h | h
        · exact .inl (hn.trans (Nat.min_eq_left h))
        · exact .inr (hn.trans (Nat.min_eq_right h))
      have hdl : d.length = n := by rw [hd, List.length_take, List.length_drop]; omega
      have hbl : (bv d).length = Nat.min (l.length - k) (64 - q) := by simp only [bv, List.length_map]; rw [hdl, hn]
      have hsrc : ∀ j v, (bv d)[j]? = some v → wr.cell? ((⟨b, off + k, none⟩ : Addr).add j) = some v := by
        intro j v hj
        have hjn : j < n := by have := (List.getElem?_eq_some_iff.1 hj).1; simpa [bv, hdl] using this
        rw [Addr.add_mid, World.cell?_of_block (hgr.block b (World.block_lt_of_cell? w _ (HC.out k hlt)) (by intro e; injection e with e; exact hbg e)), Nat.add_assoc, HC.out (k + j) (by omega), ← hj, hd]
        simp [bv, List.getElem?_drop, List.getD, hjn, show k + j < l.length by omega]
      have hfit : 8 + q + (bv d).length ≤ (sp s.list B c'.length).size := by
        rw [hbl, ← hn]; simp [sp, bv, hsp.len, Sha.St.list]; omega
      have hone : ∀ v ∈ bv d, v.oneCell' = true := by intro v hv; simp [bv] at hv; obtain ⟨x, _, rfl⟩ := hv; rfl
      have HD := hide (And.intro hn (And.intro hd hdl))
      have HBL := hide hbl
      have HS := hide hsrc
      have HO := hide hone
      have hbn : (bv d).length = n := by simp only [bv, List.length_map]; exact hdl
      clear hn hd hbl hsrc hone
      have HDL := hide hdl
      clear hdl
      go_wp2_with ((with_reducible refine wpList_copyA (o := ⟨some 21, _, _, _, _, _⟩) rfl (.tmp 19) (.tmp 20) 26 26 rfl 5 Try.underlying26 size5 g (8 + q) (64 - q) (64 - q) ⟨b, off + k, none⟩ (l.length - k) cap' (sp s.list B c'.length) T HBK.out (bv d) HBL.out HS.out hfit HO.out ?_ ?_ ?_); rfl; rfl; intro w2 h2 hg2; dsimp only [Act.put, List.setIfInBounds_toArray, List.set_cons_zero, List.set_cons_succ])
      have h3 : Blk w2 g T (sp s.list (splice B q d) c'.length) := by rw [← sp_copy _ _ _ _ _ rfl hsp.len (by rw [HDL.out]; exact hn3)]; exact h2
      clear h2
      have cm2 := (h3.cell 72).trans (sp_many _ _ _ rfl (by rw [length_splice _ _ _ (by rw [HDL.out, hsp.len]; exact hn3)]; exact hsp.len))
      rw [← HM.out] at cm2
      have fm2 := h3.frozen 72
      have H3 := hide h3
      clear h3
      have i1 : (0 : Int) ≤ (n : Int) := by omega
      have i2 : (n : Int) ≤ ((l.length - k : Nat) : Int) := by omega
      have i3 : (n : Int) ≤ (cap' : Int) := by omega
      obtain ⟨A2, hA2⟩ : ∃ A2 : Option Addr, A2 = if cap' = n then some ⟨b, off + k, none⟩ else (some ⟨b, off + k, none⟩ : Option Addr).map (·.add n) := ⟨_, rfl⟩
      have hs1 := run_slice_from 26 5 Try.underlying26 size5 (some ⟨b, off + k, none⟩) (l.length - k) cap' n hn2
      have hs2 := run_sliceAt_from 26 5 Try.underlying26 size5 (some ⟨b, off + k, none⟩) (l.length - k) cap' n hn2
      rw [← hA2] at hs1 hs2
      have HA2 := hide hA2
      clear hA2
      have hfin : k + n < l.length → A2 = some ⟨b, off + (k + n), none⟩ := fun h => by
        rw [HA2.out, if_neg (by omega)]
        simp [Addr.add_mid, Nat.add_assoc]
      have HF := hide hfin
      clear hfin
      have hcd : c' ++ d = c ++ l.take (k + n) := by rw [HC'.out, HD.out.2.1, List.append_assoc, ← List.take_add]
      have hcl' : (c ++ l.take (k + n)).length = m + n := by rw [← hcd, List.length_append, HDL.out, HM.out]
      have hset : Blk ((w2.setCell ⟨g, 72, none⟩ (.int .u64 ((m : Int) + (n : Int))))) g T (sp s.list (splice B q d) (m + n)) := by
        have h := H3.out.set_ 72 (.int .u64 ((m : Int) + (n : Int)))
        rw [← HM.out] at h
        have e := sp_setMany s.list (splice B q d) m (m + n) rfl (by rw [length_splice _ _ _ (by rw [HDL.out, hsp.len]; exact hn3)]; exact hsp.len)
        rw [Int.natCast_add] at e
        rw [e] at h
        exact h
      have hBl : (splice B q d).length = 64 := by rw [length_splice _ _ _ (by rw [HDL.out, hsp.len]; exact hn3)]; exact hsp.len
      have HCD := hide (And.intro hcd hcl')
      have HSET := hide hset
      have HBL := hide hBl
      have hqm' : c'.length % 64 = q := by rw [← HM.out]; exact HQ.out.symm
      have HQM := hide hqm'
      clear hcd hcl' hset hBl hqm'
      by_cases hfull : q + n = 64
      · have hfi : (q : Int) + (n : Int) = 64 := by omega
        refine wp_quiet_tail_drewN 14 (by kernel_rfl) (by kernel_rfl) ?_
        simp only [List.take_succ_cons, List.take_zero, List.drop_succ_cons, List.drop_zero]
        repeat (go_big_quiet_step (fail))
        refine wpQuiet_nil ?_
        intro nq
        go_wp2_with fail
        refine wp_quiet_tail_drewN 6 (by kernel_rfl) (by kernel_rfl) ?_
        simp only [List.take_succ_cons, List.take_zero, List.drop_succ_cons, List.drop_zero]
        repeat (go_big_quiet_step (fail))
        refine wpQuiet_nil ?_
        intro np
        go_wp2_with fail
        refine (block_any s (splice B q d) HBL.out (m + n) g T _ (by exact HSET.out)).mono ?_
        rintro e w4 ⟨rfl, hb4, hg4⟩
        have HB4 := hide hb4
        clear hb4
        dsimp only
        go_wp2_with fail
        refine ⟨⟨k + n, A2, cap' - n, by omega, by rw [Nat.sub_sub], by omega, HF.out, ⟨Sha.comp s (splice B q d), splice B q d, ?_, ?_⟩, only_trans hgr (only_trans hg2 (only_trans (only_setCell (only_drewN (World.grownBy.refl w2 _) nq) (.inl rfl) _) (only_trans (only_drewN (World.grownBy.refl _ _) np) hg4)))⟩, ?_⟩
        · have h := hsp.fill (d := d) (by rw [HQM.out, HDL.out]; exact hfull)
          rw [HQM.out, HCD.out.1] at h
          exact h
        · rw [HCD.out.2]
          exact HB4.out
        · simp; omega
      · have hfi : ¬ (q : Int) + (n : Int) = 64 := by omega
        refine wp_quiet_tail_drewN 14 (by kernel_rfl) (by kernel_rfl) ?_
        simp only [List.take_succ_cons, List.take_zero, List.drop_succ_cons, List.drop_zero]
        repeat (go_big_quiet_step (fail))
        refine wpQuiet_nil ?_
        intro nq
        go_wp2_with fail
        refine ⟨⟨k + n, A2, cap' - n, by omega, by rw [Nat.sub_sub], by omega, HF.out, ⟨s, splice B q d, ?_, ?_⟩, only_trans hgr (only_trans hg2 (only_setCell (only_drewN (World.grownBy.refl w2 _) nq) (.inl rfl) _))⟩, ?_⟩
        · have h := hsp.part (d := d) (by rw [HQM.out, HDL.out]; omega)
          rw [HQM.out, HCD.out.1] at h
          exact h
        · rw [HCD.out.2]
          exact HSET.out
        · simp; omega
    · obtain rfl : k = l.length := by omega
      have n1 : ¬ (0 : Int) < ((l.length - l.length : Nat) : Int) := by omega
      go_wp2_with fail
      go_end0
      exact ⟨rfl, ⟨s, B, by rw [List.take_of_length_le (Nat.le_refl _)] at hsp; exact hsp, by rw [List.take_of_length_le (Nat.le_refl _)] at hbk; exact hbk⟩, hgr⟩
end Go.Proofs.Ytjmenaplgndnnaa
