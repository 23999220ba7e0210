/- The walk of bytes' digest: the program's hash.Sum tells what the plain function tells. -/
import Derived.Test.YtjmenaplgndnnaaShaE
namespace Go.Proofs.Ytjmenaplgndnnaa
open Go.RowKit
/-- a slice of bytes that reads as l; what there is of it lies below block B -/
def BytesAt (w : World) (B : Nat) (v : Value) (l : List UInt8) : Prop :=
  ∃ A cap, v = .slice A l.length cap ∧ l.length ≤ cap ∧ (0 < l.length → ∃ b off, A = some ⟨b, off, none⟩ ∧ b < B ∧ ∀ j, j < l.length → w.cell? ⟨b, off + j, none⟩ = some (.int .u8 ((l.getD j 0).toNat : Int)))
/-- a slice of slices of bytes -/
def PartsAt (w : World) (B : Nat) (v : Value) (ls : List (List UInt8)) : Prop :=
  ∃ A cap, v = .slice A ls.length cap ∧ ls.length ≤ cap ∧ (0 < ls.length → ∃ b off, A = some ⟨b, off, none⟩ ∧ b < B ∧ ∀ j, j < ls.length → ∃ u, w.cell? ⟨b, off + j, none⟩ = some u ∧ BytesAt w B u (ls.getD j []))
/-- what lies below block B reads alike -/
def Alike (B : Nat) (w w' : World) : Prop := ∀ k, k < B → w'.heap[k]? = w.heap[k]?
theorem Alike.cell {B : Nat} {w w' : World} (h : Alike B w w') {p : Addr} (hp : p.block < B) : w'.cell? p = w.cell? p := World.cell?_of_block (h p.block hp)
theorem BytesAt.alike {w w' : World} {B : Nat} {v : Value} {l : List UInt8} (h : BytesAt w B v l) (ha : Alike B w w') : BytesAt w' B v l := by
  obtain ⟨A, cap, hv, hc, hA⟩ := h
  refine ⟨A, cap, hv, hc, fun hl => ?_⟩
  obtain ⟨b, off, h1, h2, h3⟩ := hA hl
  exact ⟨b, off, h1, h2, fun j hj => (ha.cell (p := ⟨b, off + j, none⟩) h2).trans (h3 j hj)⟩
theorem PartsAt.alike {w w' : World} {B : Nat} {v : Value} {ls : List (List UInt8)} (h : PartsAt w B v ls) (ha : Alike B w w') : PartsAt w' B v ls := by
  obtain ⟨A, cap, hv, hc, hA⟩ := h
  refine ⟨A, cap, hv, hc, fun hl => ?_⟩
  obtain ⟨b, off, h1, h2, h3⟩ := hA hl
  refine ⟨b, off, h1, h2, fun j hj => ?_⟩
  obtain ⟨u, h4, h5⟩ := h3 j hj
  exact ⟨u, (ha.cell (p := ⟨b, off + j, none⟩) h2).trans h4, h5.alike ha⟩
theorem alike_of_below {B : Nat} {w w' : World} (h : Below B w w') : Alike B w w' := h.block
theorem alike_of_grown {B g : Nat} {w w' : World} (h : w.grownBy w' (some g)) (hB : B ≤ g) (hw : B ≤ w.heap.size) : Alike B w w' :=
  fun k hk => h.block k (by omega) (by intro e; injection e with e; omega)
theorem Alike.trans {B : Nat} {a b c : World} (h : Alike B a b) (k : Alike B b c) : Alike B a c := fun i hi => (k i hi).trans (h i hi)

theorem BytesAt.open_ {w : World} {B g : Nat} {v : Value} {l : List UInt8} (h : BytesAt w B v l) (hg : B ≤ g) :
    ∃ A cap b off, v = .slice A l.length cap ∧ l.length ≤ cap ∧ b ≠ g ∧ (0 < l.length → A = some ⟨b, off, none⟩) ∧ ∀ j, j < l.length → w.cell? ⟨b, off + j, none⟩ = some (.int .u8 ((l.getD j 0).toNat : Int)) := by
  obtain ⟨A, cap, hv, hc, hA⟩ := h
  by_cases h0 : 0 < l.length
  · obtain ⟨b, off, h1, h2, h3⟩ := hA h0
    exact ⟨A, cap, b, off, hv, hc, by omega, fun _ => h1, h3⟩
  · exact ⟨A, cap, g + 1, 0, hv, hc, by omega, fun h => absurd h h0, fun j hj => by omega⟩

set_option maxRecDepth 100000 in
set_option maxHeartbeats 1000000 in
theorem sum_any (ls : List (List UInt8)) (hl : ls.flatten.length ≤ 1099511627000) (hn : ls.length ≤ 1099511627000) (v : Value) (w : World) (B : Nat) (hB : B ≤ w.heap.size) (hp : PartsAt w B v ls) :
    Calls Try.prog 35 #[v] w fun e w' => e = .returned (.agg (bv (Sha.sum ls.flatten)).toArray) ∧ Below w.heap.size w w' := by
  obtain ⟨A, cap, rfl, hcap, hA⟩ := hp
  have HA := hide hA
  clear hA
  obtain ⟨R, hR⟩ : ∃ R, R = w.heap.size := ⟨_, rfl⟩
  have HR := hide hR
  clear hR
  go_enter Try.func35, Try.ntmps35
  go_step
  go_step
  apply wp_region_lit
  refine wpList_value (o := ⟨some 2, _, _, _, _, _⟩) rfl (.pointer (some ⟨R, 0, none⟩)) (w.alloc (.cells z32 53)) (by rw [HR.out]; kernel_rfl) ?_
  dsimp only [Act.put, List.setIfInBounds_toArray, List.set_cons_zero, List.set_cons_succ]
  obtain ⟨w1, hw1⟩ : ∃ w1, w1 = w.alloc (.cells z32 53) := ⟨_, rfl⟩
  have hb1 : Blk w1 R 53 z32 := by rw [hw1, HR.out]; exact Blk.new _ _ _
  have hbl1 : Below w.heap.size w w1 := by rw [hw1]; exact (Below.refl _ _).alloc (Nat.le_refl _) _
  rw [← hw1]
  clear hw1
  have HB1 := hide hb1
  clear hb1
  go_step
  go_step
  go_step
  go_step
  apply wp_region_lit
  go_step
  go_step
  refine (first_any _).mono ?_
  rintro e w2 ⟨rfl, hb2⟩
  dsimp only
  go_step
  refine wpList_value (o := ⟨some 7, _, _, _, _, _⟩) rfl (.agg (sp Sha.first.list (List.replicate 64 0) 0)) w2 (by kernel_rfl) ?_
  dsimp only [Act.put, List.setIfInBounds_toArray, List.set_cons_zero, List.set_cons_succ]
  refine wpList_value (o := ⟨some 8, _, _, _, _, _⟩) rfl (.pointer (some ⟨w2.heap.size, 0, none⟩)) (w2.alloc (.cells (sp Sha.first.list (List.replicate 64 0) 0) 111)) (by kernel_rfl) ?_
  dsimp only [Act.put, List.setIfInBounds_toArray, List.set_cons_zero, List.set_cons_succ]
  obtain ⟨g, hg⟩ : ∃ g, g = w2.heap.size := ⟨_, rfl⟩
  obtain ⟨w3, hw3⟩ : ∃ w3, w3 = w2.alloc (.cells (sp Sha.first.list (List.replicate 64 0) 0) 111) := ⟨_, rfl⟩
  have hs3 : Spg w3 g 111 [] := ⟨_, _, Sha.Sponge.nil, by rw [hw3, hg]; exact Blk.new _ _ _⟩
  have hR2 : R < w1.heap.size := HB1.out.lt
  have hgR : R < g := by have := hb2.size; omega
  have hk3 : Blk w3 R 53 z32 := by rw [hw3]; exact (HB1.out.below hb2 hR2).alloc _
  have hal3 : Below w.heap.size w w3 := by rw [hw3]; exact (hbl1.trans (hb2.mono hbl1.size)).alloc (Nat.le_trans hbl1.size hb2.size) _
  have hBg : B ≤ g := by have := hb2.size; have := hbl1.size; omega
  rw [← hw3, ← hg]
  have HS3 := hide hs3
  have HK3 := hide hk3
  clear hw3 hg hs3 hk3 hb2
  have hls0 : (0 : Int) ≤ (ls.length : Int) := by omega
  go_wp2_with fail
  go_loopw [11] (fun i wr => ∃ k : Nat, k ≤ ls.length ∧ i = .int .i64 (k : Int) ∧ Spg wr g 111 (ls.take k).flatten ∧ w3.grownBy wr (some g)) (fun i _ => ls.length - (intOf i).toNat)
  case atStart => exact ⟨0, by omega, rfl, HS3.out, World.grownBy.refl _ _⟩
  case round =>
    obtain ⟨k, hk, rfl, hsk, hgk⟩ := hrel
    by_cases hlt : k < ls.length
    · obtain ⟨b, off, rfl, hbB, hcells⟩ := HA.out (by omega)
      obtain ⟨u, hu, hby⟩ := hcells k hlt
      have ha : Alike B w wr := (alike_of_below (hal3.mono hB)).trans (alike_of_grown hgk hBg (by have := hal3.size; omega))
      have cu : wr.cell? ⟨b, off + k, none⟩ = some u := (ha.cell (p := ⟨b, off + k, none⟩) hbB).trans hu
      obtain ⟨l, hl'⟩ : ∃ l, l = ls.getD k [] := ⟨_, rfl⟩
      rw [← hl'] at hby
      obtain ⟨Aj, cj, bj, oj, rfl, hcj, hbj, hAj, hcell⟩ := (hby.alike ha).open_ hBg
      have hfl : (ls.take (k + 1)).flatten = (ls.take k).flatten ++ l := by
        rw [List.take_succ_eq_append_getElem hlt, List.flatten_append, hl']; simp [List.getD, hlt]
      have hbd : (ls.take k).flatten.length + l.length ≤ 1099511627776 := by
        have h1 : (ls.take (k + 1)).flatten.length ≤ ls.flatten.length := by
          have h2 : ls.flatten = (ls.take (k + 1)).flatten ++ (ls.drop (k + 1)).flatten := by rw [← List.flatten_append, List.take_append_drop]
          rw [h2, List.length_append]; omega
        rw [hfl, List.length_append] at h1
        omega
      have HFL := hide hfl
      have HCELL := hide hcell
      have HAJ := hide hAj
      have i1 : (0 : Int) ≤ (k : Int) := by omega
      have i2 : (k : Int) < (ls.length : Int) := by omega
      clear hu hby hcells hl' hfl hcell hAj
      go_wp2_with (go_at_call 59; refine (take_any l _ hbd g 111 Aj bj oj cj hcj HAJ.out hbj _ HCELL.out hsk).mono ?_; rintro e w5 ⟨rfl, hs5, hg5⟩)
      go_roundw
      case rel => exact ⟨k + 1, by omega, by go_num, by rw [HFL.out]; exact hs5, only_trans hgk hg5⟩
      case measure => simp [intOf]; omega
    · obtain rfl : k = ls.length := by omega
      have hfl : (ls.take ls.length).flatten = ls.flatten := by rw [List.take_of_length_le (Nat.le_refl _)]
      rw [hfl] at hsk
      have hkR : Blk wr R 53 z32 := HK3.out.grown hgk (by intro e; injection e with e; omega)
      have HKR := hide hkR
      have hsz : (Try.prog.info? 53).map (·.size) = some (bv (Sha.sum ls.flatten)).toArray.size := by rw [List.size_toArray, bv, List.length_map, Sha.sum, length_out]; exact size27
      have hzs : z32.size = (bv (Sha.sum ls.flatten)).toArray.size := by
        have e : z32.size = 32 := by simp [z32, bv]
        rw [e, List.size_toArray, bv, List.length_map, Sha.sum, length_out]
      clear hkR hfl
      go_wp2_with (first
        | (go_at_call 60; refine (end_any _ hl g 111 _ hsk).mono ?_; rintro e w6 ⟨rfl, hg6⟩; have HK6 := hide (HKR.out.grown hg6 (fun e => absurd (Option.some.inj e) (Nat.ne_of_lt hgR))))
        | ((with_reducible refine wpList_store_blkA (o := ⟨none, _, _, _, _, _⟩) rfl 53 (.tmp 2) (.tmp 20) rfl R z32 (bv (Sha.sum ls.flatten)).toArray 53 HK6.out hsz hzs (bv_one _) ?_ ?_ ?_); rfl; rfl; intro w9 h9 hg9; dsimp only [Act.put]))
      refine bodyPost_ret (results_cell_blk rfl _ _ R 53 (bv (Sha.sum ls.flatten)).toArray _ _ rfl h9 Try.underlying53 hsz) rfl ⟨rfl, ?_⟩
      have hw := HR.out
      refine Below.grown (Below.grown (Below.grown hal3 hgk ?_ ?_) hg6 ?_ ?_) hg9 ?_ ?_
      · have := hal3.size; omega
      · intro x hx; injection hx with hx; omega
      · have := hal3.size; have := hgk.size; omega
      · intro x hx; injection hx with hx; omega
      · have := hal3.size; have := hgk.size; have := hg6.size; omega
      · intro x hx; injection hx with hx; omega
end Go.Proofs.Ytjmenaplgndnnaa
