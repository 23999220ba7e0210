/- package dev: rows of arrays; cells in the middle of a block; what settles, plain. package dev: the walk of settle. package dev: what flushes, what wakes. package dev: deeds, as a device's contracts; what is kept is told. package dev: the pending writes, the last one first: the iterator. package dev: what is read of a sector. package dev: a device of one's own, deed by deed; the chapter's example. spencelaw04: deeds in memory. spencelaw04: great, full; what settles of a sector. spenceref04: a device of the document, in memory; the small walks. spenceref04: a device is made; its fuse, its crash; what is kept is turned. a bit of a number, asked for in two ways. -/
import Derived.Test.YtfppddnfdinipaaMBE3
import Derived.Deep.QuietTactic
import Derived.BigQuiet
import Derived.Test.YtfppddnfdinipaaMBE1
import Derived.RangeFuncNested
import Derived.RangeFuncBound
import Derived.RangeFuncCalls
import Derived.RangeFuncLeaves
import Derived.Shelf.Abstract
import Derived.OwnWalkIn
import Derived.TacticsInMore
import Derived.LoopNIn
import Derived.LoopIn
import Derived.RegionIn
import Derived.Shelf.RegionOpen
section
namespace Go.Proofs.Ytfppddnfdinipaa
open Go Go.RowKit
theorem kept_len (K : List (List UInt8)) (h : ∀ b ∈ K, b.length = 64) : (keptCells K).length = K.length * 64 := by
  unfold keptCells
  rw [flat_len (s := 64) _ (by
    intro b hb
    obtain ⟨l, hl, rfl⟩ := List.mem_map.1 hb
    rw [bvL]
    exact h l hl), List.length_map]
theorem kept_set (K : List (List UInt8)) (k : Nat) (c : List UInt8) (h : ∀ b ∈ K, b.length = 64) (hc : c.length = 64) (hk : k < K.length) : keptCells (K.set k c) = (keptCells K).take (k * 64) ++ (bv c ++ (keptCells K).drop (k * 64 + (bv c).length)) := by
  unfold keptCells
  rw [List.map_set, flat_set (s := 64) (bv c) (by rw [bvL]; exact hc) _ k (by
    intro b hb
    obtain ⟨l, hl, rfl⟩ := List.mem_map.1 hb
    rw [bvL]
    exact h l hl) (by simpa using hk)]
theorem kept_at (K : List (List UInt8)) (k : Nat) (c : List UInt8) (h : ∀ b ∈ K, b.length = 64) (hk : K[k]? = some c) : ((keptCells K).drop (k * 64)).take 64 = bv c :=
  flat_at (s := 64) _ k (bv c) (by
    intro b hb
    obtain ⟨l, hl, rfl⟩ := List.mem_map.1 hb
    rw [bvL]
    exact h l hl) (by simp [hk])
theorem pend_at (L : List (Int × List UInt8)) (k : Nat) (p : Int × List UInt8) (h : ∀ q ∈ L, q.2.length = 64) (hk : L[k]? = some p) : ((pendCells L).drop (k * 65)).take 65 = sh p.1 p.2 :=
  flat_at (s := 65) _ k (sh p.1 p.2) (by
    intro b hb
    obtain ⟨l, hl, rfl⟩ := List.mem_map.1 hb
    exact sh_len _ _ (by rw [h l hl]; exact Nat.le_refl _)) (by simp [hk])
/-- what settles -/
def settleL (f : Nat → Bool) : Nat → List (Int × List UInt8) → List (List UInt8) → List (List UInt8)
  | _, [], K => K
  | k, p :: r, K => settleL f (k + 1) r (if f k then K.set p.1.toNat p.2 else K)
theorem settle_add (f : Nat → Bool) (p : Int × List UInt8) : ∀ (l : List (Int × List UInt8)) (k : Nat) (K : List (List UInt8)), settleL f k (l ++ [p]) K = if f (k + l.length) then (settleL f k l K).set p.1.toNat p.2 else settleL f k l K
  | [], k, K => by simp [settleL]
  | q :: l, k, K => by
    rw [List.cons_append, settleL, settle_add f p l, settleL, List.length_cons, Nat.add_assoc, Nat.add_comm 1]
theorem settle_take (f : Nat → Bool) (l : List (Int × List UInt8)) (K : List (List UInt8)) (j : Nat) (p : Int × List UInt8) (h : l[j]? = some p) : settleL f 0 (l.take (j + 1)) K = if f j then (settleL f 0 (l.take j) K).set p.1.toNat p.2 else settleL f 0 (l.take j) K := by
  have hj : j < l.length := (List.getElem?_eq_some_iff.1 h).1
  have e : l.take (j + 1) = l.take j ++ [p] := by
    rw [List.take_add_one, h]; rfl
  rw [e, settle_add, Nat.zero_add, List.length_take, Nat.min_eq_left (Nat.le_of_lt hj)]
theorem settle_len (f : Nat → Bool) : ∀ (l : List (Int × List UInt8)) (k : Nat) (K : List (List UInt8)), (settleL f k l K).length = K.length
  | [], _, _ => rfl
  | p :: l, k, K => by
    rw [settleL, settle_len f l]
    split
    · simp
    · rfl
theorem settle_all {m : Nat} (f : Nat → Bool) : ∀ (l : List (Int × List UInt8)) (k : Nat) (K : List (List UInt8)), (∀ p ∈ l, p.2.length = m) → (∀ b ∈ K, b.length = m) → ∀ b ∈ settleL f k l K, b.length = m
  | [], _, _, _, h => h
  | p :: l, k, K, hl, h => by
    rw [settleL]
    refine settle_all f l _ _ (fun q hq => hl q (by simp [hq])) ?_
    split
    · intro b hb
      rcases List.mem_or_eq_of_mem_set hb with hb | rfl
      · exact h b hb
      · exact hl p (by simp)
    · exact h
end Go.Proofs.Ytfppddnfdinipaa
end
section
namespace Go.Proofs.Ytfppddnfdinipaa
open Go Go.RowKit
theorem info_sect : (Try.prog.info? 213).map (fun i => (i.zero, i.size, i.bytes)) = some (some (.agg (bv (List.replicate 64 0)).toArray), 64, 64) := by kernel_rfl
theorem sz_shot : (Try.prog.info? 215).map (·.size) = some 65 := by kernel_rfl
theorem sz_sect : (Try.prog.info? 213).map (·.size) = some 64 := by kernel_rfl
theorem sh_cut (x : Int) (b : List UInt8) (h : b.length = 64) : ((sh x b).toArray.extract 1 (1 + 64)).toList = bv b := by
  simp only [sh, h, Nat.sub_self, List.replicate_zero, List.append_nil]
  simp only [List.extract_toArray, List.extract_eq_take_drop, List.drop_succ_cons, List.drop_zero, Nat.add_sub_cancel_left]
  exact List.take_of_length_le (by rw [bvL, h]; exact Nat.le_refl _)
set_option maxRecDepth 100000 in
set_option maxHeartbeats 1000000 in
theorem settle_any {g rk n c m : Nat} {vp : Value} {de fu : Int} {dn : Bool} (fn : Nat) (cap : Array Value) (f : Nat → Bool) (K : List (List UInt8)) (L : List (Int × List UInt8)) (w : World) (hm : L.length ≤ 1000000) (hn : n ≤ 8192) (hKn : K.length = n) (hLm : L.length = m)
    (hb : Blk w g 150 (dv de fu dn (.slice (some ⟨rk, 0, none⟩) n c) vp)) (hk : w.ownsRow 0 213 64 (.slice (some ⟨rk, 0, none⟩) n c) n (keptCells K)) (hp : w.ownsRow 0 215 65 vp m (pendCells L))
    (hK : ∀ b ∈ K, b.length = 64) (hL : ∀ p ∈ L, p.2.length = 64 ∧ 0 ≤ p.1 ∧ p.1 < (n : Int))
    (heg : ∀ args w, (callFunc fn args).run Try.prog w = .ok (.enter fn args) w)
    (hcall : ∀ (W : World) (k : Nat), k < m → Turned (fun b => b = rk) w W → Calls Try.prog fn (#[.int .i64 (k : Int)] ++ cap) W fun e W' => e = .returned (.bool (f k)) ∧ Below W.heap.size W W') :
    Calls Try.prog 70 #[.pointer (some ⟨g, 0, none⟩), .func (.func fn) #[] cap] w fun e w' => e = .returned (.tuple #[]) ∧ Blk w' g 150 (dv de fu dn (.slice (some ⟨rk, 0, none⟩) n c) (.slice none 0 0)) ∧ w'.ownsRow 0 213 64 (.slice (some ⟨rk, 0, none⟩) n c) n (keptCells (settleL f 0 L K)) ∧ Turned (fun b => b = g ∨ b = rk) w w' := by
  have c4 := (hb.cell 4).trans (dv4 ..)
  have hlt := hb.lt
  obtain ⟨A, cp, rfl⟩ : ∃ A cp, vp = .slice A m cp := by
    rcases owned_formN hp with ⟨h, h0, _⟩ | ⟨r, cap, _, h, _⟩
    · exact ⟨none, 0, by rw [h, h0]⟩
    · exact ⟨_, cap, h⟩
  have H := hide (And.intro hb (And.intro hk hp))
  have HC := hide hcall
  have HL := hide (And.intro hK hL)
  have HN := hide (And.intro hKn hLm)
  clear hb hk hp hcall hK hL
  rw [hLm] at hm
  clear hKn hLm
  go_enter Try.func70, Try.ntmps70
  go_wp2_with fail
  go_loopw [11] (fun v wr => ∃ j : Nat, j ≤ m ∧ v = .int .i64 (j : Int) ∧ wr.ownsRow 0 213 64 (.slice (some ⟨rk, 0, none⟩) n c) n (keptCells (settleL f 0 (L.take j) K)) ∧ Turned (fun b => b = rk) w wr) (fun v _ => m - (intOf v).toNat)
  case atStart => exact ⟨0, by omega, rfl, by simpa [settleL] using H.out.2.1, Turned.refl _ _⟩
  case round =>
    obtain ⟨j, hj, rfl, ho, ht⟩ := hrel
    have HR := hide (And.intro ho ht)
    clear ho ht
    by_cases hjm : j < m
    · have n1 : (0 : Int) ≤ (j : Int) := by omega
      have n2 : (j : Int) < (m : Int) := by omega
      obtain ⟨rp, cap', hvp⟩ := owned_placeN H.out.2.2 (by omega)
      injection hvp with e1 _ e2
      subst e1 e2
      obtain ⟨⟨x, b⟩, hpj⟩ : ∃ p, L[j]? = some p := ⟨L[j]'(by have := HN.out.2; omega), List.getElem?_eq_getElem _⟩
      have hpm : (x, b) ∈ L := List.mem_of_getElem? hpj
      have hb64 := (HL.out.2 _ hpm).1
      have hx1 := (HL.out.2 _ hpm).2.1
      have hx2 := (HL.out.2 _ hpm).2.2
      dsimp only at hb64 hx1 hx2
      have hrr : rp ≠ rk := fun e => owned_ne2 H.out.2.2 H.out.2.1 (by decide) rfl rfl e
      have hpr : wr.ownsRow 0 215 65 (.slice (some ⟨rp, 0, none⟩) m cp) m (pendCells L) := owned_keepN H.out.2.2 fun k hg hl => HR.out.2.block k hl (by
        have hg : some rp = some k := hg
        injection hg with hg
        subst hg
        exact hrr)
      have hrange : wr.rangeAt rp (j * 65) (sh x b) := own_range hpr (j * 65) 65 _ (pend_at L j (x, b) (fun q hq => (HL.out.2 q hq).1) hpj)
      have hl65 : (sh x b).length = 65 := sh_len x b (by omega)
      obtain ⟨S, hS⟩ : ∃ S, S = sh x b := ⟨_, rfl⟩
      rw [← hS] at hrange hl65
      have HS := hide hS
      have HR2 := hide hrange
      have HP := hide hpj
      clear hrange hpr hpj hpm hS
      have hsz : (Try.prog.info? 215).map (·.size) = some S.toArray.size := by rw [List.size_toArray, hl65]; exact sz_shot
      have hzs : Try.zeroCells215.size = S.toArray.size := by
        rw [show S.toArray.size = 65 from by rw [List.size_toArray, hl65]]
        kernel_rfl
      have hone : S.toArray.all (·.oneCell') = true := all_oneCell_toArray (by rw [HS.out]; exact sh_one x b)
      have HBN := hide (Blk.new wr 215 Try.zeroCells215)
      have HC2 : Hid (∀ w2, (wr.alloc (.cells Try.zeroCells215 215)).grownBy w2 (some wr.heap.size) → Calls Try.prog fn (#[.int .i64 (j : Int)] ++ cap) w2 fun e W' => e = .returned (.bool (f j)) ∧ Below w2.heap.size w2 W') := hide (fun w2 hg2 => HC.out w2 j hjm (((HR.out.2).alloc _).then_ (Turned.of_grown (S := (· = wr.heap.size)) hg2 (fun k h _ => by injection h with h; exact h.symm)) (fun k hk h => by
        have h : k = wr.heap.size := h
        have := HR.out.2.size
        omega)))
      go_wp2_with (first
        | ((with_reducible refine wpList_load_mid (op := ⟨some 15, _, _, _, _, _⟩) rfl 215 (.tmp 14) rfl rp (j * 65) ?_ S _ HR2.out Try.underlying215 rfl (by rw [hl65]; exact sz_shot) ?_); rfl; dsimp only [Act.put, List.setIfInBounds_toArray, List.set_cons_zero, List.set_cons_succ])
        | ((with_reducible refine wpList_store_blkA (o := ⟨none, _, _, _, _, _⟩) rfl 215 (.tmp 5) (.tmp 15) rfl wr.heap.size Try.zeroCells215 S.toArray 215 HBN.out hsz hzs hone ?_ ?_ ?_); rfl; rfl; intro w2 h2 hg2; have H2 := hide (And.intro h2 hg2); clear h2 hg2; dsimp only [Act.put]))
      refine (HC2.out w2 H2.out.2).mono ?_
      rintro e w3 ⟨rfl, hb3⟩
      have hs2 : wr.heap.size < w2.heap.size := by have := H2.out.2.size; rw [size_alloc] at this; omega
      have hT3 : Turned (fun b => b = rk) w w3 := (((HR.out.2).alloc (.cells Try.zeroCells215 215)).then_ (Turned.of_grown (S := (· = wr.heap.size)) H2.out.2 (fun k h _ => by injection h with h; exact h.symm)) (fun k hk h => by
        have h : k = wr.heap.size := h
        have := HR.out.2.size
        omega)).trans (Turned.of_below hb3 _)
      have hgk : g ≠ rk := fun e => owned_neN H.out.2.1 H.out.1 (by decide) (by rw [e]; rfl)
      have hdv : Blk w3 g 150 (dv de fu dn (.slice (some ⟨rk, 0, none⟩) n c) (.slice (some ⟨rp, 0, none⟩) m cp)) := (hT3.block g hlt hgk).trans H.out.1
      have hsh : Blk w3 wr.heap.size 215 S.toArray := H2.out.1.below hb3 hs2
      have hkp : w3.ownsRow 0 213 64 (.slice (some ⟨rk, 0, none⟩) n c) n (keptCells (settleL f 0 (L.take j) K)) := owned_keepN HR.out.1 fun k _ hl => by
        have h1 : w2.heap[k]? = (wr.alloc (.cells Try.zeroCells215 215)).heap[k]? := H2.out.2.block k (by rw [size_alloc]; omega) (fun e => by injection e with e; omega)
        exact ((hb3.block k (by omega)).trans h1).trans (Below.heap_alloc _ _ k hl)
      have hnx := settle_take f L K j (x, b) HP.out
      cases hfj : f j with
      | false =>
        rw [hfj, if_neg (by simp)] at hnx
        have H3 := hide (And.intro hT3 (And.intro hkp hnx))
        clear hT3 hkp hnx hdv hsh hb3
        dsimp only
        go_wp2_with fail
        go_roundw
        case rel => exact ⟨j + 1, by omega, by go_num, by rw [H3.out.2.2]; exact H3.out.2.1, H3.out.1⟩
        case measure => simp [intOf]; omega
      | true =>
        rw [hfj, if_pos rfl] at hnx
        have H3 := hide (And.intro hT3 (And.intro hkp (And.intro hnx (And.intro hdv hsh))))
        clear hT3 hkp hnx hdv hsh hb3
        dsimp only
        go_wp2_with fail
        refine wp_made 9 [] (by kernel_rfl) (by kernel_rfl) (by intro p hp; cases hp) List.nodup_nil (by intro t ht; cases ht) ?_
        simp only [List.take_succ_cons, List.take_zero, List.drop_succ_cons, List.drop_zero]
        refine made_val (.pointer (some ⟨g, 0, none⟩)) (by kernel_rfl) (by kernel_rfl) (by kernel_rfl) (fun _ _ => by kernel_rfl) ?_
        simp only [Act.put, List.setIfInBounds_toArray, List.set_cons_zero, List.set_cons_succ]
        refine made_val (.pointer (some ⟨g, 0, none⟩)) (by kernel_rfl) (by kernel_rfl) (by kernel_rfl) (fun _ _ => by kernel_rfl) ?_
        simp only [Act.put, List.setIfInBounds_toArray, List.set_cons_zero, List.set_cons_succ]
        refine made_val (.pointer (some ⟨g, 3, none⟩)) (by kernel_rfl) (by kernel_rfl) (by kernel_rfl) (fun _ _ => by kernel_rfl) ?_
        simp only [Act.put, List.setIfInBounds_toArray, List.set_cons_zero, List.set_cons_succ]
        refine made_val (.slice (some ⟨rk, 0, none⟩) n c) (by kernel_rfl) (by kernel_rfl) (by kernel_rfl) (fun W hW => exec_load_slice (o := ⟨some 22, _, _, _, _, _⟩) 145 213 (.tmp 21) rfl ⟨g, 3, none⟩ rfl _ W Try.underlying145 (((H3.out.2.2.2.1.below hW H3.out.2.2.2.1.lt).cell 3).trans (dv3 ..))) ?_
        simp only [Act.put, List.setIfInBounds_toArray, List.set_cons_zero, List.set_cons_succ]
        refine made_val (.pointer (some ⟨wr.heap.size, 0, none⟩)) (by kernel_rfl) (by kernel_rfl) (by kernel_rfl) (fun _ _ => by kernel_rfl) ?_
        simp only [Act.put, List.setIfInBounds_toArray, List.set_cons_zero, List.set_cons_succ]
        refine made_val (.int .i64 x) (by kernel_rfl) (by kernel_rfl) (by kernel_rfl) (fun W hW => exec_load_cell (o := ⟨some 24, _, _, _, _, _⟩) 3 (.tmp 23) rfl ⟨wr.heap.size, 0, none⟩ rfl _ _ W Try.underlying3 rfl (by rw [(H3.out.2.2.2.2.below hW H3.out.2.2.2.2.lt).cell, HS.out]; rfl)) ?_
        simp only [Act.put, List.setIfInBounds_toArray, List.set_cons_zero, List.set_cons_succ]
        refine made_val (.pointer (some ⟨wr.heap.size, 1, none⟩)) (by kernel_rfl) (by kernel_rfl) (by kernel_rfl) (fun _ _ => by kernel_rfl) ?_
        simp only [Act.put, List.setIfInBounds_toArray, List.set_cons_zero, List.set_cons_succ]
        refine made_val (.agg (bv b).toArray) (by kernel_rfl) (by kernel_rfl) (by kernel_rfl) (fun W hW => exec_load_mid (o := ⟨some 26, _, _, _, _, _⟩) 213 (.tmp 25) rfl wr.heap.size 1 rfl (bv b) _ W (by have h := World.rangeAt_of_block (H3.out.2.2.2.2.below hW H3.out.2.2.2.2.lt) 1 64; rw [HS.out, sh_cut x b hb64] at h; exact h) Try.underlying213 rfl (by rw [bvL, hb64]; exact sz_sect)) ?_
        simp only [Act.put, List.setIfInBounds_toArray, List.set_cons_zero, List.set_cons_succ]
        refine made_val (.pointer (some ⟨rk, x.toNat * 64, none⟩)) (by kernel_rfl) (by kernel_rfl) (by kernel_rfl) (fun W _ => exec_index (o := ⟨some 27, _, _, _, _, _⟩) 145 213 (.tmp 22) (.tmp 24) rfl rk n c x .i64 rfl rfl ⟨hx1, hx2⟩ 64 Try.underlying145 sz_sect W) ?_
        simp only [Act.put, List.setIfInBounds_toArray, List.set_cons_zero, List.set_cons_succ]
        show ∀ w', _ → _
        intro w4 hb4
        simp only [ended]
        have hk4 : w4.ownsRow 0 213 64 (.slice (some ⟨rk, 0, none⟩) n c) n (keptCells (settleL f 0 (L.take j) K)) := owned_keepN H3.out.2.1 fun k _ hl => hb4.block k hl
        have hKj : (settleL f 0 (L.take j) K).length = n := by rw [settle_len, HN.out.1]
        have hKa : ∀ b ∈ settleL f 0 (L.take j) K, b.length = 64 := settle_all f _ _ _ (fun p hp => (HL.out.2 p (List.mem_of_mem_take hp)).1) HL.out.1
        have hxn : x.toNat < n := by omega
        have hbl : (bv b).length = 64 := by rw [bvL, hb64]
        have hfit : x.toNat * 64 + (bv b).length ≤ n * 64 := by omega
        have hth : w4.there rk (x.toNat * 64) (bv b).toArray.size := by
          rw [List.size_toArray]
          exact own_there hk4 _ _ hfit
        have hst : (w4.setCells rk (x.toNat * 64) (bv b)).ownsRow 0 213 64 (.slice (some ⟨rk, 0, none⟩) n c) n (keptCells (settleL f 0 (L.take (j + 1)) K)) := by
          rw [H3.out.2.2.1, kept_set _ _ _ hKa hb64 (by rw [hKj]; exact hxn)]
          exact own_setCells hk4 _ _ hfit
        have hT5 : Turned (fun b => b = rk) w (w4.setCells rk (x.toNat * 64) (bv b)) := (H3.out.1.trans (Turned.of_below hb4 _)).trans (Turned.of_grown (grown_setCells _ _ _ (World.grownBy.refl _ _)) (fun k h _ => by injection h with h; exact h.symm))
        have H5 := hide (And.intro hth (And.intro hst hT5))
        clear hth hst hT5 hk4 hb4
        refine wpList_store_mid (op := ⟨none, _, _, _, _, _⟩) rfl 213 (.tmp 27) (.tmp 26) rfl rk (x.toNat * 64) (bv b).toArray rfl rfl H5.out.1 (by rw [List.size_toArray, hbl]; exact sz_sect) (bv_one b) ?_
        obtain ⟨w5, hw5⟩ : ∃ w5, w5 = w4.setCells rk (x.toNat * 64) (bv b).toArray.toList := ⟨_, rfl⟩
        have H6 : Hid (w5.ownsRow 0 213 64 (.slice (some ⟨rk, 0, none⟩) n c) n (keptCells (settleL f 0 (L.take (j + 1)) K)) ∧ Turned (fun b => b = rk) w w5) := hide (by rw [hw5]; exact H5.out.2)
        rw [← hw5]
        clear hw5 H5
        simp only [Act.put]
        go_wp2_with fail
        go_roundw
        case rel => exact ⟨j + 1, by omega, by go_num, H6.out⟩
        case measure => simp [intOf]; omega
    · obtain rfl : j = m := by omega
      have hgk : g ≠ rk := fun e => owned_neN H.out.2.1 H.out.1 (by decide) (by rw [e]; rfl)
      have hdv : Blk wr g 150 (dv de fu dn (.slice (some ⟨rk, 0, none⟩) n c) (.slice A j cp)) := (HR.out.2.block g hlt hgk).trans H.out.1
      have c4' := (hdv.cell 4).trans (dv4 ..)
      have f4 := hdv.frozen 4
      have hltr := hdv.lt
      have H3 := hide hdv
      clear hdv
      go_wp2_with fail
      go_end0
      have hb5 := H3.out.set_ 4 (.slice none 0 0)
      rw [dv_set4] at hb5
      have ho := HR.out.1
      rw [show L.take j = L by rw [← HN.out.2]; exact List.take_length] at ho
      refine ⟨rfl, hb5, owned_keepN ho fun k hk _ => Below.heap_setCell wr ⟨g, 4, none⟩ _ k (fun e => hgk ?_), (HR.out.2.mono fun k _ h => .inr h).setCell (fun _ => .inl rfl) _⟩
      have hk : some rk = some k := hk
      injection hk with hk
      rw [hk]
      exact e.symm
end Go.Proofs.Ytfppddnfdinipaa
end
section
namespace Go.Proofs.Ytfppddnfdinipaa
open Go Go.RowKit
theorem yes_any (k : Nat) (w : World) : Calls Try.prog 125 (#[.int .i64 (k : Int)] ++ #[]) w fun e w' => e = .returned (.bool true) ∧ Below w.heap.size w w' := by
  show Calls Try.prog 125 #[.int .i64 (k : Int)] w _
  go_enter Try.func125, Try.ntmps125
  go_wp2
  go_ret
  exact ⟨rfl, Below.refl _ _⟩
/-- is a bit of a number? -/
def wakeB (u : Int) (k : Nat) : Bool := bits .and .u64 u (IntKind.u64.wrap (2 ^ (k % 62))) != 0
set_option maxRecDepth 100000 in
theorem bit_any (u : Int) (k : Nat) (hk : k ≤ 1000000) (q : Nat) (w : World) (hu : w.cell? ⟨q, 0, none⟩ = some (.int .u64 u)) : Calls Try.prog 71 (#[.int .i64 (k : Int)] ++ #[.pointer (some ⟨q, 0, none⟩)]) w fun e w' => e = .returned (.bool (wakeB u k)) ∧ Below w.heap.size w w' := by
  show Calls Try.prog 71 #[.int .i64 (k : Int), .pointer (some ⟨q, 0, none⟩)] w _
  go_enter Try.func71, Try.ntmps71
  go_wp2_with fail
  go_quiet (fail)
  go_wp2_with fail
  go_ret
  exact ⟨rfl, below_drewN (Below.refl _ _) _⟩
/-- all that is pending is kept -/
def Dv.flush (D : Dv) : Int × Dv :=
  if D.dn then (10, D) else
  let t := tick D.de D.fu D.dn
  (t.1, { D with de := t.2.1, fu := t.2.2.1, dn := t.2.2.2, kept := if t.1 = 0 then settleL (fun _ => true) 0 D.pend D.kept else D.kept, pend := if t.1 = 0 then [] else D.pend })
def Dv.wake (D : Dv) (x : Int) : Int × Dv :=
  if D.dn then (0, { de := D.de, fu := 0, dn := false, kept := settleL (wakeB (IntKind.u64.wrap x)) 0 D.pend D.kept, pend := [] }) else (15, D)
theorem Dv.Ok.settled {D : Dv} (h : D.Ok) (f : Nat → Bool) {de fu : Int} (dn : Bool) (hde : 0 ≤ de) (hfu : 0 ≤ fu ∧ fu ≤ 9223372036854775807) : Dv.Ok { de := de, fu := fu, dn := dn, kept := settleL f 0 D.pend D.kept, pend := [] } :=
  ⟨by rw [settle_len]; exact h.n1, by rw [settle_len]; exact h.n2, settle_all f _ _ _ (fun p hp => (h.p64 p hp).1) h.k64, by simp, hde, hfu⟩
theorem left_settled {w w' : World} {g rk c : Nat} {vp : Value} {K : List (List UInt8)} {de fu : Int} {dn : Bool} (hb : Blk w' g 150 (dv de fu dn (.slice (some ⟨rk, 0, none⟩) K.length c) (.slice none 0 0))) (hk : w'.ownsRow 0 213 64 (.slice (some ⟨rk, 0, none⟩) K.length c) K.length (keptCells K))
    (ht : Turned (fun b => b = g ∨ b = rk) w w') (hok : Dv.Ok { de := de, fu := fu, dn := dn, kept := K, pend := [] }) : Left w (Foot g rk vp) g { de := de, fu := fu, dn := dn, kept := K, pend := [] } w' := by
  refine ⟨Foot g rk (.slice none 0 0), ⟨rk, c, _, rfl, hb, hk, ⟨rfl, .inl ⟨rfl, rfl⟩⟩, hok⟩, ht.mono fun k _ h => ?_, ?_⟩
  · rcases h with h | h
    · exact .inl h
    · exact .inr (.inl h)
  · rintro k (h | h | h)
    · exact .inl (.inl h)
    · exact .inl (.inr (.inl h))
    · cases h
set_option maxRecDepth 100000 in
set_option maxHeartbeats 1000000 in
theorem flush_any {D : Dv} {F : Nat → Prop} {g : Nat} (w : World) (h : DevAt w F g D) (hde : D.de ≤ 1000000000) (hm : D.pend.length ≤ 100000) :
    Calls Try.prog 68 #[.pointer (some ⟨g, 0, none⟩)] w fun e w' => e = .returned (.int .i64 D.flush.1) ∧ Left w F g D.flush.2 w' := by
  have h0 := h
  obtain ⟨rk, c, vp, rfl, hb, hk, hp, hok⟩ := h
  have HO := hide hok
  have H := hide (And.intro hb (And.intro hk (And.intro hp h0)))
  clear hb hk hp h0
  cases hdn : D.dn with
  | true =>
    rw [show D.flush = (10, D) by simp [Dv.flush, hdn]]
    go_enter Try.func68, Try.ntmps68
    go_wp2_with fail
    refine (able_any _ H.out.1).mono ?_
    rintro e w' ⟨rfl, rfl⟩
    rw [hdn, if_pos rfl]
    dsimp only
    go_wp2_with fail
    go_ret
    exact ⟨rfl, .same H.out.2.2.2⟩
  | false =>
    have Hb := H.out.1
    rw [hdn] at Hb
    rcases tick_cases D.de D.fu with ⟨hf, ht⟩ | ⟨fu', ht, hf⟩
    · have ok' := hok.ticked ht D.pend hok.p64 true
      rw [show D.flush = (10, { D with de := D.de, fu := 0, dn := true }) by simp [Dv.flush, hdn, ht]]
      have HT := hide (And.intro ht (And.intro hok.de hok.fu))
      have HX := hide ok'
      clear ok' hok ht
      go_enter Try.func68, Try.ntmps68
      go_wp2_with fail
      refine (able_any _ Hb).mono ?_
      rintro e w' ⟨rfl, rfl⟩
      rw [if_neg (by simp)]
      dsimp only
      go_wp2_with fail
      refine (next_any _ _ ⟨HT.out.2.1, hde⟩ HT.out.2.2 Hb).mono ?_
      rintro e w1 ⟨rfl, hb1, hg1⟩
      rw [HT.out.1] at hb1 ⊢
      dsimp only
      have H1 := hide (And.intro hb1 hg1)
      clear hb1 hg1
      go_wp2_with fail
      go_ret
      exact ⟨rfl, left_own Hb H.out.2.1 H.out.2.2.1 H1.out.1 H1.out.2 rfl rfl HX.out⟩
    · have ok' := hok.settled (fun _ => true) false (show 0 ≤ D.de + 1 by have := hok.de; omega) (show 0 ≤ fu' ∧ fu' ≤ 9223372036854775807 by have := hok.fu; exact ⟨hf.1 this.1, by omega⟩)
      rw [show D.flush = (0, { de := D.de + 1, fu := fu', dn := false, kept := settleL (fun _ => true) 0 D.pend D.kept, pend := [] }) by simp [Dv.flush, hdn, ht]]
      have HT := hide (And.intro ht (And.intro hok.de hok.fu))
      have HX := hide ok'
      clear ok' hok ht
      go_enter Try.func68, Try.ntmps68
      go_wp2_with fail
      refine (able_any _ Hb).mono ?_
      rintro e w' ⟨rfl, rfl⟩
      rw [if_neg (by simp)]
      dsimp only
      go_wp2_with fail
      refine (next_any _ _ ⟨HT.out.2.1, hde⟩ HT.out.2.2 Hb).mono ?_
      rintro e w1 ⟨rfl, hb1, hg1⟩
      rw [HT.out.1] at hb1 ⊢
      dsimp only
      have H1 := hide (And.intro hb1 hg1)
      clear hb1 hg1
      go_wp2_with fail
      have hkg : rk ≠ g := fun e => owned_neN H.out.2.1 Hb (by decide) (by rw [← e]; rfl)
      have hpg : vp.ownBlock ≠ some g := owned_neN H.out.2.2.1 Hb (by decide)
      have hk1 := owned_keepN H.out.2.1 (w' := w1) fun k hk hl => H1.out.2.block k hl (fun e => hkg (by have hk : some rk = some k := hk; injection hk with hk; injection e with e; rw [hk, e]))
      have hp1 := owned_keepN H.out.2.2.1 (w' := w1) fun k hk hl => H1.out.2.block k hl (fun e => hpg (by rw [hk, e]))
      refine (settle_any 125 #[] (fun _ => true) D.kept D.pend w1 (by omega) HO.out.n2 rfl rfl H1.out.1 hk1 hp1 HO.out.k64 HO.out.p64 (fun _ _ => by kernel_rfl) (fun W k _ _ => yes_any k W)).mono ?_
      rintro e w2 ⟨rfl, hb2, hk2, ht2⟩
      have H2 := hide (And.intro hb2 (And.intro hk2 ht2))
      clear hb2 hk2 ht2 hk1 hp1
      dsimp only
      go_wp2_with fail
      go_ret
      have el : D.kept.length = (settleL (fun _ => true) 0 D.pend D.kept).length := (settle_len ..).symm
      have h2 := H2.out
      rw [el] at h2
      refine ⟨rfl, left_settled h2.1 h2.2.1 ((Turned.of_grown H1.out.2 (fun k h _ => .inl (by injection h with h; exact h.symm))).trans h2.2.2) HX.out⟩
set_option maxRecDepth 100000 in
set_option maxHeartbeats 1000000 in
theorem wake_any {D : Dv} {F : Nat → Prop} {g : Nat} (x : Int) (w : World) (h : DevAt w F g D) (hm : D.pend.length ≤ 100000) :
    Calls Try.prog 38 #[.pointer (some ⟨g, 0, none⟩), .int .i64 x] w fun e w' => e = .returned (.int .i64 (D.wake x).1) ∧ Left w F g (D.wake x).2 w' := by
  have h0 := h
  obtain ⟨rk, c, vp, rfl, hb, hk, hp, hok⟩ := h
  have HO := hide hok
  have H := hide (And.intro hb (And.intro hk (And.intro hp h0)))
  clear hb hk hp h0
  cases hdn : D.dn with
  | false =>
    rw [show D.wake x = (15, D) by simp [Dv.wake, hdn]]
    go_enter Try.func38, Try.ntmps38
    go_wp2_with fail
    refine (able_any _ H.out.1).mono ?_
    rintro e w' ⟨rfl, rfl⟩
    rw [hdn, if_neg (by simp)]
    dsimp only
    go_wp2_with fail
    go_ret
    exact ⟨rfl, .same H.out.2.2.2⟩
  | true =>
    have Hb := H.out.1
    rw [hdn] at Hb
    have ok' := hok.settled (wakeB (IntKind.u64.wrap x)) false hok.de (show 0 ≤ (0 : Int) ∧ (0 : Int) ≤ 9223372036854775807 by omega)
    rw [show D.wake x = (0, { de := D.de, fu := 0, dn := false, kept := settleL (wakeB (IntKind.u64.wrap x)) 0 D.pend D.kept, pend := [] }) by simp [Dv.wake, hdn]]
    have HX := hide ok'
    clear ok' hok
    go_enter Try.func38, Try.ntmps38
    go_wp2_with fail
    refine (able_any _ Hb).mono ?_
    rintro e w' ⟨rfl, rfl⟩
    rw [if_pos rfl]
    dsimp only
    go_wp2_with fail
    obtain ⟨w1, hw1⟩ : ∃ w1, w1 = w'.alloc (.cells #[.int .u64 (IntKind.u64.wrap x)] 163) := ⟨_, rfl⟩
    have hT1 : Turned (fun _ => False) w' w1 := by rw [hw1]; exact (Turned.refl _ _).alloc _
    have hq : Blk w1 w'.heap.size 163 #[.int .u64 (IntKind.u64.wrap x)] := by rw [hw1]; exact Blk.new _ _ _
    have hb1 := (hT1.block g Hb.lt (fun h => h)).trans Hb
    have hk1 := owned_keepN H.out.2.1 (w' := w1) fun k hk hl => hT1.block k hl (fun h => h)
    have hp1 := owned_keepN H.out.2.2.1 (w' := w1) fun k hk hl => hT1.block k hl (fun h => h)
    have hrk : rk < w'.heap.size := (owned_ltN H.out.2.1 rfl).2
    rw [← hw1]
    have H1 := hide (And.intro hT1 hq)
    clear hw1 hT1 hq
    refine (settle_any 71 #[.pointer (some ⟨w'.heap.size, 0, none⟩)] (wakeB (IntKind.u64.wrap x)) D.kept D.pend w1 (by omega) HO.out.n2 rfl rfl hb1 hk1 hp1 HO.out.k64 HO.out.p64 (fun _ _ => by kernel_rfl) (fun W k hk hW => bit_any _ k (by omega) _ W ?_)).mono ?_
    · rw [World.cell?_of_block (hW.block _ H1.out.2.lt (fun e => by have e : w'.heap.size = rk := e; omega)), H1.out.2.cell]
      rfl
    rintro e w2 ⟨rfl, hb2, hk2, ht2⟩
    have c0 := (hb2.cell 0).trans (dv0 ..)
    have c1 := (hb2.cell 1).trans (dv1 ..)
    have c2 := (hb2.cell 2).trans (dv2 ..)
    have f0 := hb2.frozen 0
    have f1 := hb2.frozen 1
    have f2 := hb2.frozen 2
    have hlt := hb2.lt
    have H2 := hide (And.intro hb2 (And.intro hk2 ht2))
    clear hb2 hk2 ht2 hk1 hp1 hb1
    dsimp only
    go_wp2_with fail
    go_ret
    have el : D.kept.length = (settleL (wakeB (IntKind.u64.wrap x)) 0 D.pend D.kept).length := (settle_len ..).symm
    have h2 := H2.out
    rw [el] at h2
    have hb5 := ((h2.1.set_ 0 (.int .i64 D.de)).set_ 1 (.int .i64 0)).set_ 2 (.bool false)
    rw [dv_set0, dv_set1, dv_set2] at hb5
    have hkg : ∀ k, some rk = some k → k ≠ g := fun k e e2 => owned_neN H.out.2.1 Hb (by decide) (by rw [← e2]; exact e)
    have hT : Turned (fun b => b = g ∨ b = rk) w' w2 := (H1.out.1.mono (fun _ _ h => h.elim)).trans h2.2.2
    refine ⟨rfl, left_settled hb5 (owned_keepN h2.2.1 fun k hk _ => ?_) (((hT.setCell (fun _ => .inl rfl) _).setCell (fun _ => .inl rfl) _).setCell (fun _ => .inl rfl) _) HX.out⟩
    have hk := hkg k hk
    rw [Below.heap_setCell _ ⟨g, 2, none⟩ _ k hk, Below.heap_setCell _ ⟨g, 1, none⟩ _ k hk, Below.heap_setCell _ ⟨g, 0, none⟩ _ k hk]
end Go.Proofs.Ytfppddnfdinipaa
end
section
namespace Go.Proofs.Ytfppddnfdinipaa
open Go Go.RowKit
theorem kept_bv (K : List (List UInt8)) : keptCells K = bv K.flatten := by
  simp [keptCells, bv, List.map_flatten]
  rfl
def Dv.new (n : Nat) : Dv := { de := 0, fu := 0, dn := false, kept := List.replicate n (List.replicate 64 0), pend := [] }
theorem made_zero (m N : Nat) (hm : 0 < m) : (madeCells (bv (List.replicate m 0)).toArray N).toList = List.replicate N (.int .u8 0) := by
  apply List.ext_getElem?
  intro j
  by_cases hj : j < N
  · have h64 : j % m < m := Nat.mod_lt _ hm
    simp [madeCells, hj, bv, h64]
  · simp [madeCells, hj]
theorem new_cells (n : Nat) : (madeCells (Value.agg (bv (List.replicate 64 0)).toArray).cells (n * 64)).toList = keptCells (List.replicate n (List.replicate 64 0)) := by
  rw [kept_bv, List.flatten_replicate_replicate]
  rw [show (Value.agg (bv (List.replicate 64 0)).toArray).cells = (bv (List.replicate 64 0)).toArray from rfl, made_zero 64 _ (by omega)]
  unfold bv
  rw [List.map_replicate]
  rfl
theorem newDev_any (n : Nat) (hn : 1 ≤ n ∧ n ≤ 8192) (w : World) : Calls Try.prog 31 #[.int .i64 (n : Int)] w fun e w' => ∃ g F, e = .returned (.tuple #[.pointer (some ⟨g, 0, none⟩), .int .i64 0]) ∧ DevAt w' F g (Dv.new n) ∧ Below w.heap.size w w' ∧ ∀ k, F k → w.heap.size ≤ k := by
  refine (new_any n hn w).mono ?_
  rintro e w' ⟨g, r, rfl, h1, h2, h3, h4, h5⟩
  rw [new_cells] at h4
  have el : (Dv.new n).kept.length = n := by simp [Dv.new]
  refine ⟨g, Foot g r (.slice none 0 0), rfl, ⟨r, n, _, rfl, by rw [el]; exact h3, by rw [el]; exact owned_baseN h4 (fun _ _ => Nat.zero_le _), ⟨rfl, .inl ⟨rfl, rfl⟩⟩, ?_⟩, h5, ?_⟩
  · refine ⟨by rw [el]; exact hn.1, by rw [el]; exact hn.2, fun b hb => ?_, by simp [Dv.new], by simp [Dv.new], by simp [Dv.new]⟩
    rw [List.eq_of_mem_replicate hb]
    simp
  · rintro k (rfl | rfl | h)
    · omega
    · exact h1
    · cases h
def Dv.crash (D : Dv) : Int × Dv := if D.dn then (10, D) else (0, { D with dn := true })
def Dv.fuse (D : Dv) (x : Int) : Int × Dv := if D.dn then (10, D) else (0, { D with fu := max x 0 })
section
variable {D : Dv} {F : Nat → Prop} {g : Nat}
set_option maxRecDepth 100000
theorem crashDev_any (w : World) (h : DevAt w F g D) : Calls Try.prog 37 #[.pointer (some ⟨g, 0, none⟩)] w fun e w' => e = .returned (.int .i64 D.crash.1) ∧ Left w F g D.crash.2 w' := by
  have h0 := h
  obtain ⟨rk, c, vp, rfl, hb, hk, hp, hok⟩ := h
  cases hdn : D.dn with
  | true =>
    rw [show D.crash = (10, D) by simp [Dv.crash, hdn]]
    have H := hide (And.intro hb h0)
    clear hb h0 hk hp hok
    go_enter Try.func37, Try.ntmps37
    go_wp2_with fail
    refine (able_any _ H.out.1).mono ?_
    rintro e w' ⟨rfl, rfl⟩
    rw [hdn, if_pos rfl]
    dsimp only
    go_wp2_with fail
    go_ret
    exact ⟨rfl, .same H.out.2⟩
  | false =>
    rw [show D.crash = (0, { D with dn := true }) by simp [Dv.crash, hdn]]
    have Hb := hb
    rw [hdn] at Hb
    refine (crash_any w Hb).mono ?_
    rintro e w' ⟨rfl, h1, h2⟩
    exact ⟨rfl, left_own Hb hk hp h1 h2 rfl rfl ⟨hok.n1, hok.n2, hok.k64, hok.p64, hok.de, hok.fu⟩⟩
theorem fuseDev_any (x : Int) (hx : x ≤ 9223372036854775807) (w : World) (h : DevAt w F g D) : Calls Try.prog 80 #[.pointer (some ⟨g, 0, none⟩), .int .i64 x] w fun e w' => e = .returned (.int .i64 (D.fuse x).1) ∧ Left w F g (D.fuse x).2 w' := by
  have h0 := h
  obtain ⟨rk, c, vp, rfl, hb, hk, hp, hok⟩ := h
  cases hdn : D.dn with
  | true =>
    rw [show D.fuse x = (10, D) by simp [Dv.fuse, hdn]]
    have H := hide (And.intro hb h0)
    clear hb h0 hk hp hok
    go_enter Try.func80, Try.ntmps80
    go_wp2_with fail
    refine (able_any _ H.out.1).mono ?_
    rintro e w' ⟨rfl, rfl⟩
    rw [hdn, if_pos rfl]
    dsimp only
    go_wp2_with fail
    go_ret
    exact ⟨rfl, .same H.out.2⟩
  | false =>
    rw [show D.fuse x = (0, { D with fu := max x 0 }) by simp [Dv.fuse, hdn]]
    have Hb := hb
    rw [hdn] at Hb
    refine (fuse_any x w Hb).mono ?_
    rintro e w' ⟨rfl, h1, h2⟩
    refine ⟨rfl, left_own (D' := { D with fu := max x 0 }) Hb hk hp (by rw [hdn]; exact h1) h2 rfl rfl ⟨hok.n1, hok.n2, hok.k64, hok.p64, hok.de, ?_⟩⟩
    show 0 ≤ max x 0 ∧ max x 0 ≤ _
    omega
theorem statDev_any (w : World) (h : DevAt w F g D) : Calls Try.prog 87 #[.pointer (some ⟨g, 0, none⟩)] w fun e w' => e = .returned (.agg #[.int .i64 (D.kept.length : Int), .int .i64 (D.pend.length : Int), .int .i64 D.de, .bool D.dn]) ∧ Below w.heap.size w w' := by
  obtain ⟨rk, c, vp, rfl, hb, hk, hp, hok⟩ := h
  obtain ⟨A, cp, rfl⟩ : ∃ A cp, vp = .slice A D.pend.length cp := by
    rcases owned_formN hp with ⟨h, h0, _⟩ | ⟨r, cap, _, h, _⟩
    · exact ⟨none, 0, by rw [h, h0]⟩
    · exact ⟨_, cap, h⟩
  exact stat_any w hb
end
theorem info_b8 : (Try.prog.info? 5).map (fun i => (i.zero, i.size, i.bytes)) = some (some (.int .u8 0), 1, 1) := by kernel_rfl
theorem take_flat (K : List (List UInt8)) (k : Nat) (b : List UInt8) (h : K[k]? = some b) : (K.take (k + 1)).flatten = (K.take k).flatten ++ b := by
  rw [List.take_add_one, h]
  simp
theorem flat_tl (K : List (List UInt8)) (h : ∀ b ∈ K, b.length = 64) (k : Nat) (hk : k ≤ K.length) : (K.take k).flatten.length = k * 64 := by
  rw [flat_len (s := 64) _ (fun b hb => h b (List.mem_of_mem_take hb)), List.length_take, Nat.min_eq_left hk]
set_option maxRecDepth 100000 in
set_option maxHeartbeats 1000000 in
theorem kept_any {g rk n c : Nat} {vp : Value} {de fu : Int} {dn : Bool} (K : List (List UInt8)) (w : World) (hn : n ≤ 8192) (hKn : K.length = n) (hK : ∀ b ∈ K, b.length = 64)
    (hb : Blk w g 150 (dv de fu dn (.slice (some ⟨rk, 0, none⟩) n c) vp)) (hk : w.ownsRow 0 213 64 (.slice (some ⟨rk, 0, none⟩) n c) n (keptCells K)) :
    Calls Try.prog 86 #[.pointer (some ⟨g, 0, none⟩)] w fun e w' => ∃ v, e = .returned v ∧ w'.ownsRow w.heap.size 5 1 v (n * 64) (bv K.flatten) ∧ Below w.heap.size w w' := by
  obtain ⟨i, hi, hz0, hz1, hz2⟩ := info_parts info_b8
  have c3 := (hb.cell 3).trans (dv3 ..)
  have hlt := hb.lt
  have H := hide (And.intro hb hk)
  have HK := hide hK
  have HN := hide hKn
  clear hb hk hK hKn
  go_enter Try.func86, Try.ntmps86
  go_wp2_with fail
  refine (dnone_any _ H.out.1).mono ?_
  rintro e w' ⟨rfl, rfl⟩
  dsimp only
  go_wp2_with fail
  go_loopw [2, 11] (fun v i wr => ∃ k : Nat, k ≤ n ∧ i = .int .i64 (k : Int) ∧ wr.ownsRow w'.heap.size 5 1 v (k * 64) (bv (K.take k).flatten) ∧ Below w'.heap.size w' wr) (fun _ i _ => n - (intOf i).toNat)
  case atStart => exact ⟨0, by omega, rfl, ⟨rfl, .inl ⟨rfl, rfl⟩⟩, Below.refl _ _⟩
  case round =>
    obtain ⟨k, hkn, rfl, ho, hbel⟩ := hrel
    have hg : Blk wr g 150 (dv de fu dn (.slice (some ⟨rk, 0, none⟩) n c) vp) := H.out.1.below hbel hlt
    by_cases hkm : k < n
    · have n1 : (0 : Int) ≤ (k : Int) := by omega
      have n2 : (k : Int) < (n : Int) := by omega
      obtain ⟨b, hkb⟩ : ∃ b, K[k]? = some b := ⟨K[k]'(by have := HN.out; omega), List.getElem?_eq_getElem _⟩
      have hb64 : b.length = 64 := HK.out b (List.mem_of_getElem? hkb)
      have hbl : (bv b).length = 64 := by rw [bvL, hb64]
      have hkr : wr.ownsRow 0 213 64 (.slice (some ⟨rk, 0, none⟩) n c) n (keptCells K) := owned_keepN H.out.2 fun j _ hl => hbel.block j hl
      have hsrc : Src wr (some ⟨rk, k * 64, none⟩) 64 64 (bv b) := ⟨hbl, (fun h => (by cases h)), bv1 b, fun ad had j u hu => by
        injection had with had
        subst had
        rw [Addr.add_mid]
        exact own_range hkr (k * 64) 64 _ (kept_at K k b HK.out hkb) j u hu⟩
      have c3r := (hg.cell 3).trans (dv3 ..)
      have hltr := hg.lt
      have hsz := hbel.size
      have HR := hide (And.intro ho (And.intro hbel hsrc))
      have HB := hide (take_flat K k b hkb)
      clear ho hbel hsrc hkr hkb c3
      go_wp2_with (first | (at_builtin; (refine wpList_app2 (o := ⟨some 22, _, _, _, _, _⟩) rfl (.tmp 14) (.tmp 21) 66 rfl w'.heap.size 5 i _ 1 Try.underlying66 hi hz0 hz1 hz2 rfl _ (k * 64) _ HR.out.1 _ 64 64 (bv b) HR.out.2.2 (by omega) (by simp only [maxLen]; omega) (by omega) hsz ?_ ?_ ?_); rfl; rfl; intro v1 w1 ho1 hg1 hx1; have H1 := hide (And.intro ho1 hg1); clear ho1 hg1 hx1; dsimp only [Act.put, List.setIfInBounds_toArray, List.set_cons_zero, List.set_cons_succ]))
      go_roundw
      case rel =>
        refine ⟨k + 1, by omega, by go_num, ?_, HR.out.2.1.grown H1.out.2 hsz (fun j hj => (owned_ltN HR.out.1 hj).1)⟩
        rw [HB.out, bvA, Nat.add_mul]
        exact H1.out.1
      case measure => simp [intOf]; omega
    · obtain rfl : k = n := by omega
      have HR := hide (And.intro ho hbel)
      clear ho hbel
      go_wp2_with fail
      go_ret
      have h := HR.out
      rw [show K.take k = K by rw [← HN.out]; exact List.take_length] at h
      exact ⟨_, rfl, h.1, h.2⟩
theorem keptDev_any {D : Dv} {F : Nat → Prop} {g : Nat} (w : World) (h : DevAt w F g D) : Calls Try.prog 86 #[.pointer (some ⟨g, 0, none⟩)] w fun e w' => ∃ v, e = .returned v ∧ w'.ownsRow w.heap.size 5 1 v (D.kept.length * 64) (bv D.kept.flatten) ∧ Below w.heap.size w w' := by
  obtain ⟨rk, c, vp, rfl, hb, hk, hp, hok⟩ := h
  exact kept_any D.kept w hok.n2 rfl hok.k64 hb hk
end Go.Proofs.Ytfppddnfdinipaa
end
section
namespace Go.Proofs.Ytfppddnfdinipaa
open Go Go.RowKit Go.Shelf
attribute [local go_sem] Oper.semAt_some
set_option maxRecDepth 100000 in
set_option maxHeartbeats 2000000 in
theorem latest1_in (F : Fence) (n : Nat) (h1 : F.fn 162) (hro : F.round = none) (hn : 1 ≤ n) (l Bd n₀ g m cp : Nat) (A : Option Addr) (rp : Nat) (hA : 0 < m → A = some ⟨rp, 0, none⟩) (hm : m ≤ 1000000) (hg : g < n₀) (hBd : Bd < n₀) (J Jx : List Nat → World → Prop)
    (hY : ∀ pre x W, J pre W → pre.length < m → YieldAt F (n - 1) Try.prog l #[.pointer (some ⟨rp, (m - 1 - x) * 65, none⟩)] W fun e W' =>
      (e = .returned (.bool true) ∧ J (pre ++ [x]) W' ∧ Below n₀ W W') ∨ (e = .returned (.bool false) ∧ Jx (pre ++ [x]) W'))
    (W : World) (hb : W.cell? ⟨Bd, 0, none⟩ = some (.pointer (some ⟨g, 0, none⟩))) (hc : W.cell? ⟨g, 4, none⟩ = some (.slice A m cp)) (h0 : J [] W) :
    CallsIn F n Try.prog 162 #[.func (.yield l) #[] #[], .pointer (some ⟨Bd, 0, none⟩)] W fun e W' => (∃ v, e = .returned v) ∧
      ((∃ ys, ys = List.range m ∧ J ys W') ∨ (∃ pre, (∃ k, k ≤ m ∧ pre = List.range k) ∧ Jx pre W')) := by
  refine callsIn_of_wp Try.func162 rfl h1 ?_ hro
  simp only [Try.ntmps162, List.size_toArray, List.length_cons, List.length_nil, Nat.reduceAdd, Nat.reduceSub, Array.replicate_succ, Array.replicate_zero, List.push_toArray, List.append_toArray, List.nil_append, List.cons_append]
  gi_wp2
  gi_loopw [3] (fun i wr => ∃ k : Nat, ((k = m ∧ i = .int .i64 (-1)) ∨ ∃ p : Nat, k + p + 1 = m ∧ i = .int .i64 (p : Int)) ∧ J (List.range k) wr ∧ Below n₀ W wr)
    (fun i _ => (intOf i + 1).toNat)
  case atStart =>
    refine ⟨0, ?_, h0, Below.refl _ _⟩
    rcases Nat.eq_zero_or_pos m with h | h
    · exact .inl ⟨h.symm, by rw [h]; rfl⟩
    · obtain ⟨q, rfl⟩ : ∃ q, m = q + 1 := ⟨m - 1, by omega⟩
      exact .inr ⟨q, by omega, by go_num⟩
  case round =>
    obtain ⟨k, hk, hJs, hnx⟩ := hrel
    rcases hk with ⟨rfl, rfl⟩ | ⟨p, hp, rfl⟩
    · gi_wp2
      go_end0
      exact ⟨⟨_, rfl⟩, .inl ⟨_, rfl, hJs⟩⟩
    · obtain ⟨fn, tmps, assign, body, hy, hR⟩ := hY (List.range k) k wr hJs (by rw [List.length_range]; omega)
      rw [show m - 1 - k = p by omega] at hy
      have hb' := (hnx.cell (p := ⟨Bd, 0, none⟩) hBd).trans hb
      have hc' := (hnx.cell (p := ⟨g, 4, none⟩) hg).trans hc
      obtain rfl := hA (by omega)
      have n1 : (0 : Int) ≤ (p : Int) := by omega
      have n2 : (p : Int) < (m : Int) := by omega
      gi_wp2
      refine hR.mono ?_
      rintro e W3 (⟨rfl, hJ3, hk3⟩ | ⟨rfl, hJx3⟩)
      · gi_wp2
        go_roundw
        case rel =>
          refine ⟨k + 1, ?_, by rw [List.range_succ]; exact hJ3, hnx.trans hk3⟩
          rcases Nat.eq_zero_or_pos p with rfl | h
          · exact .inl ⟨by omega, by go_num⟩
          · obtain ⟨q, rfl⟩ : ∃ q, p = q + 1 := ⟨p - 1, by omega⟩
            exact .inr ⟨q, by omega, by go_num⟩
        case measure => simp [intOf]
      · gi_wp2
        refine bodyPost_ret (results_none rfl _ _ _) rfl ?_
        exact ⟨⟨_, rfl⟩, .inr ⟨_, ⟨k + 1, by omega, (List.range_succ).symm⟩, hJx3⟩⟩
theorem latest_any (w : World) (g : Nat) : Calls Try.prog 127 #[.pointer (some ⟨g, 0, none⟩)] w fun e w' => e = .returned (.func (.func 162) #[] #[.pointer (some ⟨w.heap.size, 0, none⟩)]) ∧ w' = w.alloc (.cells #[.pointer (some ⟨g, 0, none⟩)] 69) := by
  go_enter Try.func127, Try.ntmps127
  go_wp2
  go_ret
  exact ⟨rfl, rfl⟩
/-- the pending writes, the last one first, as a loop is owed them -/
theorem latest_stops (F : Fence) (n : Nat) (h1 : F.fn 162) (hro : F.round = none) (hn : 1 ≤ n) (Bd n₀ g m cp : Nat) (A : Option Addr) (rp : Nat) (hA : 0 < m → A = some ⟨rp, 0, none⟩) (hm : m ≤ 1000000) (w : World) (hw : n₀ ≤ w.heap.size) (hg : g < n₀) (hBd : Bd < n₀)
    (hb : w.cell? ⟨Bd, 0, none⟩ = some (.pointer (some ⟨g, 0, none⟩))) (hc : w.cell? ⟨g, 4, none⟩ = some (.slice A m cp)) :
    SeqStopsK F n Try.prog 162 #[.pointer (some ⟨Bd, 0, none⟩)] (fun x : Nat => #[.pointer (some ⟨rp, (m - 1 - x) * 65, none⟩)]) (Below n₀) (fun ys => ys = List.range m) (fun pre => ∃ k, k ≤ m ∧ pre = List.range k) m w := fun l J Jx W hW _ _ hY h0 =>
  latest1_in F n h1 hro hn l Bd n₀ g m cp A rp hA hm hg hBd J Jx hY W ((hW.cell (p := ⟨Bd, 0, none⟩) (by show Bd < _; omega)).trans hb) ((hW.cell (p := ⟨g, 4, none⟩) (by show g < _; omega)).trans hc) h0
end Go.Proofs.Ytfppddnfdinipaa
end
section
namespace Go.Proofs.Ytfppddnfdinipaa
open Go Go.RowKit Go.Shelf
set_option maxRecDepth 100000 in
set_option maxHeartbeats 400000 in
theorem sclone_some (l : List UInt8) (hl : l.length ≤ 1099511627776) (ad : Addr) (cap : Nat) (w : World) (hs : Src w (some ad) l.length cap (bv l)) :
    Calls Try.prog 128 #[.slice (some ad) l.length cap] w fun e w' => ∃ v', e = .returned v' ∧ w'.ownsRow w.heap.size 5 1 v' l.length (bv l) ∧ Below w.heap.size w w' := by
  obtain ⟨i, hi, hz0, hz1, hz2⟩ := info_parts info_u8
  have HS := hide hs
  clear hs
  have hq := fun (w : World) (a : Option Addr) (n c : Nat) => Lib.run_eql_slice_nil (P := Try.prog) w 66 5 a n c 0 0 Try.underlying66
  go_enter Try.func128, Try.ntmps128
  have hown := owned_new w 5
  have HO := hide hown
  clear hown
  go_wp2_with (at_builtin; (refine wpList_app rfl _ _ 66 rfl w.heap.size 5 i (.int .u8 0) 1 Try.underlying66 hi hz0 hz1 hz2 rfl _ 0 [] HO.out (some ad) l.length cap (bv l) ?h0 ?h1 ?h2 ?h3 rfl rfl ?_))
  case h0 => exact HS.out.alloc _
  case h1 => simp only [maxLen]; omega
  case h2 => omega
  case h3 => rw [size_alloc]; omega
  intro v' w1 own1 gr1 _ _
  go_wp2_with fail
  go_ret
  refine ⟨v', rfl, by simpa using own1, ((Below.refl _ _).alloc (Nat.le_refl _) _).grown gr1 (by rw [size_alloc]; omega) ?_⟩
  intro k hk
  injection hk with hk
  change w.heap.size = k at hk
  omega
theorem sclone64 (l : List UInt8) (hl : l.length = 64) (ad : Addr) (w : World) (hs : Src w (some ad) 64 64 (bv l)) :
    Calls Try.prog 128 #[.slice (some ad) 64 64] w fun e w' => ∃ v', e = .returned v' ∧ w'.ownsRow w.heap.size 5 1 v' 64 (bv l) ∧ Below w.heap.size w w' := by
  have h := sclone_some l (by omega) ad 64 w (by rw [hl]; exact hs)
  rwa [hl] at h
/-- the last pending write of a sector -/
def lastL (L : List (Int × List UInt8)) (x : Int) : Option (List UInt8) := (L.reverse.find? fun p => p.1 == x).map (·.2)
def readL (K : List (List UInt8)) (L : List (Int × List UInt8)) (x : Nat) : List UInt8 := (lastL L (x : Int)).getD (K.getD x [])
/-- what has come of the pending writes, and is none of this sector's -/
def Seen (L : List (Int × List UInt8)) (x : Int) (k : Nat) : Prop := ∀ p, L[L.length - 1 - k]? = some p → p.1 ≠ x
theorem last_none {L : List (Int × List UInt8)} {x : Int} (h : ∀ k, k < L.length → Seen L x k) : lastL L x = none := by
  simp only [lastL, Option.map_eq_none_iff, List.find?_eq_none]
  intro p hp
  obtain ⟨k, hk, he⟩ := List.getElem_of_mem hp
  have hk2 : k < L.length := by simpa using hk
  have := h k hk2 p (by rw [← List.getElem?_reverse hk2, List.getElem?_eq_getElem hk, he])
  simpa using this
theorem last_some {L : List (Int × List UInt8)} {x : Int} {k : Nat} {p : Int × List UInt8} (hk : k < L.length) (h : ∀ j, j < k → Seen L x j) (hp : L[L.length - 1 - k]? = some p) (hx : p.1 = x) : lastL L x = some p.2 := by
  rw [← List.getElem?_reverse hk] at hp
  obtain ⟨hk', he⟩ := List.getElem?_eq_some_iff.1 hp
  have : L.reverse.find? (fun p => p.1 == x) = some p := by
    rw [List.find?_eq_some_iff_getElem]
    refine ⟨by simp [hx], k, hk', he, fun j hj => ?_⟩
    have hjl : j < L.length := by omega
    have := h j hj (L.reverse[j]'(by simp; omega)) (by rw [← List.getElem?_reverse hjl, List.getElem?_eq_getElem])
    simpa using this
  rw [lastL, this]
  rfl
theorem own_grown {w w' : World} {base n s : Nat} {e : TypeId} {v : Value} {xs : List Value} {row : Option Nat} (h : w.ownsRow base e s v n xs) (hg : w.grownBy w' row) (hr : ∀ r, row = some r → ∃ o : Obj, w.heap[r]? = some o ∧ o.isCells = false) : w'.ownsRow base e s v n xs := by
  refine owned_keepN h fun k hk hl => hg.block k hl fun e => ?_
  obtain ⟨o, ho, hc⟩ := hr k e.symm
  rcases owned_formN h with ⟨rfl, _⟩ | ⟨g, cap, cur, rfl, _, _, _, hb, _⟩
  · cases hk
  · have hk : some g = some k := hk
    injection hk with hk
    subst hk
    rw [show w.heap[g]? = _ from hb] at ho
    injection ho with ho
    subst ho
    cases hc
attribute [local go_sem] Oper.semAt_some
theorem keepsFrom_below {B : Nat} {W W' : World} (h : Below W.heap.size W W') : KeepsFrom B W W' := ⟨h.size, fun k _ _ hk _ => (h.block k (Array.getElem?_eq_some_iff.1 hk).1).trans hk⟩
set_option maxRecDepth 100000 in
set_option maxHeartbeats 2000000 in
theorem read_ok {g rk n c m : Nat} {vp : Value} {de fu : Int} (K : List (List UInt8)) (L : List (Int × List UInt8)) (x : Nat) (w : World) (hn : n ≤ 8192) (hm : m ≤ 1000000) (hx : x < n) (hKn : K.length = n) (hLm : L.length = m) (hK : ∀ b ∈ K, b.length = 64) (hL : ∀ p ∈ L, p.2.length = 64)
    (hb : Blk w g 150 (dv de fu false (.slice (some ⟨rk, 0, none⟩) n c) vp)) (hk : w.ownsRow 0 213 64 (.slice (some ⟨rk, 0, none⟩) n c) n (keptCells K)) (hp : w.ownsRow 0 215 65 vp m (pendCells L)) :
    Calls Try.prog 72 #[.pointer (some ⟨g, 0, none⟩), .int .i64 (x : Int)] w fun e w' => ∃ v, e = .returned (.tuple #[v, .int .i64 0]) ∧ w'.ownsRow w.heap.size 5 1 v 64 (bv (readL K L x)) ∧ Below w.heap.size w w' := by
  have hd : decide (0 ≤ (x : Int) ∧ (x : Int) < (n : Int)) = true := decide_eq_true (by omega)
  obtain ⟨A, cp, rfl⟩ : ∃ A cp, vp = .slice A m cp := by
    rcases owned_formN hp with ⟨h, h0, _⟩ | ⟨r, cap, _, h, _⟩
    · exact ⟨none, 0, by rw [h, h0]⟩
    · exact ⟨_, cap, h⟩
  obtain ⟨rp, hA⟩ : ∃ rp, 0 < m → A = some ⟨rp, 0, none⟩ := by
    rcases Nat.eq_zero_or_pos m with h | h
    · exact ⟨0, fun h2 => by omega⟩
    · obtain ⟨rp, cap', hvp⟩ := owned_placeN hp h
      injection hvp with e1 _ e2
      exact ⟨rp, fun _ => e1⟩
  have hlt := hb.lt
  have H := hide (And.intro hb (And.intro hk hp))
  have HN := hide (And.intro (And.intro hKn hLm) (And.intro hK hL))
  have HA := hide hA
  clear hb hk hp hKn hLm hK hL hA
  refine (callsIn_wide (n := 5)).1 ?_
  refine callsIn_of_wp_marks Try.func72 rfl trivial ?_ rfl
  simp only [Try.ntmps72, List.size_toArray, List.length_cons, List.length_nil, Nat.reduceAdd, Nat.reduceSub, Array.replicate_succ, Array.replicate_zero, List.push_toArray, List.append_toArray, List.nil_append, List.cons_append]
  refine wpIn_wide.2 ?_
  have b1 := ((Blk.new w 3 #[.int .i64 (x : Int)]).alloc (.cells #[.slice none 0 0] 66)).alloc (.cells #[.int .i64 0] 34)
  have b2 := (Blk.new (w.alloc (.cells #[.int .i64 (x : Int)] 3)) 66 #[.slice none 0 0]).alloc (.cells #[.int .i64 0] 34)
  have b3 := Blk.new ((w.alloc (.cells #[.int .i64 (x : Int)] 3)).alloc (.cells #[.slice none 0 0] 66)) 34 #[.int .i64 0]
  have hB0 : Below w.heap.size w (((w.alloc (.cells #[.int .i64 (x : Int)] 3)).alloc (.cells #[.slice none 0 0] 66)).alloc (.cells #[.int .i64 0] 34)) := (((Below.refl _ w).alloc (Nat.le_refl _) _).alloc (by simp) _).alloc (by simp; omega) _
  have hdv := H.out.1.below hB0 hlt
  simp only [size_alloc] at b2 b3
  have H1 := hide (And.intro hdv (And.intro hB0 (And.intro b1 (And.intro b2 b3))))
  have c1 := b1.cell 0
  clear b1 b2 b3 hdv hB0
  go_wp2_with fail
  refine (able_any _ H1.out.1).mono ?_
  rintro e w' ⟨rfl, hw'⟩
  rw [if_neg (by simp)]
  have H2 : Hid (Blk w' g 150 (dv de fu false (.slice (some ⟨rk, 0, none⟩) n c) (.slice A m cp)) ∧ Below w.heap.size w w' ∧ Blk w' w.heap.size 3 #[.int .i64 (x : Int)] ∧ Blk w' (w.heap.size + 1) 66 #[.slice none 0 0] ∧ Blk w' (w.heap.size + 1 + 1) 34 #[.int .i64 0] ∧ w'.heap.size = w.heap.size + 1 + 1 + 1) := hide (by
    rw [hw']
    have h := H1.out
    exact ⟨h.1, h.2.1, h.2.2.1, h.2.2.2.1, h.2.2.2.2, by simp⟩)
  have c1 := H2.out.2.2.1.cell 0
  clear hw' H1
  dsimp only
  go_wp2_with fail
  refine (has_any _ hn (x : Int) (by omega) H2.out.1).mono ?_
  rintro e w1 ⟨rfl, rfl⟩
  rw [hd]
  dsimp only
  go_wp2_with fail
  refine (latest_any _ g).mono ?_
  rintro e W0 ⟨rfl, hW0⟩
  dsimp only
  have hbB : Blk W0 w1.heap.size 69 #[.pointer (some ⟨g, 0, none⟩)] := by rw [hW0]; exact Blk.new _ _ _
  have hb10 : Below w1.heap.size w1 W0 := by rw [hW0]; exact (Below.refl _ _).alloc (Nat.le_refl _) _
  have hs0 : W0.heap.size = w.heap.size + 1 + 1 + 1 + 1 := by rw [hW0, size_alloc, H2.out.2.2.2.2.2]
  clear hW0
  have cg4 : W0.cell? ⟨g, 4, none⟩ = some (.slice A m cp) := ((H2.out.1.below hb10 H2.out.1.lt).cell 4).trans (dv4 ..)
  have hB1 : Below w.heap.size w W0 := H2.out.2.1.trans (Below.mono hb10 (by rw [H2.out.2.2.2.2.2]; omega))
  have hI0 : (∀ y ∈ ([] : List Nat), Seen L (x : Int) y) ∧ W0.cell? ⟨w.heap.size, 0, none⟩ = some (.int .i64 (x : Int)) ∧ (W0.cell? ⟨w.heap.size + 1, 0, none⟩ = some (.slice none 0 0) ∧ W0.frozen? ⟨w.heap.size + 1, 0, none⟩ = false) ∧ W0.cell? ⟨w.heap.size + 1 + 1, 0, none⟩ = some (.int .i64 0) ∧ W0.frozen? ⟨w.heap.size + 1 + 1, 0, none⟩ = false := by
    have h1 := H2.out.2.2.1.below hb10 H2.out.2.2.1.lt
    have h2 := H2.out.2.2.2.1.below hb10 H2.out.2.2.2.1.lt
    have h3 := H2.out.2.2.2.2.1.below hb10 H2.out.2.2.2.2.1.lt
    exact ⟨by simp, h1.cell 0, ⟨h2.cell 0, h2.frozen 0⟩, h3.cell 0, h3.frozen 0⟩
  have hlt1 : w1.heap.size < W0.heap.size := hbB.lt
  have hg0 : g < W0.heap.size := by have := hB1.size; omega
  have HI := hide (And.intro hI0 hB1)
  have HLN : L.length = m := HN.out.1.2
  have HS := hide hs0
  go_wp2_with fail
  refine (wpIn_wide (n := 5)).1 ?_
  refine wpIn_rangeFunc_ownG (F := Fence.wide) (n := 5) (α := Nat) rfl (by omega) (gf := 162) (lb := #[.pointer (some ⟨w1.heap.size, 0, none⟩)]) rfl trivial (enters_of Try.func162 (by kernel_rfl) rfl)
    (latest_stops Fence.wide 4 trivial rfl (by omega) w1.heap.size W0.heap.size g m cp A rp HA.out hm W0 (Nat.le_refl _) hg0 hlt1 (hbB.cell 0) cg4) belowK_t (belowK_b (Nat.le_refl _)) (Below.refl _ _) (fun _ => rfl)
    (fun pre W => ((∀ y ∈ pre, Seen L (x : Int) y) ∧ W.cell? ⟨w.heap.size, 0, none⟩ = some (.int .i64 (x : Int)) ∧ (W.cell? ⟨w.heap.size + 1, 0, none⟩ = some (.slice none 0 0) ∧ W.frozen? ⟨w.heap.size + 1, 0, none⟩ = false) ∧ W.cell? ⟨w.heap.size + 1 + 1, 0, none⟩ = some (.int .i64 0) ∧ W.frozen? ⟨w.heap.size + 1 + 1, 0, none⟩ = false) ∧ Below w.heap.size w W)
    (fun c pre W => (c = .ret ∧ ∃ ini last, pre = ini ++ [last] ∧ (∀ y ∈ ini, Seen L (x : Int) y) ∧ ∃ b, L[L.length - 1 - last]? = some ((x : Int), b) ∧ ∃ v, W.cell? ⟨w.heap.size + 1, 0, none⟩ = some v ∧ W.ownsRow w.heap.size 5 1 v 64 (bv b) ∧ W.cell? ⟨w.heap.size + 1 + 1, 0, none⟩ = some (.int .i64 0)) ∧ Below w.heap.size w W)
    (OwnFrom.and (Own.from (fun s A B row hs hg hr => ⟨hs.1, cell_kept hs.2.1 hg hr, ⟨cell_kept hs.2.2.1.1 hg hr, (frozen_kept hs.2.2.1.1 hg hr).trans hs.2.2.1.2⟩, cell_kept hs.2.2.2.1 hg hr, (frozen_kept hs.2.2.2.1 hg hr).trans hs.2.2.2.2⟩) _) (ownFrom_below (Nat.le_refl _) (by rw [HS.out]; omega)))
    (fun c => OwnFrom.and (Own.from (fun s A B row hs hg hr => by obtain ⟨hc, ini, last, e1, e2, p, e3, v, e5, e6, e7⟩ := hs; exact ⟨hc, ini, last, e1, e2, p, e3, v, cell_kept e5 hg hr, own_grown e6 hg hr, cell_kept e7 hg hr⟩) _) (ownFrom_below (Nat.le_refl _) (by rw [HS.out]; omega)))
    HI.out
    (fun y => { tmps := #[Value.pointer (some ⟨g, 0, none⟩), Value.int .i64 (x : Int), undef, Value.pointer (some ⟨w.heap.size, 0, none⟩), Value.pointer (some ⟨w.heap.size + 1, 0, none⟩), Value.pointer (some ⟨w.heap.size + 1 + 1, 0, none⟩), Value.int .i64 0, Value.pointer (some ⟨rp, (m - 1 - y) * 65, none⟩), Value.pointer (some ⟨g, 0, none⟩), Value.int .i64 0, Value.int .i64 0, Value.bool false, undef, Value.pointer (some ⟨g, 0, none⟩), Value.int .i64 (x : Int), Value.bool true, Value.bool false, Value.pointer (some ⟨g, 0, none⟩), Value.func (Fn.func 162) #[] #[.pointer (some ⟨w1.heap.size, 0, none⟩)], Value.pointer (some ⟨rp, (m - 1 - y) * 65, none⟩), undef, undef, undef, undef, undef, undef, undef, undef, undef, undef, undef, undef, undef, undef, undef, undef, undef, undef, undef], defers := [] }) ?assign ?body ?done ?stop
  case assign =>
    intro l y W K hK
    gi_wp2
    exact hK
  case body =>
    rintro l pre y W ⟨⟨hse, hcx, ⟨hc4, hf4⟩, hc5, hf5⟩, hB⟩ hlen
    have hm0 : 0 < m := by omega
    obtain rfl := HA.out hm0
    have hpr : W.ownsRow 0 215 65 (.slice (some ⟨rp, 0, none⟩) m cp) m (pendCells L) := owned_keepN H.out.2.2 fun k _ hl => hB.block k hl
    obtain ⟨p, hpj⟩ : ∃ p, L[m - 1 - y]? = some p := ⟨L[m - 1 - y]'(by omega), List.getElem?_eq_getElem _⟩
    have hp64 : p.2.length = 64 := HN.out.2.2 p (List.mem_of_getElem? hpj)
    obtain ⟨q, hq⟩ : ∃ q, q = (m - 1 - y) * 65 := ⟨_, rfl⟩
    have hrange : W.rangeAt rp q (sh p.1 p.2) := own_range hpr q 65 _ (by rw [hq]; exact pend_at L (m - 1 - y) p HN.out.2.2 hpj)
    have hcat : W.cell? ⟨rp, q, none⟩ = some (.int .i64 p.1) := hrange 0 _ rfl
    have hsrc : Src W (some ⟨rp, q + 1, none⟩) p.2.length 64 (bv p.2) := ⟨bvL _, (fun h => (by cases h)), bv1 _, fun ad had j u hu => by
      injection had with had
      subst had
      rw [Addr.add_mid, Nat.add_assoc]
      refine hrange (1 + j) u ?_
      rw [Nat.add_comm]
      simpa [sh, hp64] using hu⟩
    rw [hp64] at hsrc
    have HSR : Hid (Src W.drew (some ⟨rp, q + 1, none⟩) 64 64 (bv p.2)) := hide ⟨hsrc.len, hsrc.none_, hsrc.one, hsrc.cells⟩
    have HP := hide hpj
    have HSE := hide hse
    have HBB := hide hB
    have HQ := hide hq
    clear hsrc hrange hpj hpr hse hB hI0 hB1 HI hb10 hbB H2
    dsimp only
    rw [← hq]
    clear hq
    have hbW := HBB.out.size
    gi_wp2
    gi_region
    all_goals gi_wp2_with fail
    all_goals first
      | (refine ⟨trivial, (CallsIn.inRound l (callsIn_wide.2 (sclone64 p.2 hp64 ⟨rp, q + 1, none⟩ W.drew HSR.out))).mono ?_⟩
         rintro e w3 ⟨v, rfl, ho3, hb3⟩
         obtain ⟨k3, cap3, hv3⟩ := owned_placeN ho3 (by omega)
         subst hv3
         have hbW3 : Below W.heap.size W w3 := ⟨hb3.os, hb3.tape, hb3.output, hb3.size, hb3.block⟩
         have c4' := (hb3.cell (p := ⟨w.heap.size + 1, 0, none⟩) (World.block_lt_of_cell? W _ hc4)).trans hc4
         have f4' := (hb3.frozen (p := ⟨w.heap.size + 1, 0, none⟩) (World.block_lt_of_cell? W _ hc4)).trans hf4
         have c5' := (hb3.cell (p := ⟨w.heap.size + 1 + 1, 0, none⟩) (World.block_lt_of_cell? W _ hc5)).trans hc5
         have f5' := (hb3.frozen (p := ⟨w.heap.size + 1 + 1, 0, none⟩) (World.block_lt_of_cell? W _ hc5)).trans hf5
         have h4 := World.block_lt_of_cell? W _ hc4
         have h5 := World.block_lt_of_cell? W _ hc5
         have hk3 : W.heap.size ≤ k3 := (owned_ltN ho3 rfl).1
         have H3 := hide (And.intro ho3 (And.intro hbW3 (And.intro h4 h5)))
         clear ho3 hb3 hbW3 h4 h5
         have hpx : (p.1 == (x : Int)) = true := by assumption
         dsimp only
         gi_wp2
         obtain ⟨ho3, hbW3, h4, h5⟩ := H3.out
         refine ⟨((keepsFrom_below hbW3).trans ((KeepsOthers.setCell _ _ _).from _)).trans ((KeepsOthers.setCell _ _ _).from _), ⟨rfl, pre, y, rfl, HSE.out, p.2, by rw [HP.out, ← eq_of_beq hpx], .slice (some ⟨k3, 0, none⟩) 64 cap3, ?_, ?_, ?_⟩, ?_⟩
         · rw [World.cell?_setCell_other _ _ _ _ (fun e => by simp at e)]
           exact World.cell?_setCell_same' _ _ _ (by rw [c4']; rfl)
         · refine owned_baseN (owned_keepN ho3 fun k hk _ => ?_) (fun k hk => ?_)
           · have hk : some k3 = some k := hk
             injection hk with hk
             rw [Below.heap_setCell _ ⟨w.heap.size + 1 + 1, 0, none⟩ _ k (fun e => by have e : k = w.heap.size + 1 + 1 := e; have h5 : w.heap.size + 1 + 1 < W.heap.size := h5; omega), Below.heap_setCell _ ⟨w.heap.size + 1, 0, none⟩ _ k (fun e => by have e : k = w.heap.size + 1 := e; have h4 : w.heap.size + 1 < W.heap.size := h4; omega)]
           · have hk : some k3 = some k := hk
             injection hk with hk
             omega
         · exact World.cell?_setCell_same' _ _ _ (by rw [World.cell?_setCell_other _ _ _ _ (fun e => by simp at e), c5']; rfl)
         · exact ((HBB.out.trans (Below.mono hbW3 hbW)).setCell (by show w.heap.size ≤ w.heap.size + 1; omega) _).setCell (by show w.heap.size ≤ w.heap.size + 1 + 1; omega) _)
      | (have hpx : (p.1 == (x : Int)) = false := by assumption
         refine ⟨(KeepsOthers.drew W).from _, (Below.refl _ W).drew, ⟨fun z hz => ?_, hcx, ⟨hc4, hf4⟩, hc5, hf5⟩, HBB.out.drew⟩
         rcases List.mem_append.1 hz with hz | hz
         · exact HSE.out z hz
         · obtain rfl := List.mem_singleton.1 hz
           intro p' hp' e
           rw [HLN, HP.out] at hp'
           injection hp' with hp'
           subst hp'
           rw [e] at hpx
           simp at hpx)
  case done =>
    rintro D ys W hD rfl ⟨⟨hse, hcx, ⟨hc4, hf4⟩, hc5, hf5⟩, hB⟩ hK
    have HSE := hide hse
    have HBB := hide hB
    clear hse hB hI0 hB1 HI hb10 hbB
    obtain ⟨b0, hkb⟩ : ∃ b, K[x]? = some b := ⟨K[x]'(by have := HN.out.1.1; omega), List.getElem?_eq_getElem _⟩
    have hb64 : b0.length = 64 := HN.out.2.1 b0 (List.mem_of_getElem? hkb)
    have hdv : Blk W g 150 (dv de fu false (.slice (some ⟨rk, 0, none⟩) n c) (.slice A m cp)) := H.out.1.below HBB.out hlt
    have hkr : W.ownsRow 0 213 64 (.slice (some ⟨rk, 0, none⟩) n c) n (keptCells K) := owned_keepN H.out.2.1 fun j _ hl => HBB.out.block j hl
    have hr : readL K L x = b0 := by
      unfold readL
      rw [last_none (fun k hk => HSE.out k (List.mem_range.2 (by omega)))]
      simp [List.getD, hkb]
    have HR := hide (And.intro hdv (And.intro hkr (And.intro hr hkb)))
    clear hdv hkr hr hkb
    go_wp2_with fail
    let V38 : Value → World → Prop := fun u W' => ∃ k cap, u = .slice (some ⟨k, 0, none⟩) 64 cap ∧ W.heap.size ≤ k ∧ W'.ownsRow W.heap.size 5 1 u 64 (bv b0)
    have hL : ∀ p ∈ ([(38, V38)] : MadeL), MadeOk p.2 := by
      intro p hp
      obtain rfl := List.mem_singleton.1 hp
      refine ⟨?_, ?_⟩
      · rintro u W1 W2 ⟨k, cap, rfl, h1, h2⟩ hx2
        exact ⟨k, cap, rfl, h1, owned_keepN h2 fun j _ hl => hx2.block j hl⟩
      · rintro u W1 ⟨k, cap, rfl, h1, h2⟩
        exact ⟨k, rfl, (owned_ltN h2 rfl).2⟩
    refine wp_made 8 [(38, V38)] (by kernel_rfl) (by kernel_rfl) hL (by simp) (by simp) ?_
    simp only [List.take_succ_cons, List.take_zero, List.drop_succ_cons, List.drop_zero]
    refine made_val (.pointer (some ⟨g, 0, none⟩)) (by kernel_rfl) (by kernel_rfl) (by kernel_rfl) (fun _ _ => by kernel_rfl) ?_
    simp only [Act.put, List.setIfInBounds_toArray, List.set_cons_zero, List.set_cons_succ]
    refine made_val (.pointer (some ⟨g, 0, none⟩)) (by kernel_rfl) (by kernel_rfl) (by kernel_rfl) (fun _ _ => by kernel_rfl) ?_
    simp only [Act.put, List.setIfInBounds_toArray, List.set_cons_zero, List.set_cons_succ]
    refine made_val (.pointer (some ⟨g, 3, none⟩)) (by kernel_rfl) (by kernel_rfl) (by kernel_rfl) (fun _ _ => by kernel_rfl) ?_
    simp only [Act.put, List.setIfInBounds_toArray, List.set_cons_zero, List.set_cons_succ]
    refine made_val (.slice (some ⟨rk, 0, none⟩) n c) (by kernel_rfl) (by kernel_rfl) (by kernel_rfl) (fun W2 hW => exec_load_slice (o := ⟨some 34, _, _, _, _, _⟩) 145 213 (.tmp 33) rfl ⟨g, 3, none⟩ rfl _ W2 Try.underlying145 (((HR.out.1.below hW HR.out.1.lt).cell 3).trans (dv3 ..))) ?_
    simp only [Act.put, List.setIfInBounds_toArray, List.set_cons_zero, List.set_cons_succ]
    refine made_val (.int .i64 (x : Int)) (by kernel_rfl) (by kernel_rfl) (by kernel_rfl) (fun W2 hW => exec_load_cell (o := ⟨some 35, _, _, _, _, _⟩) 3 (.tmp 3) rfl ⟨w.heap.size, 0, none⟩ rfl _ _ W2 Try.underlying3 rfl ((hW.cell (p := ⟨w.heap.size, 0, none⟩) (World.block_lt_of_cell? W _ hcx)).trans hcx)) ?_
    simp only [Act.put, List.setIfInBounds_toArray, List.set_cons_zero, List.set_cons_succ]
    refine made_val (.pointer (some ⟨rk, (x : Int).toNat * 64, none⟩)) (by kernel_rfl) (by kernel_rfl) (by kernel_rfl) (fun W2 _ => exec_index (o := ⟨some 36, _, _, _, _, _⟩) 145 213 (.tmp 34) (.tmp 35) rfl rk n c (x : Int) .i64 rfl rfl ⟨by omega, by omega⟩ 64 Try.underlying145 sz_sect W2) ?_
    simp only [Act.put, List.setIfInBounds_toArray, List.set_cons_zero, List.set_cons_succ]
    rw [show (x : Int).toNat = x from Int.toNat_natCast x]
    refine made_val (.slice (some ⟨rk, x * 64, none⟩) 64 64) (by kernel_rfl) (by kernel_rfl) (by kernel_rfl) (fun _ _ => by kernel_rfl) ?_
    simp only [Act.put, List.setIfInBounds_toArray, List.set_cons_zero, List.set_cons_succ]
    refine made_newcall 38 V38 128 #[.slice (some ⟨rk, x * 64, none⟩) 64 64] hL (by kernel_rfl) (by kernel_rfl) rfl rfl (fun _ => by kernel_rfl) (fun W2 hW => ?hcl) ?_
    case hcl =>
      have hs2 : Src W2 (some ⟨rk, x * 64, none⟩) 64 64 (bv b0) := ⟨by rw [bvL, hb64], (fun h => (by cases h)), bv1 b0, fun ad had j u hu => by
        injection had with had
        subst had
        rw [Addr.add_mid]
        exact own_range (owned_keepN HR.out.2.1 fun j _ hl => hW.block j hl) (x * 64) 64 _ (kept_at K x b0 HN.out.2.1 HR.out.2.2.2) j u hu⟩
      refine (sclone64 b0 hb64 _ W2 hs2).mono ?_
      rintro e W3 ⟨v, rfl, ho, hb3⟩
      obtain ⟨k, cap, hv⟩ := owned_placeN ho (by omega)
      have hk := (owned_ltN ho (g := k) (by rw [hv]; rfl)).1
      have hsz : W.heap.size ≤ W2.heap.size := hW.size
      exact ⟨v, k, rfl, hb3, ⟨k, cap, hv, by omega, owned_baseN ho fun j hj => by have := (owned_ltN ho hj).1; omega⟩, by rw [hv]; rfl, hk⟩
    simp only [Act.put, List.setIfInBounds_toArray, List.set_cons_zero, List.set_cons_succ]
    show ∀ w', _ → _
    intro W4 hb4
    simp only [ended]
    rintro u ⟨k, cap, rfl, hk, ho⟩ _
    simp only [Act.put, List.setIfInBounds_toArray, List.set_cons_zero, List.set_cons_succ]
    have hb4 : Below W.heap.size W W4 := hb4
    have c4' := (hb4.cell (p := ⟨w.heap.size + 1, 0, none⟩) (World.block_lt_of_cell? W _ hc4)).trans hc4
    have f4' := (hb4.frozen (p := ⟨w.heap.size + 1, 0, none⟩) (World.block_lt_of_cell? W _ hc4)).trans hf4
    have c5' := (hb4.cell (p := ⟨w.heap.size + 1 + 1, 0, none⟩) (World.block_lt_of_cell? W _ hc5)).trans hc5
    have f5' := (hb4.frozen (p := ⟨w.heap.size + 1 + 1, 0, none⟩) (World.block_lt_of_cell? W _ hc5)).trans hf5
    have h4 : w.heap.size + 1 < W.heap.size := World.block_lt_of_cell? W _ hc4
    have h5 : w.heap.size + 1 + 1 < W.heap.size := World.block_lt_of_cell? W _ hc5
    have HO := hide ho
    have HB4 := hide hb4
    clear ho hb4
    go_wp2_with fail
    have hDW : D < W.heap.size := (Array.getElem?_eq_some_iff.1 hK).1
    have hK4 : W4.heap[D]? = some (.deferred (some [])) := (HB4.out.block D hDW).trans hK
    obtain ⟨w5, hw5⟩ : ∃ w5, w5 = (W4.setCell ⟨w.heap.size + 1, 0, none⟩ (.slice (some ⟨k, 0, none⟩) 64 cap)).setCell ⟨w.heap.size + 1 + 1, 0, none⟩ (.int .i64 0) := ⟨_, rfl⟩
    have hK5 : w5.heap[D]? = some (.deferred (some [])) := by rw [hw5]; exact (KeepsOthers.setCell _ _ _).same D _ ((KeepsOthers.setCell _ _ _).same D _ hK4 rfl) rfl
    have hc4' : w5.cell? ⟨w.heap.size + 1, 0, none⟩ = some (.slice (some ⟨k, 0, none⟩) 64 cap) := by
      rw [hw5, World.cell?_setCell_other _ _ _ _ (fun e => by simp at e)]
      exact World.cell?_setCell_same' _ _ _ (by rw [c4']; rfl)
    have hc5' : w5.cell? ⟨w.heap.size + 1 + 1, 0, none⟩ = some (.int .i64 0) := by
      rw [hw5]
      exact World.cell?_setCell_same' _ _ _ (by rw [World.cell?_setCell_other _ _ _ _ (fun e => by simp at e), c5']; rfl)
    have ho5 : w5.ownsRow w.heap.size 5 1 (.slice (some ⟨k, 0, none⟩) 64 cap) 64 (bv b0) := by
      rw [hw5]
      refine owned_baseN (owned_keepN HO.out fun j hj _ => ?_) (fun j hj => ?_)
      · have hj : some k = some j := hj
        injection hj with hj
        rw [Below.heap_setCell _ ⟨w.heap.size + 1 + 1, 0, none⟩ _ j (fun e => by have e : j = w.heap.size + 1 + 1 := e; omega), Below.heap_setCell _ ⟨w.heap.size + 1, 0, none⟩ _ j (fun e => by have e : j = w.heap.size + 1 := e; omega)]
      · have hj : some k = some j := hj
        injection hj with hj
        omega
    have hB5 : Below w.heap.size w w5 := by
      rw [hw5]
      exact ((HBB.out.trans (Below.mono HB4.out HBB.out.size)).setCell (by show w.heap.size ≤ w.heap.size + 1; omega) _).setCell (by show w.heap.size ≤ w.heap.size + 1 + 1; omega) _
    rw [← hw5]
    clear hw5
    refine ⟨by simp, .inl ⟨_, _, rfl, run_takeDeferred hK5, ?_⟩⟩
    have hc6 := cell_kept hc4' (grownBy_putObj' _ D (.deferred none)) (fun r e => by cases e; exact ⟨_, hK5, rfl⟩)
    have hc7 := cell_kept hc5' (grownBy_putObj' _ D (.deferred none)) (fun r e => by cases e; exact ⟨_, hK5, rfl⟩)
    refine ⟨.tuple #[.slice (some ⟨k, 0, none⟩) 64 cap, .int .i64 0], ?_, _, rfl, ?_, ?_⟩
    · simp [results, Try.f72, go_sem, hc6, hc7]
    · rw [HR.out.2.2.1]
      exact own_grown ho5 (grownBy_putObj' _ D (.deferred none)) (fun r e => by cases e; exact ⟨_, hK5, rfl⟩)
    · exact hB5.trans (belowK_b (w := w) (Nat.le_refl _) w5 D _ _ (by omega) hK5 rfl rfl)
  case stop =>
    rintro D c' pre W hD ⟨k, hk, rfl⟩ ⟨⟨rfl, ini, last, e1, e2, b, e3, v, hc4, ho, hc5⟩, hB⟩ hK
    refine wpIn_wide.2 ?_
    have HO := hide ho
    have HBB := hide hB
    have HE := hide (And.intro e1 (And.intro e2 e3))
    clear ho hB e1 e2 e3 hI0 hB1 HI hb10 hbB
    go_wp2_with fail
    refine ⟨by simp, .inl ⟨_, _, rfl, run_takeDeferred hK, ?_⟩⟩
    have hc4' := cell_kept hc4 (grownBy_putObj' _ D (.deferred none)) (fun r e => by cases e; exact ⟨_, hK, rfl⟩)
    have hc5' := cell_kept hc5 (grownBy_putObj' _ D (.deferred none)) (fun r e => by cases e; exact ⟨_, hK, rfl⟩)
    obtain ⟨e1, e2, e3⟩ := HE.out
    obtain ⟨k', rfl⟩ : ∃ k', k = k' + 1 := by
      cases k with
      | zero => simp at e1
      | succ k' => exact ⟨k', rfl⟩
    rw [List.range_succ] at e1
    obtain ⟨rfl, e5⟩ := List.append_inj' e1 rfl
    obtain rfl : k' = last := by simpa using e5
    have hr : readL K L x = b := by
      unfold readL
      rw [last_some (by omega) (fun j hj => e2 j (List.mem_range.2 hj)) e3 rfl]
      rfl
    refine ⟨.tuple #[v, .int .i64 0], ?_, v, rfl, ?_, ?_⟩
    · simp [results, Try.f72, go_sem, hc4', hc5']
    · rw [hr]
      exact own_grown HO.out (grownBy_putObj' _ D (.deferred none)) (fun r e => by cases e; exact ⟨_, hK, rfl⟩)
    · exact HBB.out.trans (belowK_b (w := w) (Nat.le_refl _) W D _ _ (by omega) hK rfl rfl)
/-- a sector as it is seen -/
def Dv.read (D : Dv) (x : Nat) : List UInt8 := readL D.kept D.pend x
theorem readDev_any {D : Dv} {F : Nat → Prop} {g : Nat} (x : Nat) (hx : x < D.kept.length) (w : World) (h : DevAt w F g D) (hdn : D.dn = false) (hm : D.pend.length ≤ 1000000) : Calls Try.prog 72 #[.pointer (some ⟨g, 0, none⟩), .int .i64 (x : Int)] w fun e w' => ∃ v, e = .returned (.tuple #[v, .int .i64 0]) ∧ w'.ownsRow w.heap.size 5 1 v 64 (bv (D.read x)) ∧ Below w.heap.size w w' := by
  obtain ⟨rk, c, vp, rfl, hb, hk, hp, hok⟩ := h
  rw [hdn] at hb
  exact read_ok D.kept D.pend x w hok.n2 hm hx rfl rfl hok.k64 (fun p hp => (hok.p64 p hp).1) hb hk hp
end Go.Proofs.Ytfppddnfdinipaa
end
section
namespace Go.Proofs.Ytfppddnfdinipaa
open Go Go.RowKit
/-- a device of one's own: it lies behind block R, what lies ahead of that is as it was -/
structure Mine (R : Nat) (w0 w : World) (F : Nat → Prop) (g : Nat) (D : Dv) : Prop where
  dev : DevAt w F g D
  bel : Below R w0 w
  low : ∀ k, F k → R ≤ k
section
variable {R g : Nat} {w0 w w' : World} {F : Nat → Prop} {D D' : Dv}
theorem Mine.left (h : Mine R w0 w F g D) (hR : R ≤ w0.heap.size) (hl : Left w F g D' w') : ∃ F', Mine R w0 w' F' g D' := by
  obtain ⟨F', h1, h2, h3⟩ := hl
  have hs := h.bel.size
  refine ⟨F', h1, ⟨h2.os.trans h.bel.os, h2.tape.trans h.bel.tape, h2.output.trans h.bel.output, Nat.le_trans hs h2.size, fun k hk => (h2.block k (by omega) (fun hf => by have := h.low k hf; omega)).trans (h.bel.block k hk)⟩, fun k hk => ?_⟩
  rcases h3 k hk with h3 | h3
  · exact h.low k h3
  · omega
theorem Mine.grow (h : Mine R w0 w F g D) (hR : R ≤ w0.heap.size) (hb : Below w.heap.size w w') : Mine R w0 w' F g D :=
  ⟨h.dev.keep fun k hk _ => hb.block k hk, h.bel.trans (Below.mono hb (by have := h.bel.size; omega)), h.low⟩
theorem Mine.new (h : Mine R w0 w F g D) {k : Nat} (hk : w.heap.size ≤ k) : ¬ F k := fun hf => by have := h.dev.lt k hf; omega
theorem mineNew (n : Nat) (hn : 1 ≤ n ∧ n ≤ 8192) (hb : Below R w0 w) (hR : R ≤ w0.heap.size) : Calls Try.prog 31 #[.int .i64 (n : Int)] w fun e w' => ∃ g F, e = .returned (.tuple #[.pointer (some ⟨g, 0, none⟩), .int .i64 0]) ∧ Mine R w0 w' F g (Dv.new n) := by
  refine (newDev_any n hn w).mono ?_
  rintro e w' ⟨g, F, rfl, h1, h2, h3⟩
  have hs := hb.size
  exact ⟨g, F, rfl, h1, hb.trans (Below.mono h2 (by omega)), fun k hk => by have := h3 k hk; omega⟩
theorem mineWrite (h : Mine R w0 w F g D) (hR : R ≤ w0.heap.size) (x : Int) (l : List UInt8) (A : Option Addr) (cap : Nat) (hde : D.de ≤ 1000000000) (hm : D.pend.length ≤ 100000) (hx : -9223372036854775808 ≤ x ∧ x ≤ 9223372036854775807) (hl : l.length ≤ 1000000000)
    (hs : Src w A l.length cap (bv l)) (hsb : ∀ ad, A = some ad → 0 < l.length → ¬ F ad.block) :
    Calls Try.prog 67 #[.pointer (some ⟨g, 0, none⟩), .int .i64 x, .slice A l.length cap] w fun e w' => e = .returned (.int .i64 (D.write x l).1) ∧ ∃ F', Mine R w0 w' F' g (D.write x l).2 :=
  (write_any x l A cap w h.dev hde hm hx hl hs hsb).mono fun _ _ ⟨h1, h2⟩ => ⟨h1, h.left hR h2⟩
theorem mineFlush (h : Mine R w0 w F g D) (hR : R ≤ w0.heap.size) (hde : D.de ≤ 1000000000) (hm : D.pend.length ≤ 100000) : Calls Try.prog 68 #[.pointer (some ⟨g, 0, none⟩)] w fun e w' => e = .returned (.int .i64 D.flush.1) ∧ ∃ F', Mine R w0 w' F' g D.flush.2 :=
  (flush_any w h.dev hde hm).mono fun _ _ ⟨h1, h2⟩ => ⟨h1, h.left hR h2⟩
theorem mineWake (h : Mine R w0 w F g D) (hR : R ≤ w0.heap.size) (x : Int) (hm : D.pend.length ≤ 100000) : Calls Try.prog 38 #[.pointer (some ⟨g, 0, none⟩), .int .i64 x] w fun e w' => e = .returned (.int .i64 (D.wake x).1) ∧ ∃ F', Mine R w0 w' F' g (D.wake x).2 :=
  (wake_any x w h.dev hm).mono fun _ _ ⟨h1, h2⟩ => ⟨h1, h.left hR h2⟩
theorem mineCrash (h : Mine R w0 w F g D) (hR : R ≤ w0.heap.size) : Calls Try.prog 37 #[.pointer (some ⟨g, 0, none⟩)] w fun e w' => e = .returned (.int .i64 D.crash.1) ∧ ∃ F', Mine R w0 w' F' g D.crash.2 :=
  (crashDev_any w h.dev).mono fun _ _ ⟨h1, h2⟩ => ⟨h1, h.left hR h2⟩
theorem mineFuse (h : Mine R w0 w F g D) (hR : R ≤ w0.heap.size) (x : Int) (hx : x ≤ 9223372036854775807) : Calls Try.prog 80 #[.pointer (some ⟨g, 0, none⟩), .int .i64 x] w fun e w' => e = .returned (.int .i64 (D.fuse x).1) ∧ ∃ F', Mine R w0 w' F' g (D.fuse x).2 :=
  (fuseDev_any x hx w h.dev).mono fun _ _ ⟨h1, h2⟩ => ⟨h1, h.left hR h2⟩
theorem mineStat (h : Mine R w0 w F g D) (hR : R ≤ w0.heap.size) : Calls Try.prog 87 #[.pointer (some ⟨g, 0, none⟩)] w fun e w' => e = .returned (.agg #[.int .i64 (D.kept.length : Int), .int .i64 (D.pend.length : Int), .int .i64 D.de, .bool D.dn]) ∧ Mine R w0 w' F g D :=
  (statDev_any w h.dev).mono fun _ _ ⟨h1, h2⟩ => ⟨h1, h.grow hR h2⟩
theorem mineRead (h : Mine R w0 w F g D) (hR : R ≤ w0.heap.size) (x : Nat) (hx : x < D.kept.length) (hdn : D.dn = false) (hm : D.pend.length ≤ 1000000) : Calls Try.prog 72 #[.pointer (some ⟨g, 0, none⟩), .int .i64 (x : Int)] w fun e w' => ∃ v, e = .returned (.tuple #[v, .int .i64 0]) ∧ w'.ownsRow w.heap.size 5 1 v 64 (bv (D.read x)) ∧ Mine R w0 w' F g D :=
  (readDev_any x hx w h.dev hdn hm).mono fun _ _ ⟨v, h1, h2, h3⟩ => ⟨v, h1, h2, h.grow hR h3⟩
theorem mineKept (h : Mine R w0 w F g D) (hR : R ≤ w0.heap.size) : Calls Try.prog 86 #[.pointer (some ⟨g, 0, none⟩)] w fun e w' => ∃ v, e = .returned v ∧ w'.ownsRow w.heap.size 5 1 v (D.kept.length * 64) (bv D.kept.flatten) ∧ Mine R w0 w' F g D :=
  (keptDev_any w h.dev).mono fun _ _ ⟨v, h1, h2, h3⟩ => ⟨v, h1, h2, h.grow hR h3⟩
end
/-- a row of one's own, just made of bytes -/
theorem src_new (w : World) (l : List UInt8) (n cap : Nat) (h : l.length = n) : Src (w.alloc (.cells (bv l).toArray 5)) (some ⟨w.heap.size, 0, none⟩) n cap (bv l) :=
  ⟨by rw [bvL, h], (fun h => by cases h), bv1 l, fun ad had j u hu => by
    injection had with had
    subst had
    rw [Addr.add_mid, Nat.zero_add, (Blk.new w 5 (bv l).toArray).cell]
    simpa using hu⟩
theorem mineWriteNew {R g : Nat} {w0 w : World} {F : Nat → Prop} {D : Dv} (h : Mine R w0 w F g D) (hR : R ≤ w0.heap.size) (x : Int) (b : UInt8) (z : Int) (hz : z = (b.toNat : Int)) (hde : D.de ≤ 1000000000) (hm : D.pend.length ≤ 100000) (hx : -9223372036854775808 ≤ x ∧ x ≤ 9223372036854775807) :
    Calls Try.prog 67 #[.pointer (some ⟨g, 0, none⟩), .int .i64 x, .slice (some ⟨w.heap.size, 0, none⟩) 1 1] (w.alloc (.cells #[.int .u8 z] 5)) fun e w' => e = .returned (.int .i64 (D.write x [b]).1) ∧ ∃ F', Mine R w0 w' F' g (D.write x [b]).2 := by
  subst hz
  have h2 : Mine R w0 (w.alloc (.cells #[.int .u8 (b.toNat : Int)] 5)) F g D := h.grow hR ((Below.refl _ w).alloc (Nat.le_refl _) _)
  exact mineWrite h2 hR x [b] _ 1 hde hm hx (by simp) (src_new w [b] 1 1 rfl) (fun ad had _ => by
    injection had with had
    subst had
    exact h.new (Nat.le_refl _))
/-- the example's device -/
def aw1 : Dv := ((Dv.new 2).write 0 [1]).2
def aw2 : Dv := aw1.flush.2
def aw3 : Dv := (aw2.write 0 [2]).2
def aw4 : Dv := aw3.crash.2
def aw5 (k : Nat) : Dv := (aw4.wake (k : Int)).2
theorem aw_facts : ((Dv.new 2).write 0 [1]).1 = 0 ∧ aw1.flush.1 = 0 ∧ (aw2.write 0 [2]).1 = 0 ∧ aw3.crash.1 = 0 := by decide +kernel
theorem aw_small : aw1.de ≤ 1000000000 ∧ aw1.pend.length ≤ 100000 ∧ aw2.de ≤ 1000000000 ∧ aw2.pend.length ≤ 100000 ∧ aw4.pend.length ≤ 100000 := by decide +kernel
theorem aw_end : ∀ k : Nat, k < 2 → (aw4.wake (k : Int)).1 = 0 ∧ (aw5 k).kept.length = 2 ∧ (aw5 k).dn = false ∧ (aw5 k).pend.length ≤ 1000000 ∧ (aw5 k).read 0 = UInt8.ofNat (1 + k) :: List.replicate 63 0 := by decide +kernel
theorem info_1 : (Try.prog.info? 5).map (fun i => (i.zero, i.size, i.bytes)) = some (some (.int .u8 0), 1, 1) := by kernel_rfl
end Go.Proofs.Ytfppddnfdinipaa
end
section
namespace Go.Proofs.Ytfppddnfdinipaa
open Go.RowKit
structure Deed where
  what : Int
  n : Int
  most : Int
  b : List UInt8
def i64 (z : Int) : Prop := -9223372036854775808 ≤ z ∧ z ≤ 9223372036854775807
/-- a part's four cells -/
structure DeedAt (w : World) (B b o : Nat) (p : Deed) : Prop where
  c0 : w.cell? ⟨b, o, none⟩ = some (.int .i64 p.what)
  c1 : w.cell? ⟨b, o + 1, none⟩ = some (.int .i64 p.n)
  c2 : w.cell? ⟨b, o + 2, none⟩ = some (.int .i64 p.most)
  c3 : ∃ A c, w.cell? ⟨b, o + 3, none⟩ = some (.slice A p.b.length c) ∧ BytesAt w B (.slice A p.b.length c) p.b ∧ (A = none → c = 0)
  k0 : i64 p.what
  k1 : i64 p.n
  k2 : i64 p.most
def DeedsM (w : World) (B : Nat) (v : Value) (ls : List Deed) : Prop :=
  ∃ A cap, v = .slice A ls.length cap ∧ ls.length ≤ cap ∧ (0 < ls.length → ∃ b off, A = some ⟨b, off, none⟩ ∧ b < B ∧ ∀ j, j < ls.length → DeedAt w B b (off + j * 4) (ls.getD j ⟨0, 0, 0, []⟩))
theorem DeedAt.alike {w w' : World} {B b o : Nat} {p : Deed} (h : DeedAt w B b o p) (hb : b < B) (ha : Alike B w w') : DeedAt w' B b o p := by
  obtain ⟨A, c, h1, h2, h3⟩ := h.c3
  have e : ∀ q, w'.cell? ⟨b, q, none⟩ = w.cell? ⟨b, q, none⟩ := fun q => ha.cell (p := ⟨b, q, none⟩) hb
  exact ⟨(e _).trans h.c0, (e _).trans h.c1, (e _).trans h.c2, ⟨A, c, (e _).trans h1, h2.alike ha, h3⟩, h.k0, h.k1, h.k2⟩
theorem DeedsM.alike {w w' : World} {B : Nat} {v : Value} {ls : List Deed} (h : DeedsM w B v ls) (ha : Alike B w w') : DeedsM w' B v ls := by
  obtain ⟨A, cap, hv, hc, hA⟩ := h
  exact ⟨A, cap, hv, hc, fun h0 => by
    obtain ⟨b, off, h1, h2, h3⟩ := hA h0
    exact ⟨b, off, h1, h2, fun j hj => (h3 j hj).alike h2 ha⟩⟩
/-- how many bytes some parts have -/
def many (ls : List Deed) : Nat := (ls.map fun p => p.b.length).sum
theorem many_take (ls : List Deed) (k : Nat) (h : k < ls.length) : many (ls.take (k + 1)) = many (ls.take k) + (ls.getD k ⟨0, 0, 0, []⟩).b.length := by
  unfold many
  rw [List.take_succ_eq_append_getElem h, List.map_append, List.sum_append]
  simp [List.getD, h]
theorem many_take_le (ls : List Deed) (k : Nat) : many (ls.take k) ≤ many ls := by
  have h : many ls = many (ls.take k) + many (ls.drop k) := by
    unfold many
    rw [← List.sum_append, ← List.map_append, List.take_append_drop]
  omega
theorem many_get (ls : List Deed) (k : Nat) (h : k < ls.length) : (ls.getD k ⟨0, 0, 0, []⟩).b.length ≤ many ls := by
  have h1 := many_take ls k h
  have h2 := many_take_le ls (k + 1)
  omega
end Go.Proofs.Ytfppddnfdinipaa
end
section
namespace Go.Proofs.Ytfppddnfdinipaa
open Go Go.RowKit
def greatB (s : Int) (ls : List Deed) : Bool := decide (150 < ls.length) || decide (10000 < many (ls.take 150)) || (decide (60 < s) && decide (s ≤ 8192))
theorem great_no {s : Int} {ls : List Deed} (h : greatB s ls = false) : ls.length ≤ 150 ∧ many ls ≤ 10000 ∧ (s ≤ 60 ∨ 8192 < s) := by
  simp only [greatB, Bool.or_eq_false_iff, decide_eq_false_iff_not, Bool.and_eq_false_iff] at h
  obtain ⟨⟨h1, h2⟩, h3⟩ := h
  have h4 : ls.take 150 = ls := List.take_of_length_le (by omega)
  rw [h4] at h2
  exact ⟨by omega, by omega, by omega⟩
theorem own_blk {w : World} {base g n : Nat} {e : TypeId} {xs : List Value} (h : w.ownsRow base e 1 (.slice (some ⟨g, 0, none⟩) n n) n xs) : Blk w g e xs.toArray ∧ base ≤ g := by
  rcases owned_formN h with ⟨h, _⟩ | ⟨g', cap', cur, h', hb, hn, hc, hh, hs, ht, _⟩
  · cases h
  · injection h' with e1 e2 e3
    injection e1 with e1
    injection e1 with e1
    subst e1 e3
    rw [List.take_of_length_le (by simp; omega)] at ht
    rw [← ht]
    exact ⟨hh, hb⟩
theorem blk_own {w : World} {base g n : Nat} {e : TypeId} {xs : List Value} (h : Blk w g e xs.toArray) (hb : base ≤ g) (hl : xs.length = n) (hm : n ≤ maxLen) : w.ownsRow base e 1 (.slice (some ⟨g, 0, none⟩) n n) n xs :=
  ⟨by omega, .inr ⟨g, n, _, rfl, hb, h, Nat.le_refl _, hm, by simp [hl], by simp [← hl]⟩⟩
theorem pad_copy (l : List UInt8) : ((bv (List.replicate 64 0)).toArray.toList.take 0 ++ (bv l ++ (bv (List.replicate 64 0)).toArray.toList.drop (0 + (bv l).length))).toArray = (bv (pad l)).toArray := by
  have h1 : (bv l).length = l.length := bvL l
  rw [h1, Nat.zero_add, List.take_zero, List.nil_append, pad, bvA]
  congr 2
  unfold bv
  rw [← List.map_drop, List.drop_replicate]
end Go.Proofs.Ytfppddnfdinipaa
end
section
namespace Go.Proofs.Ytfppddnfdinipaa
open Go Go.RowKit
/-- its cells: all that is kept, pending writes, deeds, a fuse, is it down -/
def rdv (va vw : Value) (de fu : Int) (dn : Bool) : Array Value := #[va, vw, .int .i64 de, .int .i64 fu, .bool dn]
theorem rdv0 (va vw : Value) (de fu : Int) (dn : Bool) : (rdv va vw de fu dn)[0]? = some va := rfl
theorem rdv1 (va vw : Value) (de fu : Int) (dn : Bool) : (rdv va vw de fu dn)[1]? = some vw := rfl
theorem rdv2 (va vw : Value) (de fu : Int) (dn : Bool) : (rdv va vw de fu dn)[2]? = some (.int .i64 de) := rfl
theorem rdv3 (va vw : Value) (de fu : Int) (dn : Bool) : (rdv va vw de fu dn)[3]? = some (.int .i64 fu) := rfl
theorem rdv4 (va vw : Value) (de fu : Int) (dn : Bool) : (rdv va vw de fu dn)[4]? = some (.bool dn) := rfl
theorem rdv_set1 (va vw x : Value) (de fu : Int) (dn : Bool) : (rdv va vw de fu dn).setIfInBounds 1 x = rdv va x de fu dn := rfl
theorem rdv_set2 (va vw : Value) (de fu x : Int) (dn : Bool) : (rdv va vw de fu dn).setIfInBounds 2 (.int .i64 x) = rdv va vw x fu dn := rfl
theorem rdv_set3 (va vw : Value) (de fu x : Int) (dn : Bool) : (rdv va vw de fu dn).setIfInBounds 3 (.int .i64 x) = rdv va vw de x dn := rfl
theorem rdv_set4 (va vw : Value) (de fu : Int) (dn x : Bool) : (rdv va vw de fu dn).setIfInBounds 4 (.bool x) = rdv va vw de fu x := rfl
def waitCells (us : List (Int × Value)) : List Value := (us.map fun u => [.int .i64 u.1, u.2]).flatten
/-- the pending writes' own rows -/
def WaitsAt (w : World) (F : Nat → Prop) (ra : Nat) (us : List (Int × Value)) (L : List (Int × List UInt8)) : Prop :=
  us.length = L.length ∧ ∀ (i : Nat) (p : Int × List UInt8), L[i]? = some p → ∃ q c, us[i]? = some (p.1, .slice (some ⟨q, 0, none⟩) 64 c) ∧ F q ∧ q ≠ ra ∧ w.ownsRow 0 5 1 (.slice (some ⟨q, 0, none⟩) 64 c) 64 (bv p.2)
structure RefBlk (w : World) (F : Nat → Prop) (g ra c : Nat) (vw : Value) (us : List (Int × Value)) (D : Dv) : Prop where
  fg : F g
  fa : F ra
  fw : ∀ k, vw.ownBlock = some k → F k
  flt : ∀ k, F k → k < w.heap.size
  blk : Blk w g 179 (rdv (.slice (some ⟨ra, 0, none⟩) (D.kept.length * 64) c) vw D.de D.fu D.dn)
  all : w.ownsRow 0 5 1 (.slice (some ⟨ra, 0, none⟩) (D.kept.length * 64) c) (D.kept.length * 64) (keptCells D.kept)
  row : w.ownsRow 0 228 2 vw D.pend.length (waitCells us)
  wts : WaitsAt w F ra us D.pend
  ok : D.Ok
def RefAt (w : World) (F : Nat → Prop) (g : Nat) (D : Dv) : Prop := ∃ ra c vw us, RefBlk w F g ra c vw us D
theorem WaitsAt.keep {w w' : World} {F : Nat → Prop} {ra : Nat} {us : List (Int × Value)} {L : List (Int × List UInt8)} (h : WaitsAt w F ra us L) (hk : ∀ k, k < w.heap.size → F k → k ≠ ra → w'.heap[k]? = w.heap[k]?) : WaitsAt w' F ra us L :=
  ⟨h.1, fun i p hp => by
    obtain ⟨q, c, h1, h2, h3, h4⟩ := h.2 i p hp
    exact ⟨q, c, h1, h2, h3, owned_keepN h4 fun k hg hl => hk k hl (by injection hg with hg; subst hg; exact h2) (by injection hg with hg; subst hg; exact h3)⟩⟩
theorem WaitsAt.grow {w : World} {F F' : Nat → Prop} {ra : Nat} {us : List (Int × Value)} {L : List (Int × List UInt8)} (h : WaitsAt w F ra us L) (hF : ∀ k, F k → F' k) : WaitsAt w F' ra us L :=
  ⟨h.1, fun i p hp => by
    obtain ⟨q, c, h1, h2, h3, h4⟩ := h.2 i p hp
    exact ⟨q, c, h1, hF q h2, h3, h4⟩⟩
theorem RefBlk.keep {w w' : World} {F : Nat → Prop} {g ra c : Nat} {vw : Value} {us : List (Int × Value)} {D : Dv} (h : RefBlk w F g ra c vw us D) (hs : w.heap.size ≤ w'.heap.size) (hk : ∀ k, k < w.heap.size → F k → w'.heap[k]? = w.heap[k]?) : RefBlk w' F g ra c vw us D :=
  ⟨h.fg, h.fa, h.fw, fun k hf => Nat.lt_of_lt_of_le (h.flt k hf) hs, (hk g h.blk.lt h.fg).trans h.blk, owned_keepN h.all fun k hg hl => hk k hl (by injection hg with hg; subst hg; exact h.fa), owned_keepN h.row fun k hg hl => hk k hl (h.fw k hg), h.wts.keep fun k h1 h2 _ => hk k h1 h2, h.ok⟩
theorem RefAt.keep {w w' : World} {F : Nat → Prop} {g : Nat} {D : Dv} (h : RefAt w F g D) (hs : w.heap.size ≤ w'.heap.size) (hk : ∀ k, k < w.heap.size → F k → w'.heap[k]? = w.heap[k]?) : RefAt w' F g D := by
  obtain ⟨ra, c, vw, us, h⟩ := h
  exact ⟨ra, c, vw, us, h.keep hs hk⟩
theorem RefAt.lt {w : World} {F : Nat → Prop} {g : Nat} {D : Dv} (h : RefAt w F g D) : ∀ k, F k → k < w.heap.size := by
  obtain ⟨ra, c, vw, us, h⟩ := h
  exact h.flt
/-- what a deed leaves -/
def RLeft (w : World) (F : Nat → Prop) (g : Nat) (D : Dv) (w' : World) : Prop := ∃ F', RefAt w' F' g D ∧ Turned F w w' ∧ ∀ k, F' k → F k ∨ w.heap.size ≤ k
theorem RLeft.same {w : World} {F : Nat → Prop} {g : Nat} {D : Dv} (h : RefAt w F g D) : RLeft w F g D w := ⟨F, h, Turned.refl _ _, fun _ h => .inl h⟩
/-- only the device's own block has turned -/
theorem rleft_own {w w' : World} {F : Nat → Prop} {g ra c : Nat} {vw : Value} {us : List (Int × Value)} {D D' : Dv} (h : RefBlk w F g ra c vw us D) (hb : Blk w' g 179 (rdv (.slice (some ⟨ra, 0, none⟩) (D.kept.length * 64) c) vw D'.de D'.fu D'.dn)) (hg : w.grownBy w' (some g)) (ek : D'.kept = D.kept) (ep : D'.pend = D.pend) (hok : D'.Ok) :
    RefBlk w' F g ra c vw us D' ∧ Turned F w w' := by
  have hne : ∀ {n s : Nat} {e : TypeId} {v : Value} {xs : List Value}, w.ownsRow 0 e s v n xs → e ≠ 179 → w'.ownsRow 0 e s v n xs := fun h2 he => owned_keepN h2 fun k hv hl => hg.block k hl (fun e' => owned_neN h2 h.blk he (by rw [hv, e']))
  refine ⟨⟨h.fg, h.fa, h.fw, fun k hf => Nat.lt_of_lt_of_le (h.flt k hf) hg.size, by rw [ek]; exact hb, by rw [ek]; exact hne h.all (by decide), by rw [ep]; exact hne h.row (by decide), ?_, hok⟩, Turned.of_grown hg (fun k e _ => by injection e with e; rw [← e]; exact h.fg)⟩
  rw [ep]
  refine ⟨h.wts.1, fun i p hp => ?_⟩
  obtain ⟨q, c, h1, h2, h3, h4⟩ := h.wts.2 i p hp
  exact ⟨q, c, h1, h2, h3, hne h4 (by decide)⟩
section
set_option maxRecDepth 100000
variable {va vw : Value} {de fu : Int} {dn : Bool} {g : Nat}
theorem rsectors_any {A : Option Addr} {n c : Nat} (w : World) (hn : n ≤ 8192) (hb : Blk w g 179 (rdv (.slice A (n * 64) c) vw de fu dn)) : Calls Try.prog 165 #[.pointer (some ⟨g, 0, none⟩)] w fun e w' => e = .returned (.int .i64 (n : Int)) ∧ w' = w := by
  have c0 := (hb.cell 0).trans (rdv0 ..)
  have hlt := hb.lt
  have hq : ((n * 64 : Nat) : Int).tdiv 64 = (n : Int) := by
    rw [Int.tdiv_eq_ediv_of_nonneg (by omega)]
    omega
  clear hb
  go_enter Try.func165, Try.ntmps165
  go_wp2
  go_ret
  refine ⟨ret_int ?_, rfl⟩
  first | rfl | omega | (rw [← hq]; rfl)
set_option maxHeartbeats 400000 in
theorem rdeed_any (w : World) (hde : 0 ≤ de ∧ de ≤ 1000000000) (hfu : 0 ≤ fu ∧ fu ≤ 9223372036854775807) (hb : Blk w g 179 (rdv va vw de fu false)) : Calls Try.prog 167 #[.pointer (some ⟨g, 0, none⟩)] w fun e w' =>
    e = .returned (.bool (decide ((tick de fu false).1 = 0))) ∧ Blk w' g 179 (rdv va vw (tick de fu false).2.1 (tick de fu false).2.2.1 (tick de fu false).2.2.2) ∧ w.grownBy w' (some g) := by
  have c2 := (hb.cell 2).trans (rdv2 ..)
  have c3 := (hb.cell 3).trans (rdv3 ..)
  have c4 := (hb.cell 4).trans (rdv4 ..)
  have f2 := hb.frozen 2
  have f3 := hb.frozen 3
  have f4 := hb.frozen 4
  have hlt := hb.lt
  have H := hide hb
  have h2 := hde.1
  have h3 := hde.2
  have h4 := hfu.1
  have h5 := hfu.2
  clear hb hde hfu
  by_cases h1 : fu = 1
  · subst h1
    have ht : tick de 1 false = (10, de, 0, true) := by simp [tick]
    rw [ht]
    clear ht
    rw [show decide ((10 : Int) = 0) = false from rfl]
    dsimp only
    go_enter Try.func167, Try.ntmps167
    go_wp2
    go_ret
    have h := (H.out.set_ 3 (.int .i64 0)).set_ 4 (.bool true)
    rw [rdv_set3, rdv_set4] at h
    exact ⟨rfl, h, only_setCell (p := ⟨g, 4, none⟩) (only_setCell (p := ⟨g, 3, none⟩) (World.grownBy.refl _ _) (.inl rfl) _) (.inl rfl) _⟩
  · by_cases h0 : fu = 0
    · subst h0
      have ht : tick de 0 false = (0, de + 1, 0, false) := by simp [tick]
      rw [ht]
      clear ht
      rw [show decide ((0 : Int) = 0) = true from rfl]
      dsimp only
      go_enter Try.func167, Try.ntmps167
      go_wp2
      go_ret
      have h := H.out.set_ 2 (.int .i64 (de + 1))
      rw [rdv_set2] at h
      exact ⟨rfl, h, only_setCell (World.grownBy.refl _ _) (.inl rfl) _⟩
    · have ht : tick de fu false = (0, de + 1, fu - 1, false) := by simp [tick, h1, h0]
      rw [ht]
      have hpos : 0 < fu := by omega
      clear ht
      rw [show decide ((0 : Int) = 0) = true from rfl]
      dsimp only
      go_enter Try.func167, Try.ntmps167
      go_wp2
      go_ret
      have h := (H.out.set_ 3 (.int .i64 (fu - 1))).set_ 2 (.int .i64 (de + 1))
      rw [rdv_set3, rdv_set2] at h
      exact ⟨rfl, h, only_setCell (p := ⟨g, 2, none⟩) (only_setCell (p := ⟨g, 3, none⟩) (World.grownBy.refl _ _) (.inl rfl) _) (.inl rfl) _⟩
end
end Go.Proofs.Ytfppddnfdinipaa
end
section
namespace Go.Proofs.Ytfppddnfdinipaa
open Go Go.RowKit
/-- a row of one's own, its block known, cells in its middle turned -/
theorem own_upd {w : World} {base g n cap s : Nat} {e : TypeId} {xs : List Value} (h : w.ownsRow base e s (.slice (some ⟨g, 0, none⟩) n cap) n xs) : ∃ cur : Array Value, Blk w g e cur ∧ n * s ≤ cur.size ∧ n ≤ cap ∧ ∀ (w' : World) (o : Nat) (vs : List Value), o + vs.length ≤ n * s → Blk w' g e (cur.toList.take o ++ (vs ++ cur.toList.drop (o + vs.length))).toArray → w'.ownsRow base e s (.slice (some ⟨g, 0, none⟩) n cap) n (xs.take o ++ (vs ++ xs.drop (o + vs.length))) := by
  have hl := h.1
  rcases owned_formN h with ⟨h, _⟩ | ⟨g', cap', cur, h', hb, hn, hc, hh, hs, ht, _⟩
  · cases h
  · injection h' with e1 e2 e3
    injection e1 with e1
    injection e1 with e1
    subst e1 e3
    have hns : n * s ≤ cap * s := Nat.mul_le_mul_right _ hn
    refine ⟨cur, hh, by omega, hn, fun w' o vs hf hb' => ?_⟩
    refine ⟨by simp; omega, .inr ⟨g, cap, _, rfl, hb, hb', hn, hc, by simp; omega, ?_⟩⟩
    have e : cur.toList = xs ++ cur.toList.drop (n * s) := by rw [← ht, List.take_append_drop]
    show (cur.toList.take o ++ (vs ++ cur.toList.drop (o + vs.length))).take (n * s) = _
    have e1 : cur.toList.take o = xs.take o := by rw [← ht, List.take_take]; congr 1; omega
    have e2 : cur.toList.drop (o + vs.length) = xs.drop (o + vs.length) ++ cur.toList.drop (n * s) := by
      rw [e, List.drop_append, show o + vs.length - xs.length = 0 by omega, List.drop_zero, ← e]
    rw [e1, e2, ← List.append_assoc, ← List.append_assoc]
    rw [List.take_append_of_le_length (by simp; omega), List.take_of_length_le (by simp; omega), List.append_assoc]
theorem new_zero (n : Nat) : bv (List.replicate (n * 64) 0) = keptCells (List.replicate n (List.replicate 64 0)) := by
  rw [kept_bv, List.flatten_replicate_replicate]
set_option maxRecDepth 100000
set_option maxHeartbeats 400000 in
theorem rnew_any (n : Nat) (hn : 1 ≤ n ∧ n ≤ 8192) (w : World) : Calls Try.prog 78 #[.int .i64 (n : Int)] w fun e w' => ∃ g F, e = .returned (.tuple #[.pointer (some ⟨g, 0, none⟩), .int .i64 0]) ∧ RefAt w' F g (Dv.new n) ∧ Below w.heap.size w w' ∧ ∀ k, F k → w.heap.size ≤ k := by
  obtain ⟨i, hi, hz0, hz1, hz2⟩ := info_parts info_1
  have h1 := hn.1
  have h2 := hn.2
  have hm : (n : Int) * 64 = ((n * 64 : Nat) : Int) := by omega
  have hlt64 : n * 64 ≤ 524288 := by omega
  have i1 : (1 : Int) ≤ (n : Int) := by omega
  have i2 : (n : Int) ≤ 8192 := by omega
  have HM := hide hm
  clear hn hm
  go_enter Try.func78, Try.ntmps78
  go_wp2_with (at_make; rw [HM.out]; refine wpList_make_full _ rfl _ _ 66 rfl w.heap.size 5 i (.int .u8 0) 1 Try.underlying66 hi hz0 hz1 _ _ _ _ (n * 64) rfl rfl ?e0 ?e1 ?e2 ?e3 ?e4 ?_)
  case e0 => rfl
  case e1 => rfl
  case e2 => rw [hz2]; omega
  case e3 => simp only [maxLen]; omega
  case e4 => exact Nat.le_refl _
  intro w1 own1 gr1
  have own1 : w1.ownsRow w.heap.size 5 1 (.slice (some ⟨w.heap.size, 0, none⟩) (n * 64) (n * 64)) (n * 64) (madeCells #[.int .u8 0] (n * 64)).toList := own1
  rw [made_bv] at own1
  have H1 := hide (And.intro own1 gr1)
  clear own1 gr1
  go_wp2_with fail
  go_ret2
  obtain ⟨own1, gr1⟩ := H1.out
  have hlt : w.heap.size < w1.heap.size := (own1.lt _ rfl).2
  have el : (Dv.new n).kept.length = n := by simp [Dv.new]
  have hb : Below w.heap.size w w1 := (Below.refl _ _).grown gr1 (Nat.le_refl _) (by intro k hk; cases hk)
  refine ⟨w1.heap.size, rfl, fun k => k = w.heap.size ∨ k = w1.heap.size, ⟨w.heap.size, n * 64, .slice none 0 0, [], ?_⟩, hb.alloc (by omega) _, fun k hk => by rcases hk with hk | hk <;> omega⟩
  refine ⟨.inr rfl, .inl rfl, fun k hk => (by cases hk), fun k hk => (by rw [size_alloc]; rcases hk with hk | hk <;> omega), by rw [el]; exact Blk.new _ _ _, ?_, ⟨rfl, .inl ⟨rfl, rfl⟩⟩, ⟨rfl, fun i p hp => by simp [Dv.new] at hp⟩, ?_⟩
  · rw [el]
    have h := own1.alloc (.cells (rdv (.slice (some ⟨w.heap.size, 0, none⟩) (n * 64) (n * 64)) (.slice none 0 0) 0 0 false) 179)
    have h := owned_baseN h (base' := 0) (fun _ _ => Nat.zero_le _)
    rw [show keptCells (Dv.new n).kept = bv (List.replicate (n * 64) 0) from (new_zero n).symm]
    exact h
  · refine ⟨by rw [el]; exact h1, by rw [el]; exact h2, fun b hb => ?_, by simp [Dv.new], by simp [Dv.new], by simp [Dv.new]⟩
    rw [List.eq_of_mem_replicate hb]
    simp
theorem rnew_bad (n : Int) (hn : n < 1 ∨ 8192 < n) (w : World) : Calls Try.prog 78 #[.int .i64 n] w fun e w' => e = .returned (.tuple #[.pointer none, .int .i64 2]) ∧ w' = w := by
  rcases Int.lt_or_le n 1 with h | h
  · go_enter Try.func78, Try.ntmps78
    go_wp2
    go_ret2
    exact ⟨rfl, rfl⟩
  · have h2 : 8192 < n := by omega
    clear hn
    go_enter Try.func78, Try.ntmps78
    go_wp2
    go_ret2
    exact ⟨rfl, rfl⟩
section
variable {D : Dv} {F : Nat → Prop} {g : Nat}
theorem rfuse_any (x : Int) (hx : x ≤ 9223372036854775807) (w : World) (h : RefAt w F g D) : Calls Try.prog 81 #[.pointer (some ⟨g, 0, none⟩), .int .i64 x] w fun e w' => e = .returned (.int .i64 (D.fuse x).1) ∧ RLeft w F g (D.fuse x).2 w' := by
  have h0 := h
  obtain ⟨ra, c, vw, us, hr⟩ := h
  have hb := hr.blk
  cases hdn : D.dn with
  | true =>
    rw [show D.fuse x = (10, D) by simp [Dv.fuse, hdn]]
    rw [hdn] at hb
    have c4 := (hb.cell 4).trans (rdv4 ..)
    have hlt := hb.lt
    have H := hide h0
    clear hb h0 hr
    go_enter Try.func81, Try.ntmps81
    go_wp2
    go_ret
    exact ⟨rfl, .same H.out⟩
  | false =>
    rw [show D.fuse x = (0, { D with fu := max x 0 }) by simp [Dv.fuse, hdn]]
    rw [hdn] at hb
    have c4 := (hb.cell 4).trans (rdv4 ..)
    have c3 := (hb.cell 3).trans (rdv3 ..)
    have f3 := hb.frozen 3
    have hlt := hb.lt
    have hfin : ∀ z : Int, z = max x 0 → RLeft w F g { D with fu := max x 0 } (w.setCell ⟨g, 3, none⟩ (.int .i64 z)) := fun z hz => by
      have hb2 := hb.set_ 3 (.int .i64 z)
      rw [rdv_set3, hz, ← hdn] at hb2
      rw [hz]
      have hok := hr.ok
      have h2 := rleft_own hr (D' := { D with fu := max x 0 }) hb2 (only_setCell (World.grownBy.refl _ _) (.inl rfl) _) rfl rfl ⟨hok.n1, hok.n2, hok.k64, hok.p64, hok.de, by show 0 ≤ max x 0 ∧ max x 0 ≤ _; omega⟩
      exact ⟨F, ⟨_, _, _, _, h2.1⟩, h2.2, fun _ h => .inl h⟩
    have HF := hide hfin
    clear hb h0 hr hfin
    rcases Int.lt_or_le x 0 with h | h
    · have h2 : x ≤ 0 := by omega
      go_enter Try.func81, Try.ntmps81
      go_wp2
      go_ret
      exact ⟨rfl, HF.out 0 (by omega)⟩
    · rcases Int.lt_or_le 0 x with h1 | h1
      · go_enter Try.func81, Try.ntmps81
        go_wp2
        go_ret
        exact ⟨rfl, HF.out x (by omega)⟩
      · obtain rfl : x = 0 := by omega
        go_enter Try.func81, Try.ntmps81
        go_wp2
        go_ret
        exact ⟨rfl, HF.out 0 (by omega)⟩
end
end Go.Proofs.Ytfppddnfdinipaa
end
section
namespace Go.Proofs.Ytfppddnfdinipaa
open Go
theorem and_pow_ne (Z m : Nat) : (Z &&& 2 ^ m ≠ 0) ↔ Z.testBit m = true := by
  constructor
  · intro h
    cases hb : Z.testBit m with
    | true => rfl
    | false =>
      exfalso
      apply h
      apply Nat.eq_of_testBit_eq
      intro i
      rw [Nat.testBit_and, Nat.testBit_two_pow, Nat.zero_testBit]
      by_cases e : m = i
      · subst e; rw [hb, Bool.false_and]
      · simp [e]
  · intro h e
    have : (Z &&& 2 ^ m).testBit m = true := by rw [Nat.testBit_and, h, Nat.testBit_two_pow_self]; rfl
    rw [e, Nat.zero_testBit] at this
    cases this
theorem int_bit (z : Int) (m : Nat) (hm : m < 62) : (((z % 18446744073709551616).toNat).testBit m = true) ↔ (z / 2 ^ m) % 2 = 1 := by
  rw [Nat.testBit_eq_decide_div_mod_eq, decide_eq_true_iff]
  have h0 : 0 ≤ z % 18446744073709551616 := Int.emod_nonneg _ (by omega)
  obtain ⟨Z, hZ⟩ : ∃ Z : Nat, z % 18446744073709551616 = (Z : Int) := ⟨(z % 18446744073709551616).toNat, by omega⟩
  rw [hZ, Int.toNat_natCast]
  have hp : (18446744073709551616 : Int) = 2 ^ m * (2 * 2 ^ (63 - m)) := by
    have : (18446744073709551616 : Int) = 2 ^ 64 := by decide
    rw [this, show (2 : Int) * 2 ^ (63 - m) = 2 ^ (63 - m + 1) by rw [Int.pow_succ]; omega, ← Int.pow_add]
    congr 1
    omega
  obtain ⟨q, hq⟩ : ∃ q, z = (Z : Int) + 18446744073709551616 * q := ⟨z / 18446744073709551616, by omega⟩
  have h2m : (0 : Int) < 2 ^ m := Int.pow_pos (by omega)
  have e : z / 2 ^ m = (Z : Int) / 2 ^ m + 2 * (2 ^ (63 - m) * q) := by
    rw [hq, hp, Int.mul_assoc, Int.add_mul_ediv_left _ _ (by omega), Int.mul_assoc]
  rw [e]
  have e2 : ((Z / 2 ^ m : Nat) : Int) = (Z : Int) / 2 ^ m := by
    rw [Int.natCast_ediv]
    simp
  rw [← e2]
  omega
theorem wake_bit (z : Int) (m : Nat) (hm : m < 62) : (bits .and .i64 (z / 2 ^ m) 1 == 1) = (bits .and .u64 (IntKind.u64.wrap z) (IntKind.u64.wrap (2 ^ m)) != 0) := by
  have h1 : bits .and .i64 (z / 2 ^ m) 1 = (z / 2 ^ m) % 2 := by
    have : (BitVec.ofInt 64 (z / 2 ^ m) &&& BitVec.ofInt 64 1).toNat = (((z / 2 ^ m) % 18446744073709551616).toNat) % 2 := by
      rw [BitVec.toNat_and, BitVec.toNat_ofInt, show (BitVec.ofInt 64 1).toNat = 1 by decide, Nat.and_one_is_mod, show ((2 ^ 64 : Nat) : Int) = 18446744073709551616 by decide]
    show IntKind.i64.wrap ((BitVec.ofInt 64 (z / 2 ^ m) &&& BitVec.ofInt 64 1).toNat : Int) = _
    rw [this]
    simp [IntKind.wrap, IntKind.signed, IntKind.bits]
    omega
  have h3 : (2 : Int) ^ m < 9223372036854775808 := by
    have : (2 : Int) ^ m ≤ 2 ^ 61 := by
      have := Nat.pow_le_pow_right (show 0 < 2 by omega) (show m ≤ 61 by omega)
      exact_mod_cast this
    have e : (2 : Int) ^ 61 = 2305843009213693952 := by decide
    omega
  have h4 : (0 : Int) < 2 ^ m := Int.pow_pos (by omega)
  have hw : IntKind.u64.wrap ((2 : Int) ^ m) = 2 ^ m := by
    simp [IntKind.wrap, IntKind.signed, IntKind.bits]
    omega
  have h2 : bits .and .u64 (IntKind.u64.wrap z) (IntKind.u64.wrap (2 ^ m)) = (((z % 18446744073709551616).toNat &&& 2 ^ m : Nat) : Int) := by
    have e1 : (BitVec.ofInt 64 (IntKind.u64.wrap z)).toNat = (z % 18446744073709551616).toNat := by
      rw [BitVec.toNat_ofInt]
      simp [IntKind.wrap, IntKind.signed, IntKind.bits]
    have e2 : (BitVec.ofInt 64 ((2 : Int) ^ m)).toNat = 2 ^ m := by
      rw [BitVec.toNat_ofInt]
      have : ((2 : Int) ^ m) % ((2 ^ 64 : Nat) : Int) = ((2 ^ m : Nat) : Int) := by
        rw [Int.emod_eq_of_lt (by omega) (by omega)]
        simp
      rw [this, Int.toNat_natCast]
    have hlt : (z % 18446744073709551616).toNat &&& 2 ^ m < 18446744073709551616 := Nat.lt_of_le_of_lt (Nat.and_le_left) (by omega)
    rw [hw]
    show IntKind.u64.wrap ((BitVec.ofInt 64 (IntKind.u64.wrap z) &&& BitVec.ofInt 64 ((2 : Int) ^ m)).toNat : Int) = _
    rw [BitVec.toNat_and, e1, e2]
    generalize (z % 18446744073709551616).toNat &&& 2 ^ m = t at hlt
    simp [IntKind.wrap, IntKind.signed, IntKind.bits]
    omega
  rw [h1, h2, Bool.eq_iff_iff]
  have h5 := int_bit z m hm
  have h6 := and_pow_ne (z % 18446744073709551616).toNat m
  rw [beq_iff_eq, ← h5, ← h6]
  simp only [bne_iff_ne, ne_eq]
  omega
end Go.Proofs.Ytfppddnfdinipaa
end
