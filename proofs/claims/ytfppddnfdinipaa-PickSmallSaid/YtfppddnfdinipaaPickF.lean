/- package pick: unname. -/
import Derived.Test.YtfppddnfdinipaaPickE
namespace Go.Proofs.Ytfppddnfdinipaa
open Go Go.RowKit Go.Maps
set_option maxRecDepth 100000
/-- a row is stored at a path -/
theorem SAt.stored {B : Nat} {w : World} {s cb tb hb : Nat} {c : Cvs} {S : Sst} (hS : SAt B w s cb tb hb c S) {p : Pth} (hp : okP p) {l : List Hsh} {u : Value} (hu : OwnH B w u l) (hloc : ∀ k, u.ownBlock = some k → (cvL S p).ownBlock = some k) :
    ∃ w3, (Instr.mapUpdate 100 (.map (some cb)) (.agg (pC p).toArray) u).run Try.prog w = .ok () w3 ∧ SLeft B w s cb tb hb c S (S.add p l u) w3 := by
  obtain ⟨w3, r1, r2, r3⟩ := hS.cmap'.update path_enc hp (t := 100) Try.underlying100 u
  have hcn : (S.cm.map (·.1)).Nodup := by
    have := hS.cmap.nodup
    rw [List.map_map] at this
    exact this
  rw [← cmV_add S p l u] at r2
  have hv0 : ∀ k, (cvL S p).ownBlock = some k → ∃ q ∈ S.cm, q.1 = p ∧ (S.cv q.1).ownBlock = some k := by
    intro k hk
    unfold cvL at hk
    split at hk
    · rename_i hsome
      obtain ⟨l, hl⟩ := Option.isSome_iff_exists.1 hsome
      exact ⟨(p, l), mget_mem hl, rfl, hk⟩
    · cases hk
  have hsame : ∀ k, k ≠ cb → w3.heap[k]? = w.heap[k]? := fun k h1 => r3.2.1 k h1
  have hscb : s ≠ cb := fun e => map_not_cells hS.cmap (by rw [← e]; exact hS.blk)
  have hrcb : ∀ {v : Value} {l : List Hsh}, OwnH B w v l → ∀ k, v.ownBlock = some k → k ≠ cb := fun h k hk e => by
    obtain ⟨cs, hb', _⟩ := ownH_blk h hk
    rw [e] at hb'
    exact map_not_cells hS.cmap hb'
  refine ⟨w3, r1, ⟨hS.own, (hsame s hscb).trans hS.blk, r2, hS.tmap.of_eq (hsame tb hS.maps.1.symm), hS.hmap.of_eq (hsame hb hS.maps.2.1.symm), fun e he => (hS.imap e he).of_eq (hsame _ (hS.maps.2.2.2 e he).1), ?_, hS.low, hS.maps, hS.inner, ?_⟩, ?_, ?_⟩
  · intro q hq
    show OwnH B w3 (if q.1 = p then u else S.cv q.1) q.2
    rcases mput_mem hcn hq with ⟨e1, e2⟩ | ⟨e1, e2⟩
    · rw [if_pos e1, e2]
      exact hu.keep fun k hk _ => hsame k (hrcb hu k hk)
    · rw [if_neg e1]
      exact (hS.rows q e2).keep fun k hk _ => hsame k (hrcb (hS.rows q e2) k hk)
  · intro q hq q' hq' hne k
    show (if q.1 = p then u else S.cv q.1).ownBlock = some k → (if q'.1 = p then u else S.cv q'.1).ownBlock ≠ some k
    rcases mput_mem hcn hq with ⟨e1, e2⟩ | ⟨e1, e2⟩
    · rcases mput_mem hcn hq' with ⟨e3, e4⟩ | ⟨e3, e4⟩
      · exact absurd (e1.trans e3.symm) hne
      · rw [if_pos e1, if_neg e3]
        intro hk
        obtain ⟨q2, hq2, h3, h4⟩ := hv0 k (hloc k hk)
        exact hS.apart q2 hq2 q' e4 (by rw [h3]; exact fun e => e3 e.symm) k h4
    · rcases mput_mem hcn hq' with ⟨e3, e4⟩ | ⟨e3, e4⟩
      · rw [if_neg e1, if_pos e3]
        intro hk hk'
        obtain ⟨q2, hq2, h3, h4⟩ := hv0 k (hloc k hk')
        exact hS.apart q e2 q2 hq2 (by rw [h3]; exact e1) k hk h4
      · rw [if_neg e1, if_neg e3]
        exact hS.apart q e2 q' e4 hne k
  · exact turned_grown (Turned.refl _ w) r3.grown (.inl (.inr (.inl rfl)))
  · rintro k (h | h | h | h | h | ⟨q, hq, hk⟩)
    · exact .inl (.inl h)
    · exact .inl (.inr (.inl h))
    · exact .inl (.inr (.inr (.inl h)))
    · exact .inl (.inr (.inr (.inr (.inl h))))
    · exact .inl (.inr (.inr (.inr (.inr (.inl h)))))
    · have hk : (if q.1 = p then u else S.cv q.1).ownBlock = some k := hk
      left
      rcases mput_mem hcn hq with ⟨e1, e2⟩ | ⟨e1, e2⟩
      · rw [if_pos e1] at hk
        obtain ⟨q2, hq2, _, h4⟩ := hv0 k (hloc k hk)
        exact .inr (.inr (.inr (.inr (.inr ⟨q2, hq2, h4⟩))))
      · rw [if_neg e1] at hk
        exact .inr (.inr (.inr (.inr (.inr ⟨q, e2, hk⟩))))
/-- what unname does -/
def UnnameQ (own : Hsh) (S S' : Sst) (h : Hsh) (p : Pth) : Prop :=
  ∃ S1 u, ((0 < tmN S p ∧ TurnQ own S S1 h p false) ∨ (¬ 0 < tmN S p ∧ S1 = S)) ∧ S' = S1.add p (clsL S p).dropLast u
theorem run_slice_to20 (A : Option Addr) (len cap n : Nat) (hn : n ≤ cap) (w : World) :
    (Instr.sliceAt 25 (.slice A len cap) none (some (.int .i64 (n : Int))) none).run Try.prog w = .ok (.slice A n cap) w := by
  have e2 : Try.prog.elem 25 = 23 := by simp [Program.elem, Try.underlying25]
  rw [run_sliceAt_slice w 25 _ _ _ _ (by rw [e2]; exact Try.underlying25)]
  have h := run_slice_h (P := Try.prog) w 25 A len cap (by rw [e2]; exact Try.underlying25) .i64 (n : Int) (by omega) (by omega)
  rw [h, e2]
  cases hi : Try.prog.info? 23 with
  | none => have := sz_hash; simp [hi] at this
  | some i =>
    have e0 : A.map (fun a => a.add 0) = A := by cases A <;> simp [Addr.add]
    simp [sizeOf, typeInfo, hi, sliced, e0]
theorem wrapI9 (x : Int) (h : -9223372036854775808 ≤ x ∧ x ≤ 9223372036854775807) : IntKind.i64.wrap x = x := by
  simp [IntKind.wrap, IntKind.signed, IntKind.bits]
  omega
theorem hashCells_take {l : List Hsh} (h : ∀ x ∈ l, okH x) (n : Nat) : hashCells (l.take n) = (hashCells l).take (n * 20) := by
  have h1 := hashCells_app (l.take n) (l.drop n)
  rw [List.take_append_drop] at h1
  rw [h1]
  by_cases hn : n ≤ l.length
  · rw [List.take_left' (by rw [hashCells_len (fun x hx => h x (List.mem_of_mem_take hx)), List.length_take, Nat.min_eq_left hn])]
  · rw [List.drop_of_length_le (by omega), List.take_of_length_le (show l.length ≤ n by omega)]
    simp only [hashCells, List.flatMap_nil, List.append_nil]
    rw [List.take_of_length_le]
    have := hashCells_len h
    unfold hashCells at this
    omega
set_option maxHeartbeats 4000000 in
theorem unname_any {B : Nat} {w : World} {s cb tb hb : Nat} {c : Cvs} {S : Sst} (h : Hsh) (hh : okH h) (p : Pth) (hp : okP p) (hn : (hereL S h).length ≤ 100000) (hcl : 0 < (clsL S p).length ∧ (clsL S p).length ≤ 100000) (hbd : 0 ≤ S.bad ∧ S.bad ≤ 100000) (hS : SAt B w s cb tb hb c S) :
    Calls Try.prog 119 #[.pointer (some ⟨s, 0, none⟩), .agg (mC h p).toArray] w fun e w' => e = .returned (.tuple #[]) ∧ ∃ S', SLeft B w s cb tb hb c S S' w' ∧ UnnameQ c.own S S' h p := by
  obtain ⟨w1, hw1⟩ : ∃ w1, w1 = w.alloc (.cells (mC h p).toArray 60) := ⟨_, rfl⟩
  have hb1 : Below w.heap.size w w1 := by rw [hw1]; exact (Below.refl _ w).alloc (Nat.le_refl _) _
  have hm1 : Blk w1 w.heap.size 60 (mC h p).toArray := by rw [hw1]; exact Blk.new _ _ _
  have H1 := hide (And.intro (hS.below hb1) (And.intro hm1 (turned_of_below (F := S.foot s cb tb hb) hb1)))
  have HS := hide hS
  clear hS hb1 hm1
  go_enter Try.func119, Try.ntmps119
  go_wp2_with fail
  rw [← hw1]
  clear hw1
  refine Fre.wp_made (X := Blw) 7 [] (by kernel_rfl) (by kernel_rfl) (by simp) (by simp) (by simp) ?_
  simp only [List.take_succ_cons, List.take_zero, List.drop_succ_cons, List.drop_zero]
  refine Fre.made_val (.pointer (some ⟨s, 0, none⟩)) (by kernel_rfl) (by kernel_rfl) (by kernel_rfl) (fun _ _ => by kernel_rfl) ?_
  simp only [Act.put, List.setIfInBounds_toArray, List.set_cons_zero, List.set_cons_succ]
  refine Fre.made_val (.pointer (some ⟨s, 0, none⟩)) (by kernel_rfl) (by kernel_rfl) (by kernel_rfl) (fun _ _ => by kernel_rfl) ?_
  simp only [Act.put, List.setIfInBounds_toArray, List.set_cons_zero, List.set_cons_succ]
  refine Fre.made_val (.pointer (some ⟨s, 25, none⟩)) (by kernel_rfl) (by kernel_rfl) (by kernel_rfl) (fun _ _ => by kernel_rfl) ?_
  simp only [Act.put, List.setIfInBounds_toArray, List.set_cons_zero, List.set_cons_succ]
  refine Fre.made_val (.map (some tb)) (by kernel_rfl) (by kernel_rfl) (by kernel_rfl) (fun W9 hW9 => exec_load_cell (o := ⟨some 8, _, _, _, _, _⟩) 101 (.tmp 7) rfl ⟨s, 25, none⟩ rfl _ _ W9 Try.underlying101 rfl ((H1.out.1.below (blw hW9)).cells.2.2.2.2.2.2.1)) ?_
  simp only [Act.put, List.setIfInBounds_toArray, List.set_cons_zero, List.set_cons_succ]
  refine Fre.made_val (.pointer (some ⟨w.heap.size, 20, none⟩)) (by kernel_rfl) (by kernel_rfl) (by kernel_rfl) (fun _ _ => by kernel_rfl) ?_
  simp only [Act.put, List.setIfInBounds_toArray, List.set_cons_zero, List.set_cons_succ]
  refine Fre.made_val (.agg (pC p).toArray) (by kernel_rfl) (by kernel_rfl) (by kernel_rfl) (fun W9 hW9 => exec_load_mid (o := ⟨some 10, _, _, _, _, _⟩) 53 (.tmp 9) rfl w.heap.size 20 rfl (pC p) _ W9 (made_p (H1.out.2.1.below (blw hW9) H1.out.2.1.lt) hh) Try.underlying53 rfl (by have := psz hp; simpa using this)) ?_
  simp only [Act.put, List.setIfInBounds_toArray, List.set_cons_zero, List.set_cons_succ]
  refine Fre.made_val (.int .i64 (tmN S p)) (by kernel_rfl) (by kernel_rfl) (by kernel_rfl) (fun W9 hW9 => exec_lookup (o := ⟨some 11, _, _, _, _, _⟩) 101 (.tmp 8) (.tmp 10) false rfl (.map (some tb)) (.agg (pC p).toArray) _ rfl rfl ((H1.out.1.below (blw hW9)).look_t hp)) ?_
  simp only [Act.put, List.setIfInBounds_toArray, List.set_cons_zero, List.set_cons_succ]
  show ∀ w', _ → _
  intro w2 hb2
  simp only [Fre.ended]
  have hb2 : Below w1.heap.size w1 w2 := hb2
  have H2 := hide (And.intro (H1.out.1.below hb2) (And.intro (H1.out.2.1.below hb2 H1.out.2.1.lt) (turned_below H1.out.2.2 hb2)))
  clear hb2
  by_cases htm : 0 < tmN S p
  · have hmh := made_h H2.out.2.1
    have hmp := made_p H2.out.2.1 hh
    go_wp2_with (first | (refine wpList_value (o := ⟨some 15, _, _, _, _, _⟩) rfl (.agg (bv h).toArray) w2 (exec_load_mid (o := ⟨some 15, _, _, _, _, _⟩) 23 (.tmp 14) rfl w.heap.size 0 rfl (bv h) _ w2 (hmh) Try.underlying23 rfl (by have := hsz hh; simpa using this)) ?_) | (refine wpList_value (o := ⟨some 17, _, _, _, _, _⟩) rfl (.agg (pC p).toArray) w2 (exec_load_mid (o := ⟨some 17, _, _, _, _, _⟩) 53 (.tmp 16) rfl w.heap.size 20 rfl (pC p) _ w2 (hmp) Try.underlying53 rfl (by have := psz hp; simpa using this)) ?_))
    refine (turn_any h hh p hp false hn hbd H2.out.1).mono ?_
    rintro e w3 ⟨rfl, S1, hl3, hq3⟩
    have hbm3 : Blk w3 w.heap.size 60 (mC h p).toArray := (hl3.2.1.block _ H2.out.2.1.lt (fun hf => by have := (HS.out.foot_lt hf).1; omega)).trans H2.out.2.1
    have H3 := hide (And.intro hl3.1 (And.intro hbm3 (And.intro (Turned.then_ H2.out.2.2 hl3.2.1 (fun k _ hf => hf)) (fun k hf => (hl3.2.2 k hf).imp id (fun h1 => Nat.le_trans H2.out.2.2.size h1) : ∀ k, S1.foot s cb tb hb k → S.foot s cb tb hb k ∨ w.heap.size ≤ k))))
    have HQ := hide hq3
    have HV := hide (show cvL S1 p = cvL S p ∧ clsL S1 p = clsL S p from by unfold cvL clsL; rw [hq3.cm, hq3.cv]; exact ⟨rfl, rfl⟩)
    clear hl3 hq3 hbm3 hmh hmp
    dsimp only
    go_wp2_with fail
    refine Fre.wp_made (X := Blw) 7 [] (by kernel_rfl) (by kernel_rfl) (by simp) (by simp) (by simp) ?_
    simp only [List.take_succ_cons, List.take_zero, List.drop_succ_cons, List.drop_zero]
    refine Fre.made_val (.pointer (some ⟨s, 0, none⟩)) (by kernel_rfl) (by kernel_rfl) (by kernel_rfl) (fun _ _ => by kernel_rfl) ?_
    simp only [Act.put, List.setIfInBounds_toArray, List.set_cons_zero, List.set_cons_succ]
    refine Fre.made_val (.pointer (some ⟨s, 0, none⟩)) (by kernel_rfl) (by kernel_rfl) (by kernel_rfl) (fun _ _ => by kernel_rfl) ?_
    simp only [Act.put, List.setIfInBounds_toArray, List.set_cons_zero, List.set_cons_succ]
    refine Fre.made_val (.pointer (some ⟨s, 24, none⟩)) (by kernel_rfl) (by kernel_rfl) (by kernel_rfl) (fun _ _ => by kernel_rfl) ?_
    simp only [Act.put, List.setIfInBounds_toArray, List.set_cons_zero, List.set_cons_succ]
    refine Fre.made_val (.map (some cb)) (by kernel_rfl) (by kernel_rfl) (by kernel_rfl) (fun W9 hW9 => exec_load_cell (o := ⟨some 22, _, _, _, _, _⟩) 100 (.tmp 21) rfl ⟨s, 24, none⟩ rfl _ _ W9 Try.underlying100 rfl ((H3.out.1.below (blw hW9)).cells.2.2.2.2.2.1)) ?_
    simp only [Act.put, List.setIfInBounds_toArray, List.set_cons_zero, List.set_cons_succ]
    refine Fre.made_val (.pointer (some ⟨w.heap.size, 20, none⟩)) (by kernel_rfl) (by kernel_rfl) (by kernel_rfl) (fun _ _ => by kernel_rfl) ?_
    simp only [Act.put, List.setIfInBounds_toArray, List.set_cons_zero, List.set_cons_succ]
    refine Fre.made_val (.agg (pC p).toArray) (by kernel_rfl) (by kernel_rfl) (by kernel_rfl) (fun W9 hW9 => exec_load_mid (o := ⟨some 24, _, _, _, _, _⟩) 53 (.tmp 23) rfl w.heap.size 20 rfl (pC p) _ W9 (made_p (H3.out.2.1.below (blw hW9) H3.out.2.1.lt) hh) Try.underlying53 rfl (by have := psz hp; simpa using this)) ?_
    simp only [Act.put, List.setIfInBounds_toArray, List.set_cons_zero, List.set_cons_succ]
    refine Fre.made_val (cvL S p) (by kernel_rfl) (by kernel_rfl) (by kernel_rfl) (fun W9 hW9 => exec_lookup (o := ⟨some 25, _, _, _, _, _⟩) 100 (.tmp 22) (.tmp 24) false rfl (.map (some cb)) (.agg (pC p).toArray) _ rfl rfl (by have := (H3.out.1.below (blw hW9)).look_c hp; rw [HV.out.1] at this; exact this)) ?_
    simp only [Act.put, List.setIfInBounds_toArray, List.set_cons_zero, List.set_cons_succ]
    show ∀ w', _ → _
    intro w4 hb4
    simp only [Fre.ended]
    have hb4 : Below w3.heap.size w3 w4 := hb4
    have H4 := hide (And.intro (H3.out.1.below hb4) (And.intro (H3.out.2.1.below hb4 H3.out.2.1.lt) (And.intro (turned_below H3.out.2.2.1 hb4) H3.out.2.2.2)))
    clear hb4
    have hrow := H4.out.1.row p
    rw [HV.out.1, HV.out.2] at hrow
    obtain ⟨g, cap, hcv, hcap⟩ : ∃ g cap, cvL S p = .slice (some ⟨g, 0, none⟩) (clsL S p).length cap ∧ (clsL S p).length ≤ cap := by
      rcases owned_formN hrow.1 with ⟨_, h0, _⟩ | ⟨g, cap, cur, e, _, h1, _⟩
      · omega
      · exact ⟨g, cap, e, h1⟩
    have HR := hide hrow
    have HCV := hide hcv
    obtain ⟨n, hn1⟩ : ∃ n, (clsL S p).length = n + 1 := ⟨(clsL S p).length - 1, by omega⟩
    rw [hcv]
    have n0 : (0 : Int) ≤ (n : Int) := by omega
    clear hrow hcv
    go_wp2_with fail
    refine Fre.wp_made (X := Blw) 11 [] (by kernel_rfl) (by kernel_rfl) (by simp) (by simp) (by simp) ?_
    simp only [List.take_succ_cons, List.take_zero, List.drop_succ_cons, List.drop_zero]
    refine Fre.made_val (.pointer (some ⟨s, 0, none⟩)) (by kernel_rfl) (by kernel_rfl) (by kernel_rfl) (fun _ _ => by kernel_rfl) ?_
    simp only [Act.put, List.setIfInBounds_toArray, List.set_cons_zero, List.set_cons_succ]
    refine Fre.made_val (.pointer (some ⟨s, 0, none⟩)) (by kernel_rfl) (by kernel_rfl) (by kernel_rfl) (fun _ _ => by kernel_rfl) ?_
    simp only [Act.put, List.setIfInBounds_toArray, List.set_cons_zero, List.set_cons_succ]
    refine Fre.made_val (.pointer (some ⟨s, 24, none⟩)) (by kernel_rfl) (by kernel_rfl) (by kernel_rfl) (fun _ _ => by kernel_rfl) ?_
    simp only [Act.put, List.setIfInBounds_toArray, List.set_cons_zero, List.set_cons_succ]
    refine Fre.made_val (.map (some cb)) (by kernel_rfl) (by kernel_rfl) (by kernel_rfl) (fun W9 hW9 => exec_load_cell (o := ⟨some 29, _, _, _, _, _⟩) 100 (.tmp 28) rfl ⟨s, 24, none⟩ rfl _ _ W9 Try.underlying100 rfl ((H4.out.1.below (blw hW9)).cells.2.2.2.2.2.1)) ?_
    simp only [Act.put, List.setIfInBounds_toArray, List.set_cons_zero, List.set_cons_succ]
    refine Fre.made_val (.pointer (some ⟨w.heap.size, 20, none⟩)) (by kernel_rfl) (by kernel_rfl) (by kernel_rfl) (fun _ _ => by kernel_rfl) ?_
    simp only [Act.put, List.setIfInBounds_toArray, List.set_cons_zero, List.set_cons_succ]
    refine Fre.made_val (.agg (pC p).toArray) (by kernel_rfl) (by kernel_rfl) (by kernel_rfl) (fun W9 hW9 => exec_load_mid (o := ⟨some 31, _, _, _, _, _⟩) 53 (.tmp 30) rfl w.heap.size 20 rfl (pC p) _ W9 (made_p (H4.out.2.1.below (blw hW9) H4.out.2.1.lt) hh) Try.underlying53 rfl (by have := psz hp; simpa using this)) ?_
    simp only [Act.put, List.setIfInBounds_toArray, List.set_cons_zero, List.set_cons_succ]
    refine Fre.made_val (.slice (some ⟨g, 0, none⟩) (clsL S p).length cap) (by kernel_rfl) (by kernel_rfl) (by kernel_rfl) (fun _ _ => by kernel_rfl) ?_
    simp only [Act.put, List.setIfInBounds_toArray, List.set_cons_zero, List.set_cons_succ]
    refine Fre.made_val (.slice (some ⟨g, 0, none⟩) (clsL S p).length cap) (by kernel_rfl) (by kernel_rfl) (by kernel_rfl) (fun _ _ => by kernel_rfl) ?_
    simp only [Act.put, List.setIfInBounds_toArray, List.set_cons_zero, List.set_cons_succ]
    refine Fre.made_val (.int .i64 ((clsL S p).length : Int)) (by kernel_rfl) (by kernel_rfl) (by kernel_rfl) (fun W9 hW9 => ?hs1) ?_
    case hs1 =>
      go_simp
    simp only [Act.put, List.setIfInBounds_toArray, List.set_cons_zero, List.set_cons_succ]
    refine Fre.made_val (.int .i64 (n : Int)) (by kernel_rfl) (by kernel_rfl) (by kernel_rfl) (fun W9 hW9 => ?hs2) ?_
    case hs2 =>
      go_simp
      exact wrapI9 (n : Int) (by omega)
    simp only [Act.put, List.setIfInBounds_toArray, List.set_cons_zero, List.set_cons_succ]
    refine Fre.made_val (.slice (some ⟨g, 0, none⟩) n cap) (by kernel_rfl) (by kernel_rfl) (by kernel_rfl) (fun W9 _ => exec_slice (o := ⟨some 36, _, _, _, _, _⟩) 25 (.tmp 32) none (some (.tmp 35)) none rfl _ (fun W9 => run_slice_to20 (some ⟨g, 0, none⟩) (clsL S p).length cap n (by omega) W9) W9) ?_
    simp only [Act.put, List.setIfInBounds_toArray, List.set_cons_zero, List.set_cons_succ]
    show ∀ w', _ → _
    intro w5 hb5
    simp only [Fre.ended]
    have hb5 : Below w4.heap.size w4 w5 := hb5
    have H5 := hide (And.intro (H4.out.1.below hb5) (And.intro (H4.out.2.1.below hb5 H4.out.2.1.lt) (And.intro (turned_below H4.out.2.2.1 hb5) H4.out.2.2.2)))
    have hr5 := HR.out.keep (w' := w5) fun k hk hl => hb5.block k hl
    rw [HCV.out] at hr5
    have hcut : OwnH B w5 (.slice (some ⟨g, 0, none⟩) n cap) (clsL S p).dropLast := by
      have h1 := own_cutN hr5.1 (k := n) (by omega)
      have e : (clsL S p).dropLast = (clsL S p).take n := by rw [List.dropLast_eq_take, hn1]; rfl
      rw [e]
      refine ⟨?_, fun x hx => hr5.2 x (List.mem_of_mem_take hx)⟩
      rw [List.length_take, Nat.min_eq_left (by omega), hashCells_take hr5.2 n]
      exact h1
    clear hb5
    obtain ⟨w6, r6, hl6⟩ := H5.out.1.stored hp hcut (fun k hk => by rw [HV.out.1, HCV.out]; exact hk)
    refine wpList_mapUpdate (o := ⟨none, _, _, _, _, _⟩) rfl 100 (.tmp 29) (.tmp 31) (.tmp 36) rfl _ _ _ rfl rfl rfl r6 ?_
    have HF := hide (SLeft.trans ⟨H5.out.1, H5.out.2.2.1, H5.out.2.2.2⟩ hl6)
    clear hl6 r6 hcut hr5
    go_wp2_with fail
    go_end0
    exact ⟨rfl, _, HF.out, _, _, .inl ⟨htm, HQ.out⟩, rfl⟩
  · have H3 := hide (And.intro H2.out.1 (And.intro H2.out.2.1 (And.intro H2.out.2.2 (fun k hf => .inl hf : ∀ k, S.foot s cb tb hb k → S.foot s cb tb hb k ∨ w.heap.size ≤ k))))
    go_wp2_with fail
    refine Fre.wp_made (X := Blw) 7 [] (by kernel_rfl) (by kernel_rfl) (by simp) (by simp) (by simp) ?_
    simp only [List.take_succ_cons, List.take_zero, List.drop_succ_cons, List.drop_zero]
    refine Fre.made_val (.pointer (some ⟨s, 0, none⟩)) (by kernel_rfl) (by kernel_rfl) (by kernel_rfl) (fun _ _ => by kernel_rfl) ?_
    simp only [Act.put, List.setIfInBounds_toArray, List.set_cons_zero, List.set_cons_succ]
    refine Fre.made_val (.pointer (some ⟨s, 0, none⟩)) (by kernel_rfl) (by kernel_rfl) (by kernel_rfl) (fun _ _ => by kernel_rfl) ?_
    simp only [Act.put, List.setIfInBounds_toArray, List.set_cons_zero, List.set_cons_succ]
    refine Fre.made_val (.pointer (some ⟨s, 24, none⟩)) (by kernel_rfl) (by kernel_rfl) (by kernel_rfl) (fun _ _ => by kernel_rfl) ?_
    simp only [Act.put, List.setIfInBounds_toArray, List.set_cons_zero, List.set_cons_succ]
    refine Fre.made_val (.map (some cb)) (by kernel_rfl) (by kernel_rfl) (by kernel_rfl) (fun W9 hW9 => exec_load_cell (o := ⟨some 22, _, _, _, _, _⟩) 100 (.tmp 21) rfl ⟨s, 24, none⟩ rfl _ _ W9 Try.underlying100 rfl ((H3.out.1.below (blw hW9)).cells.2.2.2.2.2.1)) ?_
    simp only [Act.put, List.setIfInBounds_toArray, List.set_cons_zero, List.set_cons_succ]
    refine Fre.made_val (.pointer (some ⟨w.heap.size, 20, none⟩)) (by kernel_rfl) (by kernel_rfl) (by kernel_rfl) (fun _ _ => by kernel_rfl) ?_
    simp only [Act.put, List.setIfInBounds_toArray, List.set_cons_zero, List.set_cons_succ]
    refine Fre.made_val (.agg (pC p).toArray) (by kernel_rfl) (by kernel_rfl) (by kernel_rfl) (fun W9 hW9 => exec_load_mid (o := ⟨some 24, _, _, _, _, _⟩) 53 (.tmp 23) rfl w.heap.size 20 rfl (pC p) _ W9 (made_p (H3.out.2.1.below (blw hW9) H3.out.2.1.lt) hh) Try.underlying53 rfl (by have := psz hp; simpa using this)) ?_
    simp only [Act.put, List.setIfInBounds_toArray, List.set_cons_zero, List.set_cons_succ]
    refine Fre.made_val (cvL S p) (by kernel_rfl) (by kernel_rfl) (by kernel_rfl) (fun W9 hW9 => exec_lookup (o := ⟨some 25, _, _, _, _, _⟩) 100 (.tmp 22) (.tmp 24) false rfl (.map (some cb)) (.agg (pC p).toArray) _ rfl rfl (by have := (H3.out.1.below (blw hW9)).look_c hp; exact this)) ?_
    simp only [Act.put, List.setIfInBounds_toArray, List.set_cons_zero, List.set_cons_succ]
    show ∀ w', _ → _
    intro w4 hb4
    simp only [Fre.ended]
    have hb4 : Below w2.heap.size w2 w4 := hb4
    have H4 := hide (And.intro (H3.out.1.below hb4) (And.intro (H3.out.2.1.below hb4 H3.out.2.1.lt) (And.intro (turned_below H3.out.2.2.1 hb4) H3.out.2.2.2)))
    clear hb4
    have hrow := H4.out.1.row p
    obtain ⟨g, cap, hcv, hcap⟩ : ∃ g cap, cvL S p = .slice (some ⟨g, 0, none⟩) (clsL S p).length cap ∧ (clsL S p).length ≤ cap := by
      rcases owned_formN hrow.1 with ⟨_, h0, _⟩ | ⟨g, cap, cur, e, _, h1, _⟩
      · omega
      · exact ⟨g, cap, e, h1⟩
    have HR := hide hrow
    have HCV := hide hcv
    obtain ⟨n, hn1⟩ : ∃ n, (clsL S p).length = n + 1 := ⟨(clsL S p).length - 1, by omega⟩
    rw [hcv]
    have n0 : (0 : Int) ≤ (n : Int) := by omega
    clear hrow hcv
    go_wp2_with fail
    refine Fre.wp_made (X := Blw) 11 [] (by kernel_rfl) (by kernel_rfl) (by simp) (by simp) (by simp) ?_
    simp only [List.take_succ_cons, List.take_zero, List.drop_succ_cons, List.drop_zero]
    refine Fre.made_val (.pointer (some ⟨s, 0, none⟩)) (by kernel_rfl) (by kernel_rfl) (by kernel_rfl) (fun _ _ => by kernel_rfl) ?_
    simp only [Act.put, List.setIfInBounds_toArray, List.set_cons_zero, List.set_cons_succ]
    refine Fre.made_val (.pointer (some ⟨s, 0, none⟩)) (by kernel_rfl) (by kernel_rfl) (by kernel_rfl) (fun _ _ => by kernel_rfl) ?_
    simp only [Act.put, List.setIfInBounds_toArray, List.set_cons_zero, List.set_cons_succ]
    refine Fre.made_val (.pointer (some ⟨s, 24, none⟩)) (by kernel_rfl) (by kernel_rfl) (by kernel_rfl) (fun _ _ => by kernel_rfl) ?_
    simp only [Act.put, List.setIfInBounds_toArray, List.set_cons_zero, List.set_cons_succ]
    refine Fre.made_val (.map (some cb)) (by kernel_rfl) (by kernel_rfl) (by kernel_rfl) (fun W9 hW9 => exec_load_cell (o := ⟨some 29, _, _, _, _, _⟩) 100 (.tmp 28) rfl ⟨s, 24, none⟩ rfl _ _ W9 Try.underlying100 rfl ((H4.out.1.below (blw hW9)).cells.2.2.2.2.2.1)) ?_
    simp only [Act.put, List.setIfInBounds_toArray, List.set_cons_zero, List.set_cons_succ]
    refine Fre.made_val (.pointer (some ⟨w.heap.size, 20, none⟩)) (by kernel_rfl) (by kernel_rfl) (by kernel_rfl) (fun _ _ => by kernel_rfl) ?_
    simp only [Act.put, List.setIfInBounds_toArray, List.set_cons_zero, List.set_cons_succ]
    refine Fre.made_val (.agg (pC p).toArray) (by kernel_rfl) (by kernel_rfl) (by kernel_rfl) (fun W9 hW9 => exec_load_mid (o := ⟨some 31, _, _, _, _, _⟩) 53 (.tmp 30) rfl w.heap.size 20 rfl (pC p) _ W9 (made_p (H4.out.2.1.below (blw hW9) H4.out.2.1.lt) hh) Try.underlying53 rfl (by have := psz hp; simpa using this)) ?_
    simp only [Act.put, List.setIfInBounds_toArray, List.set_cons_zero, List.set_cons_succ]
    refine Fre.made_val (.slice (some ⟨g, 0, none⟩) (clsL S p).length cap) (by kernel_rfl) (by kernel_rfl) (by kernel_rfl) (fun _ _ => by kernel_rfl) ?_
    simp only [Act.put, List.setIfInBounds_toArray, List.set_cons_zero, List.set_cons_succ]
    refine Fre.made_val (.slice (some ⟨g, 0, none⟩) (clsL S p).length cap) (by kernel_rfl) (by kernel_rfl) (by kernel_rfl) (fun _ _ => by kernel_rfl) ?_
    simp only [Act.put, List.setIfInBounds_toArray, List.set_cons_zero, List.set_cons_succ]
    refine Fre.made_val (.int .i64 ((clsL S p).length : Int)) (by kernel_rfl) (by kernel_rfl) (by kernel_rfl) (fun W9 hW9 => ?hs3) ?_
    case hs3 =>
      go_simp
    simp only [Act.put, List.setIfInBounds_toArray, List.set_cons_zero, List.set_cons_succ]
    refine Fre.made_val (.int .i64 (n : Int)) (by kernel_rfl) (by kernel_rfl) (by kernel_rfl) (fun W9 hW9 => ?hs4) ?_
    case hs4 =>
      go_simp
      exact wrapI9 (n : Int) (by omega)
    simp only [Act.put, List.setIfInBounds_toArray, List.set_cons_zero, List.set_cons_succ]
    refine Fre.made_val (.slice (some ⟨g, 0, none⟩) n cap) (by kernel_rfl) (by kernel_rfl) (by kernel_rfl) (fun W9 _ => exec_slice (o := ⟨some 36, _, _, _, _, _⟩) 25 (.tmp 32) none (some (.tmp 35)) none rfl _ (fun W9 => run_slice_to20 (some ⟨g, 0, none⟩) (clsL S p).length cap n (by omega) W9) W9) ?_
    simp only [Act.put, List.setIfInBounds_toArray, List.set_cons_zero, List.set_cons_succ]
    show ∀ w', _ → _
    intro w5 hb5
    simp only [Fre.ended]
    have hb5 : Below w4.heap.size w4 w5 := hb5
    have H5 := hide (And.intro (H4.out.1.below hb5) (And.intro (H4.out.2.1.below hb5 H4.out.2.1.lt) (And.intro (turned_below H4.out.2.2.1 hb5) H4.out.2.2.2)))
    have hr5 := HR.out.keep (w' := w5) fun k hk hl => hb5.block k hl
    rw [HCV.out] at hr5
    have hcut : OwnH B w5 (.slice (some ⟨g, 0, none⟩) n cap) (clsL S p).dropLast := by
      have h1 := own_cutN hr5.1 (k := n) (by omega)
      have e : (clsL S p).dropLast = (clsL S p).take n := by rw [List.dropLast_eq_take, hn1]; rfl
      rw [e]
      refine ⟨?_, fun x hx => hr5.2 x (List.mem_of_mem_take hx)⟩
      rw [List.length_take, Nat.min_eq_left (by omega), hashCells_take hr5.2 n]
      exact h1
    clear hb5
    obtain ⟨w6, r6, hl6⟩ := H5.out.1.stored hp hcut (fun k hk => by rw [HCV.out]; exact hk)
    refine wpList_mapUpdate (o := ⟨none, _, _, _, _, _⟩) rfl 100 (.tmp 29) (.tmp 31) (.tmp 36) rfl _ _ _ rfl rfl rfl r6 ?_
    have HF := hide (SLeft.trans ⟨H5.out.1, H5.out.2.2.1, H5.out.2.2.2⟩ hl6)
    clear hl6 r6 hcut hr5
    go_wp2_with fail
    go_end0
    exact ⟨rfl, _, HF.out, _, _, .inr ⟨by omega, rfl⟩, rfl⟩
end Go.Proofs.Ytfppddnfdinipaa
