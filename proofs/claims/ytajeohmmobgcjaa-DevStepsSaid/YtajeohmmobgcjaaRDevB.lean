/- spenceref04: a device is made; its fuse, its crash; what is kept is turned. -/
import Derived.Test.YtajeohmmobgcjaaRDevA
namespace Go.Proofs.Ytajeohmmobgcjaa
open Go Go.RowKit
/-- a row of one's own, its block known, cells in its middle turned -/
theorem own_upd {w : World} {base g n cap s : Nat} {e : TypeId} {xs : List Value} (h : w.ownsRow base e s (.slice (some ⟨g, 0, none⟩) n cap) n xs) : ∃ cur : Array Value, Blk w g e cur ∧ n * s ≤ cur.size ∧ n ≤ cap ∧ ∀ (w' : World) (o : Nat) (vs : List Value), o + vs.length ≤ n * s → Blk w' g e (cur.toList.take o ++ (vs ++ cur.toList.drop (o + vs.length))).toArray → w'.ownsRow base e s (.slice (some ⟨g, 0, none⟩) n cap) n (xs.take o ++ (vs ++ xs.drop (o + vs.length))) := by
  have hl := h.1
  rcases owned_formN h with ⟨h, _⟩ | ⟨g', cap', cur, h', hb, hn, hc, hh, hs, ht, _⟩
  · cases h
  · injection h' with e1 e2 e3
    injection e1 with e1
    injection e1 with e1
    subst e1 e3
    have hns : n * s ≤ cap * s := Nat.mul_le_mul_right _ hn
    refine ⟨cur, hh, by omega, hn, fun w' o vs hf hb' => ?_⟩
    refine ⟨by simp; omega, .inr ⟨g, cap, _, rfl, hb, hb', hn, hc, by simp; omega, ?_⟩⟩
    have e : cur.toList = xs ++ cur.toList.drop (n * s) := by rw [← ht, List.take_append_drop]
    show (cur.toList.take o ++ (vs ++ cur.toList.drop (o + vs.length))).take (n * s) = _
    have e1 : cur.toList.take o = xs.take o := by rw [← ht, List.take_take]; congr 1; omega
    have e2 : cur.toList.drop (o + vs.length) = xs.drop (o + vs.length) ++ cur.toList.drop (n * s) := by
      rw [e, List.drop_append, show o + vs.length - xs.length = 0 by omega, List.drop_zero, ← e]
    rw [e1, e2, ← List.append_assoc, ← List.append_assoc]
    rw [List.take_append_of_le_length (by simp; omega), List.take_of_length_le (by simp; omega), List.append_assoc]
theorem new_zero (n : Nat) : bv (List.replicate (n * 64) 0) = keptCells (List.replicate n (List.replicate 64 0)) := by
  rw [kept_bv, List.flatten_replicate_replicate]
set_option maxRecDepth 100000
set_option maxHeartbeats 400000 in
theorem rnew_any (n : Nat) (hn : 1 ≤ n ∧ n ≤ 8192) (w : World) : Calls Try.prog 37 #[.int .i64 (n : Int)] w fun e w' => ∃ g F, e = .returned (.tuple #[.pointer (some ⟨g, 0, none⟩), .int .i64 0]) ∧ RefAt w' F g (Dv.new n) ∧ Below w.heap.size w w' ∧ ∀ k, F k → w.heap.size ≤ k := by
  obtain ⟨i, hi, hz0, hz1, hz2⟩ := info_parts info_1
  have h1 := hn.1
  have h2 := hn.2
  have hm : (n : Int) * 64 = ((n * 64 : Nat) : Int) := by omega
  have hlt64 : n * 64 ≤ 524288 := by omega
  have i1 : (1 : Int) ≤ (n : Int) := by omega
  have i2 : (n : Int) ≤ 8192 := by omega
  have HM := hide hm
  clear hn hm
  go_enter Try.func37, Try.ntmps37
  go_wp2_with (at_make; rw [HM.out]; refine wpList_make_full _ rfl _ _ 48 rfl w.heap.size 5 i (.int .u8 0) 1 Try.underlying48 hi hz0 hz1 _ _ _ _ (n * 64) rfl rfl ?e0 ?e1 ?e2 ?e3 ?e4 ?_)
  case e0 => rfl
  case e1 => rfl
  case e2 => rw [hz2]; omega
  case e3 => simp only [maxLen]; omega
  case e4 => exact Nat.le_refl _
  intro w1 own1 gr1
  have own1 : w1.ownsRow w.heap.size 5 1 (.slice (some ⟨w.heap.size, 0, none⟩) (n * 64) (n * 64)) (n * 64) (madeCells #[.int .u8 0] (n * 64)).toList := own1
  rw [made_bv] at own1
  have H1 := hide (And.intro own1 gr1)
  clear own1 gr1
  go_wp2_with fail
  go_ret2
  obtain ⟨own1, gr1⟩ := H1.out
  have hlt : w.heap.size < w1.heap.size := (own1.lt _ rfl).2
  have el : (Dv.new n).kept.length = n := by simp [Dv.new]
  have hb : Below w.heap.size w w1 := (Below.refl _ _).grown gr1 (Nat.le_refl _) (by intro k hk; cases hk)
  refine ⟨w1.heap.size, rfl, fun k => k = w.heap.size ∨ k = w1.heap.size, ⟨w.heap.size, n * 64, .slice none 0 0, [], ?_⟩, hb.alloc (by omega) _, fun k hk => by rcases hk with hk | hk <;> omega⟩
  refine ⟨.inr rfl, .inl rfl, fun k hk => (by cases hk), fun k hk => (by rw [size_alloc]; rcases hk with hk | hk <;> omega), by rw [el]; exact Blk.new _ _ _, ?_, ⟨rfl, .inl ⟨rfl, rfl⟩⟩, ⟨rfl, fun i p hp => by simp [Dv.new] at hp⟩, ?_⟩
  · rw [el]
    have h := own1.alloc (.cells (rdv (.slice (some ⟨w.heap.size, 0, none⟩) (n * 64) (n * 64)) (.slice none 0 0) 0 0 false) 82)
    have h := owned_baseN h (base' := 0) (fun _ _ => Nat.zero_le _)
    rw [show keptCells (Dv.new n).kept = bv (List.replicate (n * 64) 0) from (new_zero n).symm]
    exact h
  · refine ⟨by rw [el]; exact h1, by rw [el]; exact h2, fun b hb => ?_, by simp [Dv.new], by simp [Dv.new], by simp [Dv.new]⟩
    rw [List.eq_of_mem_replicate hb]
    simp
theorem rnew_bad (n : Int) (hn : n < 1 ∨ 8192 < n) (w : World) : Calls Try.prog 37 #[.int .i64 n] w fun e w' => e = .returned (.tuple #[.pointer none, .int .i64 2]) ∧ w' = w := by
  rcases Int.lt_or_le n 1 with h | h
  · go_enter Try.func37, Try.ntmps37
    go_wp2
    go_ret2
    exact ⟨rfl, rfl⟩
  · have h2 : 8192 < n := by omega
    clear hn
    go_enter Try.func37, Try.ntmps37
    go_wp2
    go_ret2
    exact ⟨rfl, rfl⟩
section
variable {D : Dv} {F : Nat → Prop} {g : Nat}
theorem rcrash_any (w : World) (h : RefAt w F g D) : Calls Try.prog 68 #[.pointer (some ⟨g, 0, none⟩)] w fun e w' => e = .returned (.int .i64 D.crash.1) ∧ RLeft w F g D.crash.2 w' := by
  have h0 := h
  obtain ⟨ra, c, vw, us, hr⟩ := h
  have hb := hr.blk
  cases hdn : D.dn with
  | true =>
    rw [show D.crash = (10, D) by simp [Dv.crash, hdn]]
    rw [hdn] at hb
    have c4 := (hb.cell 4).trans (rdv4 ..)
    have hlt := hb.lt
    have H := hide h0
    clear hb h0 hr
    go_enter Try.func68, Try.ntmps68
    go_wp2
    go_ret
    exact ⟨rfl, .same H.out⟩
  | false =>
    rw [show D.crash = (0, { D with dn := true }) by simp [Dv.crash, hdn]]
    rw [hdn] at hb
    have c4 := (hb.cell 4).trans (rdv4 ..)
    have f4 := hb.frozen 4
    have hlt := hb.lt
    have H := hide (And.intro hr hb)
    clear hb h0 hr
    go_enter Try.func68, Try.ntmps68
    go_wp2
    go_ret
    have hb2 := H.out.2.set_ 4 (.bool true)
    rw [rdv_set4] at hb2
    have hok := H.out.1.ok
    have h2 := rleft_own H.out.1 (D' := { D with dn := true }) hb2 (only_setCell (World.grownBy.refl _ _) (.inl rfl) _) rfl rfl ⟨hok.n1, hok.n2, hok.k64, hok.p64, hok.de, hok.fu⟩
    exact ⟨rfl, F, ⟨_, _, _, _, h2.1⟩, h2.2, fun _ h => .inl h⟩
theorem rfuse_any (x : Int) (hx : x ≤ 9223372036854775807) (w : World) (h : RefAt w F g D) : Calls Try.prog 45 #[.pointer (some ⟨g, 0, none⟩), .int .i64 x] w fun e w' => e = .returned (.int .i64 (D.fuse x).1) ∧ RLeft w F g (D.fuse x).2 w' := by
  have h0 := h
  obtain ⟨ra, c, vw, us, hr⟩ := h
  have hb := hr.blk
  cases hdn : D.dn with
  | true =>
    rw [show D.fuse x = (10, D) by simp [Dv.fuse, hdn]]
    rw [hdn] at hb
    have c4 := (hb.cell 4).trans (rdv4 ..)
    have hlt := hb.lt
    have H := hide h0
    clear hb h0 hr
    go_enter Try.func45, Try.ntmps45
    go_wp2
    go_ret
    exact ⟨rfl, .same H.out⟩
  | false =>
    rw [show D.fuse x = (0, { D with fu := max x 0 }) by simp [Dv.fuse, hdn]]
    rw [hdn] at hb
    have c4 := (hb.cell 4).trans (rdv4 ..)
    have c3 := (hb.cell 3).trans (rdv3 ..)
    have f3 := hb.frozen 3
    have hlt := hb.lt
    have hfin : ∀ z : Int, z = max x 0 → RLeft w F g { D with fu := max x 0 } (w.setCell ⟨g, 3, none⟩ (.int .i64 z)) := fun z hz => by
      have hb2 := hb.set_ 3 (.int .i64 z)
      rw [rdv_set3, hz, ← hdn] at hb2
      rw [hz]
      have hok := hr.ok
      have h2 := rleft_own hr (D' := { D with fu := max x 0 }) hb2 (only_setCell (World.grownBy.refl _ _) (.inl rfl) _) rfl rfl ⟨hok.n1, hok.n2, hok.k64, hok.p64, hok.de, by show 0 ≤ max x 0 ∧ max x 0 ≤ _; omega⟩
      exact ⟨F, ⟨_, _, _, _, h2.1⟩, h2.2, fun _ h => .inl h⟩
    have HF := hide hfin
    clear hb h0 hr hfin
    rcases Int.lt_or_le x 0 with h | h
    · have h2 : x ≤ 0 := by omega
      go_enter Try.func45, Try.ntmps45
      go_wp2
      go_ret
      exact ⟨rfl, HF.out 0 (by omega)⟩
    · rcases Int.lt_or_le 0 x with h1 | h1
      · go_enter Try.func45, Try.ntmps45
        go_wp2
        go_ret
        exact ⟨rfl, HF.out x (by omega)⟩
      · obtain rfl : x = 0 := by omega
        go_enter Try.func45, Try.ntmps45
        go_wp2
        go_ret
        exact ⟨rfl, HF.out 0 (by omega)⟩
end
end Go.Proofs.Ytajeohmmobgcjaa
