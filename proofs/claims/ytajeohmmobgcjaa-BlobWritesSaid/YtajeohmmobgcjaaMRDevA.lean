/- spenceref04: a device of the document, in memory; the small walks. spenceref04: a device is made; its fuse, its crash; what is kept is turned. a bit of a number, asked for in two ways. -/
import Derived.Test.YtajeohmmobgcjaaMDevL
import Derived.Test.YtajeohmmobgcjaaMBase
section
namespace Go.Proofs.Ytajeohmmobgcjaa
open Go Go.RowKit
/-- its cells: all that is kept, pending writes, deeds, a fuse, is it down -/
def rdv (va vw : Value) (de fu : Int) (dn : Bool) : Array Value := #[va, vw, .int .i64 de, .int .i64 fu, .bool dn]
theorem rdv0 (va vw : Value) (de fu : Int) (dn : Bool) : (rdv va vw de fu dn)[0]? = some va := rfl
theorem rdv1 (va vw : Value) (de fu : Int) (dn : Bool) : (rdv va vw de fu dn)[1]? = some vw := rfl
theorem rdv2 (va vw : Value) (de fu : Int) (dn : Bool) : (rdv va vw de fu dn)[2]? = some (.int .i64 de) := rfl
theorem rdv3 (va vw : Value) (de fu : Int) (dn : Bool) : (rdv va vw de fu dn)[3]? = some (.int .i64 fu) := rfl
theorem rdv4 (va vw : Value) (de fu : Int) (dn : Bool) : (rdv va vw de fu dn)[4]? = some (.bool dn) := rfl
theorem rdv_set1 (va vw x : Value) (de fu : Int) (dn : Bool) : (rdv va vw de fu dn).setIfInBounds 1 x = rdv va x de fu dn := rfl
theorem rdv_set2 (va vw : Value) (de fu x : Int) (dn : Bool) : (rdv va vw de fu dn).setIfInBounds 2 (.int .i64 x) = rdv va vw x fu dn := rfl
theorem rdv_set3 (va vw : Value) (de fu x : Int) (dn : Bool) : (rdv va vw de fu dn).setIfInBounds 3 (.int .i64 x) = rdv va vw de x dn := rfl
theorem rdv_set4 (va vw : Value) (de fu : Int) (dn x : Bool) : (rdv va vw de fu dn).setIfInBounds 4 (.bool x) = rdv va vw de fu x := rfl
def waitCells (us : List (Int × Value)) : List Value := (us.map fun u => [.int .i64 u.1, u.2]).flatten
/-- the pending writes' own rows -/
def WaitsAt (w : World) (F : Nat → Prop) (ra : Nat) (us : List (Int × Value)) (L : List (Int × List UInt8)) : Prop :=
  us.length = L.length ∧ ∀ (i : Nat) (p : Int × List UInt8), L[i]? = some p → ∃ q c, us[i]? = some (p.1, .slice (some ⟨q, 0, none⟩) 64 c) ∧ F q ∧ q ≠ ra ∧ w.ownsRow 0 5 1 (.slice (some ⟨q, 0, none⟩) 64 c) 64 (bv p.2)
structure RefBlk (w : World) (F : Nat → Prop) (g ra c : Nat) (vw : Value) (us : List (Int × Value)) (D : Dv) : Prop where
  fg : F g
  fa : F ra
  fw : ∀ k, vw.ownBlock = some k → F k
  flt : ∀ k, F k → k < w.heap.size
  blk : Blk w g 82 (rdv (.slice (some ⟨ra, 0, none⟩) (D.kept.length * 64) c) vw D.de D.fu D.dn)
  all : w.ownsRow 0 5 1 (.slice (some ⟨ra, 0, none⟩) (D.kept.length * 64) c) (D.kept.length * 64) (keptCells D.kept)
  row : w.ownsRow 0 126 2 vw D.pend.length (waitCells us)
  wts : WaitsAt w F ra us D.pend
  ok : D.Ok
def RefAt (w : World) (F : Nat → Prop) (g : Nat) (D : Dv) : Prop := ∃ ra c vw us, RefBlk w F g ra c vw us D
theorem WaitsAt.keep {w w' : World} {F : Nat → Prop} {ra : Nat} {us : List (Int × Value)} {L : List (Int × List UInt8)} (h : WaitsAt w F ra us L) (hk : ∀ k, k < w.heap.size → F k → k ≠ ra → w'.heap[k]? = w.heap[k]?) : WaitsAt w' F ra us L :=
  ⟨h.1, fun i p hp => by
    obtain ⟨q, c, h1, h2, h3, h4⟩ := h.2 i p hp
    exact ⟨q, c, h1, h2, h3, owned_keepN h4 fun k hg hl => hk k hl (by injection hg with hg; subst hg; exact h2) (by injection hg with hg; subst hg; exact h3)⟩⟩
theorem WaitsAt.grow {w : World} {F F' : Nat → Prop} {ra : Nat} {us : List (Int × Value)} {L : List (Int × List UInt8)} (h : WaitsAt w F ra us L) (hF : ∀ k, F k → F' k) : WaitsAt w F' ra us L :=
  ⟨h.1, fun i p hp => by
    obtain ⟨q, c, h1, h2, h3, h4⟩ := h.2 i p hp
    exact ⟨q, c, h1, hF q h2, h3, h4⟩⟩
theorem RefBlk.keep {w w' : World} {F : Nat → Prop} {g ra c : Nat} {vw : Value} {us : List (Int × Value)} {D : Dv} (h : RefBlk w F g ra c vw us D) (hs : w.heap.size ≤ w'.heap.size) (hk : ∀ k, k < w.heap.size → F k → w'.heap[k]? = w.heap[k]?) : RefBlk w' F g ra c vw us D :=
  ⟨h.fg, h.fa, h.fw, fun k hf => Nat.lt_of_lt_of_le (h.flt k hf) hs, (hk g h.blk.lt h.fg).trans h.blk, owned_keepN h.all fun k hg hl => hk k hl (by injection hg with hg; subst hg; exact h.fa), owned_keepN h.row fun k hg hl => hk k hl (h.fw k hg), h.wts.keep fun k h1 h2 _ => hk k h1 h2, h.ok⟩
theorem RefAt.keep {w w' : World} {F : Nat → Prop} {g : Nat} {D : Dv} (h : RefAt w F g D) (hs : w.heap.size ≤ w'.heap.size) (hk : ∀ k, k < w.heap.size → F k → w'.heap[k]? = w.heap[k]?) : RefAt w' F g D := by
  obtain ⟨ra, c, vw, us, h⟩ := h
  exact ⟨ra, c, vw, us, h.keep hs hk⟩
theorem RefAt.lt {w : World} {F : Nat → Prop} {g : Nat} {D : Dv} (h : RefAt w F g D) : ∀ k, F k → k < w.heap.size := by
  obtain ⟨ra, c, vw, us, h⟩ := h
  exact h.flt
/-- what a deed leaves -/
def RLeft (w : World) (F : Nat → Prop) (g : Nat) (D : Dv) (w' : World) : Prop := ∃ F', RefAt w' F' g D ∧ Turned F w w' ∧ ∀ k, F' k → F k ∨ w.heap.size ≤ k
theorem RLeft.same {w : World} {F : Nat → Prop} {g : Nat} {D : Dv} (h : RefAt w F g D) : RLeft w F g D w := ⟨F, h, Turned.refl _ _, fun _ h => .inl h⟩
/-- only the device's own block has turned -/
theorem rleft_own {w w' : World} {F : Nat → Prop} {g ra c : Nat} {vw : Value} {us : List (Int × Value)} {D D' : Dv} (h : RefBlk w F g ra c vw us D) (hb : Blk w' g 82 (rdv (.slice (some ⟨ra, 0, none⟩) (D.kept.length * 64) c) vw D'.de D'.fu D'.dn)) (hg : w.grownBy w' (some g)) (ek : D'.kept = D.kept) (ep : D'.pend = D.pend) (hok : D'.Ok) :
    RefBlk w' F g ra c vw us D' ∧ Turned F w w' := by
  have hne : ∀ {n s : Nat} {e : TypeId} {v : Value} {xs : List Value}, w.ownsRow 0 e s v n xs → e ≠ 82 → w'.ownsRow 0 e s v n xs := fun h2 he => owned_keepN h2 fun k hv hl => hg.block k hl (fun e' => owned_neN h2 h.blk he (by rw [hv, e']))
  refine ⟨⟨h.fg, h.fa, h.fw, fun k hf => Nat.lt_of_lt_of_le (h.flt k hf) hg.size, by rw [ek]; exact hb, by rw [ek]; exact hne h.all (by decide), by rw [ep]; exact hne h.row (by decide), ?_, hok⟩, Turned.of_grown hg (fun k e _ => by injection e with e; rw [← e]; exact h.fg)⟩
  rw [ep]
  refine ⟨h.wts.1, fun i p hp => ?_⟩
  obtain ⟨q, c, h1, h2, h3, h4⟩ := h.wts.2 i p hp
  exact ⟨q, c, h1, h2, h3, hne h4 (by decide)⟩
section
set_option maxRecDepth 100000
variable {va vw : Value} {de fu : Int} {dn : Bool} {g : Nat}
theorem rsectors_any {A : Option Addr} {n c : Nat} (w : World) (hn : n ≤ 8192) (hb : Blk w g 82 (rdv (.slice A (n * 64) c) vw de fu dn)) : Calls Try.prog 71 #[.pointer (some ⟨g, 0, none⟩)] w fun e w' => e = .returned (.int .i64 (n : Int)) ∧ w' = w := by
  have c0 := (hb.cell 0).trans (rdv0 ..)
  have hlt := hb.lt
  have hq : ((n * 64 : Nat) : Int).tdiv 64 = (n : Int) := by
    rw [Int.tdiv_eq_ediv_of_nonneg (by omega)]
    omega
  clear hb
  go_enter Try.func71, Try.ntmps71
  go_wp2
  go_ret
  refine ⟨ret_int ?_, rfl⟩
  first | rfl | omega | (rw [← hq]; rfl)
set_option maxHeartbeats 400000 in
theorem rdeed_any (w : World) (hde : 0 ≤ de ∧ de ≤ 1000000000) (hfu : 0 ≤ fu ∧ fu ≤ 9223372036854775807) (hb : Blk w g 82 (rdv va vw de fu false)) : Calls Try.prog 83 #[.pointer (some ⟨g, 0, none⟩)] w fun e w' =>
    e = .returned (.bool (decide ((tick de fu false).1 = 0))) ∧ Blk w' g 82 (rdv va vw (tick de fu false).2.1 (tick de fu false).2.2.1 (tick de fu false).2.2.2) ∧ w.grownBy w' (some g) := by
  have c2 := (hb.cell 2).trans (rdv2 ..)
  have c3 := (hb.cell 3).trans (rdv3 ..)
  have c4 := (hb.cell 4).trans (rdv4 ..)
  have f2 := hb.frozen 2
  have f3 := hb.frozen 3
  have f4 := hb.frozen 4
  have hlt := hb.lt
  have H := hide hb
  have h2 := hde.1
  have h3 := hde.2
  have h4 := hfu.1
  have h5 := hfu.2
  clear hb hde hfu
  by_cases h1 : fu = 1
  · subst h1
    have ht : tick de 1 false = (10, de, 0, true) := by simp [tick]
    rw [ht]
    clear ht
    rw [show decide ((10 : Int) = 0) = false from rfl]
    dsimp only
    go_enter Try.func83, Try.ntmps83
    go_wp2
    go_ret
    have h := (H.out.set_ 3 (.int .i64 0)).set_ 4 (.bool true)
    rw [rdv_set3, rdv_set4] at h
    exact ⟨rfl, h, only_setCell (p := ⟨g, 4, none⟩) (only_setCell (p := ⟨g, 3, none⟩) (World.grownBy.refl _ _) (.inl rfl) _) (.inl rfl) _⟩
  · by_cases h0 : fu = 0
    · subst h0
      have ht : tick de 0 false = (0, de + 1, 0, false) := by simp [tick]
      rw [ht]
      clear ht
      rw [show decide ((0 : Int) = 0) = true from rfl]
      dsimp only
      go_enter Try.func83, Try.ntmps83
      go_wp2
      go_ret
      have h := H.out.set_ 2 (.int .i64 (de + 1))
      rw [rdv_set2] at h
      exact ⟨rfl, h, only_setCell (World.grownBy.refl _ _) (.inl rfl) _⟩
    · have ht : tick de fu false = (0, de + 1, fu - 1, false) := by simp [tick, h1, h0]
      rw [ht]
      have hpos : 0 < fu := by omega
      clear ht
      rw [show decide ((0 : Int) = 0) = true from rfl]
      dsimp only
      go_enter Try.func83, Try.ntmps83
      go_wp2
      go_ret
      have h := (H.out.set_ 3 (.int .i64 (fu - 1))).set_ 2 (.int .i64 (de + 1))
      rw [rdv_set3, rdv_set2] at h
      exact ⟨rfl, h, only_setCell (p := ⟨g, 2, none⟩) (only_setCell (p := ⟨g, 3, none⟩) (World.grownBy.refl _ _) (.inl rfl) _) (.inl rfl) _⟩
end
end Go.Proofs.Ytajeohmmobgcjaa
end
section
namespace Go.Proofs.Ytajeohmmobgcjaa
open Go Go.RowKit
/-- a row of one's own, its block known, cells in its middle turned -/
theorem own_upd {w : World} {base g n cap s : Nat} {e : TypeId} {xs : List Value} (h : w.ownsRow base e s (.slice (some ⟨g, 0, none⟩) n cap) n xs) : ∃ cur : Array Value, Blk w g e cur ∧ n * s ≤ cur.size ∧ n ≤ cap ∧ ∀ (w' : World) (o : Nat) (vs : List Value), o + vs.length ≤ n * s → Blk w' g e (cur.toList.take o ++ (vs ++ cur.toList.drop (o + vs.length))).toArray → w'.ownsRow base e s (.slice (some ⟨g, 0, none⟩) n cap) n (xs.take o ++ (vs ++ xs.drop (o + vs.length))) := by
  have hl := h.1
  rcases owned_formN h with ⟨h, _⟩ | ⟨g', cap', cur, h', hb, hn, hc, hh, hs, ht, _⟩
  · cases h
  · injection h' with e1 e2 e3
    injection e1 with e1
    injection e1 with e1
    subst e1 e3
    have hns : n * s ≤ cap * s := Nat.mul_le_mul_right _ hn
    refine ⟨cur, hh, by omega, hn, fun w' o vs hf hb' => ?_⟩
    refine ⟨by simp; omega, .inr ⟨g, cap, _, rfl, hb, hb', hn, hc, by simp; omega, ?_⟩⟩
    have e : cur.toList = xs ++ cur.toList.drop (n * s) := by rw [← ht, List.take_append_drop]
    show (cur.toList.take o ++ (vs ++ cur.toList.drop (o + vs.length))).take (n * s) = _
    have e1 : cur.toList.take o = xs.take o := by rw [← ht, List.take_take]; congr 1; omega
    have e2 : cur.toList.drop (o + vs.length) = xs.drop (o + vs.length) ++ cur.toList.drop (n * s) := by
      rw [e, List.drop_append, show o + vs.length - xs.length = 0 by omega, List.drop_zero, ← e]
    rw [e1, e2, ← List.append_assoc, ← List.append_assoc]
    rw [List.take_append_of_le_length (by simp; omega), List.take_of_length_le (by simp; omega), List.append_assoc]
theorem new_zero (n : Nat) : bv (List.replicate (n * 64) 0) = keptCells (List.replicate n (List.replicate 64 0)) := by
  rw [kept_bv, List.flatten_replicate_replicate]
set_option maxRecDepth 100000
set_option maxHeartbeats 400000 in
theorem rnew_any (n : Nat) (hn : 1 ≤ n ∧ n ≤ 8192) (w : World) : Calls Try.prog 37 #[.int .i64 (n : Int)] w fun e w' => ∃ g F, e = .returned (.tuple #[.pointer (some ⟨g, 0, none⟩), .int .i64 0]) ∧ RefAt w' F g (Dv.new n) ∧ Below w.heap.size w w' ∧ ∀ k, F k → w.heap.size ≤ k := by
  obtain ⟨i, hi, hz0, hz1, hz2⟩ := info_parts info_1
  have h1 := hn.1
  have h2 := hn.2
  have hm : (n : Int) * 64 = ((n * 64 : Nat) : Int) := by omega
  have hlt64 : n * 64 ≤ 524288 := by omega
  have i1 : (1 : Int) ≤ (n : Int) := by omega
  have i2 : (n : Int) ≤ 8192 := by omega
  have HM := hide hm
  clear hn hm
  go_enter Try.func37, Try.ntmps37
  go_wp2_with (at_make; rw [HM.out]; refine wpList_make_full _ rfl _ _ 48 rfl w.heap.size 5 i (.int .u8 0) 1 Try.underlying48 hi hz0 hz1 _ _ _ _ (n * 64) rfl rfl ?e0 ?e1 ?e2 ?e3 ?e4 ?_)
  case e0 => rfl
  case e1 => rfl
  case e2 => rw [hz2]; omega
  case e3 => simp only [maxLen]; omega
  case e4 => exact Nat.le_refl _
  intro w1 own1 gr1
  have own1 : w1.ownsRow w.heap.size 5 1 (.slice (some ⟨w.heap.size, 0, none⟩) (n * 64) (n * 64)) (n * 64) (madeCells #[.int .u8 0] (n * 64)).toList := own1
  rw [made_bv] at own1
  have H1 := hide (And.intro own1 gr1)
  clear own1 gr1
  go_wp2_with fail
  go_ret2
  obtain ⟨own1, gr1⟩ := H1.out
  have hlt : w.heap.size < w1.heap.size := (own1.lt _ rfl).2
  have el : (Dv.new n).kept.length = n := by simp [Dv.new]
  have hb : Below w.heap.size w w1 := (Below.refl _ _).grown gr1 (Nat.le_refl _) (by intro k hk; cases hk)
  refine ⟨w1.heap.size, rfl, fun k => k = w.heap.size ∨ k = w1.heap.size, ⟨w.heap.size, n * 64, .slice none 0 0, [], ?_⟩, hb.alloc (by omega) _, fun k hk => by rcases hk with hk | hk <;> omega⟩
  refine ⟨.inr rfl, .inl rfl, fun k hk => (by cases hk), fun k hk => (by rw [size_alloc]; rcases hk with hk | hk <;> omega), by rw [el]; exact Blk.new _ _ _, ?_, ⟨rfl, .inl ⟨rfl, rfl⟩⟩, ⟨rfl, fun i p hp => by simp [Dv.new] at hp⟩, ?_⟩
  · rw [el]
    have h := own1.alloc (.cells (rdv (.slice (some ⟨w.heap.size, 0, none⟩) (n * 64) (n * 64)) (.slice none 0 0) 0 0 false) 82)
    have h := owned_baseN h (base' := 0) (fun _ _ => Nat.zero_le _)
    rw [show keptCells (Dv.new n).kept = bv (List.replicate (n * 64) 0) from (new_zero n).symm]
    exact h
  · refine ⟨by rw [el]; exact h1, by rw [el]; exact h2, fun b hb => ?_, by simp [Dv.new], by simp [Dv.new], by simp [Dv.new]⟩
    rw [List.eq_of_mem_replicate hb]
    simp
theorem rnew_bad (n : Int) (hn : n < 1 ∨ 8192 < n) (w : World) : Calls Try.prog 37 #[.int .i64 n] w fun e w' => e = .returned (.tuple #[.pointer none, .int .i64 2]) ∧ w' = w := by
  rcases Int.lt_or_le n 1 with h | h
  · go_enter Try.func37, Try.ntmps37
    go_wp2
    go_ret2
    exact ⟨rfl, rfl⟩
  · have h2 : 8192 < n := by omega
    clear hn
    go_enter Try.func37, Try.ntmps37
    go_wp2
    go_ret2
    exact ⟨rfl, rfl⟩
section
variable {D : Dv} {F : Nat → Prop} {g : Nat}
theorem rcrash_any (w : World) (h : RefAt w F g D) : Calls Try.prog 68 #[.pointer (some ⟨g, 0, none⟩)] w fun e w' => e = .returned (.int .i64 D.crash.1) ∧ RLeft w F g D.crash.2 w' := by
  have h0 := h
  obtain ⟨ra, c, vw, us, hr⟩ := h
  have hb := hr.blk
  cases hdn : D.dn with
  | true =>
    rw [show D.crash = (10, D) by simp [Dv.crash, hdn]]
    rw [hdn] at hb
    have c4 := (hb.cell 4).trans (rdv4 ..)
    have hlt := hb.lt
    have H := hide h0
    clear hb h0 hr
    go_enter Try.func68, Try.ntmps68
    go_wp2
    go_ret
    exact ⟨rfl, .same H.out⟩
  | false =>
    rw [show D.crash = (0, { D with dn := true }) by simp [Dv.crash, hdn]]
    rw [hdn] at hb
    have c4 := (hb.cell 4).trans (rdv4 ..)
    have f4 := hb.frozen 4
    have hlt := hb.lt
    have H := hide (And.intro hr hb)
    clear hb h0 hr
    go_enter Try.func68, Try.ntmps68
    go_wp2
    go_ret
    have hb2 := H.out.2.set_ 4 (.bool true)
    rw [rdv_set4] at hb2
    have hok := H.out.1.ok
    have h2 := rleft_own H.out.1 (D' := { D with dn := true }) hb2 (only_setCell (World.grownBy.refl _ _) (.inl rfl) _) rfl rfl ⟨hok.n1, hok.n2, hok.k64, hok.p64, hok.de, hok.fu⟩
    exact ⟨rfl, F, ⟨_, _, _, _, h2.1⟩, h2.2, fun _ h => .inl h⟩
theorem rfuse_any (x : Int) (hx : x ≤ 9223372036854775807) (w : World) (h : RefAt w F g D) : Calls Try.prog 45 #[.pointer (some ⟨g, 0, none⟩), .int .i64 x] w fun e w' => e = .returned (.int .i64 (D.fuse x).1) ∧ RLeft w F g (D.fuse x).2 w' := by
  have h0 := h
  obtain ⟨ra, c, vw, us, hr⟩ := h
  have hb := hr.blk
  cases hdn : D.dn with
  | true =>
    rw [show D.fuse x = (10, D) by simp [Dv.fuse, hdn]]
    rw [hdn] at hb
    have c4 := (hb.cell 4).trans (rdv4 ..)
    have hlt := hb.lt
    have H := hide h0
    clear hb h0 hr
    go_enter Try.func45, Try.ntmps45
    go_wp2
    go_ret
    exact ⟨rfl, .same H.out⟩
  | false =>
    rw [show D.fuse x = (0, { D with fu := max x 0 }) by simp [Dv.fuse, hdn]]
    rw [hdn] at hb
    have c4 := (hb.cell 4).trans (rdv4 ..)
    have c3 := (hb.cell 3).trans (rdv3 ..)
    have f3 := hb.frozen 3
    have hlt := hb.lt
    have hfin : ∀ z : Int, z = max x 0 → RLeft w F g { D with fu := max x 0 } (w.setCell ⟨g, 3, none⟩ (.int .i64 z)) := fun z hz => by
      have hb2 := hb.set_ 3 (.int .i64 z)
      rw [rdv_set3, hz, ← hdn] at hb2
      rw [hz]
      have hok := hr.ok
      have h2 := rleft_own hr (D' := { D with fu := max x 0 }) hb2 (only_setCell (World.grownBy.refl _ _) (.inl rfl) _) rfl rfl ⟨hok.n1, hok.n2, hok.k64, hok.p64, hok.de, by show 0 ≤ max x 0 ∧ max x 0 ≤ _; omega⟩
      exact ⟨F, ⟨_, _, _, _, h2.1⟩, h2.2, fun _ h => .inl h⟩
    have HF := hide hfin
    clear hb h0 hr hfin
    rcases Int.lt_or_le x 0 with h | h
    · have h2 : x ≤ 0 := by omega
      go_enter Try.func45, Try.ntmps45
      go_wp2
      go_ret
      exact ⟨rfl, HF.out 0 (by omega)⟩
    · rcases Int.lt_or_le 0 x with h1 | h1
      · go_enter Try.func45, Try.ntmps45
        go_wp2
        go_ret
        exact ⟨rfl, HF.out x (by omega)⟩
      · obtain rfl : x = 0 := by omega
        go_enter Try.func45, Try.ntmps45
        go_wp2
        go_ret
        exact ⟨rfl, HF.out 0 (by omega)⟩
end
end Go.Proofs.Ytajeohmmobgcjaa
end
section
namespace Go.Proofs.Ytajeohmmobgcjaa
open Go
theorem and_pow_ne (Z m : Nat) : (Z &&& 2 ^ m ≠ 0) ↔ Z.testBit m = true := by
  constructor
  · intro h
    cases hb : Z.testBit m with
    | true => rfl
    | false =>
      exfalso
      apply h
      apply Nat.eq_of_testBit_eq
      intro i
      rw [Nat.testBit_and, Nat.testBit_two_pow, Nat.zero_testBit]
      by_cases e : m = i
      · subst e; rw [hb, Bool.false_and]
      · simp [e]
  · intro h e
    have : (Z &&& 2 ^ m).testBit m = true := by rw [Nat.testBit_and, h, Nat.testBit_two_pow_self]; rfl
    rw [e, Nat.zero_testBit] at this
    cases this
theorem int_bit (z : Int) (m : Nat) (hm : m < 62) : (((z % 18446744073709551616).toNat).testBit m = true) ↔ (z / 2 ^ m) % 2 = 1 := by
  rw [Nat.testBit_eq_decide_div_mod_eq, decide_eq_true_iff]
  have h0 : 0 ≤ z % 18446744073709551616 := Int.emod_nonneg _ (by omega)
  obtain ⟨Z, hZ⟩ : ∃ Z : Nat, z % 18446744073709551616 = (Z : Int) := ⟨(z % 18446744073709551616).toNat, by omega⟩
  rw [hZ, Int.toNat_natCast]
  have hp : (18446744073709551616 : Int) = 2 ^ m * (2 * 2 ^ (63 - m)) := by
    have : (18446744073709551616 : Int) = 2 ^ 64 := by decide
    rw [this, show (2 : Int) * 2 ^ (63 - m) = 2 ^ (63 - m + 1) by rw [Int.pow_succ]; omega, ← Int.pow_add]
    congr 1
    omega
  obtain ⟨q, hq⟩ : ∃ q, z = (Z : Int) + 18446744073709551616 * q := ⟨z / 18446744073709551616, by omega⟩
  have h2m : (0 : Int) < 2 ^ m := Int.pow_pos (by omega)
  have e : z / 2 ^ m = (Z : Int) / 2 ^ m + 2 * (2 ^ (63 - m) * q) := by
    rw [hq, hp, Int.mul_assoc, Int.add_mul_ediv_left _ _ (by omega), Int.mul_assoc]
  rw [e]
  have e2 : ((Z / 2 ^ m : Nat) : Int) = (Z : Int) / 2 ^ m := by
    rw [Int.natCast_ediv]
    simp
  rw [← e2]
  omega
theorem wake_bit (z : Int) (m : Nat) (hm : m < 62) : (bits .and .i64 (z / 2 ^ m) 1 == 1) = (bits .and .u64 (IntKind.u64.wrap z) (IntKind.u64.wrap (2 ^ m)) != 0) := by
  have h1 : bits .and .i64 (z / 2 ^ m) 1 = (z / 2 ^ m) % 2 := by
    have : (BitVec.ofInt 64 (z / 2 ^ m) &&& BitVec.ofInt 64 1).toNat = (((z / 2 ^ m) % 18446744073709551616).toNat) % 2 := by
      rw [BitVec.toNat_and, BitVec.toNat_ofInt, show (BitVec.ofInt 64 1).toNat = 1 by decide, Nat.and_one_is_mod, show ((2 ^ 64 : Nat) : Int) = 18446744073709551616 by decide]
    show IntKind.i64.wrap ((BitVec.ofInt 64 (z / 2 ^ m) &&& BitVec.ofInt 64 1).toNat : Int) = _
    rw [this]
    simp [IntKind.wrap, IntKind.signed, IntKind.bits]
    omega
  have h3 : (2 : Int) ^ m < 9223372036854775808 := by
    have : (2 : Int) ^ m ≤ 2 ^ 61 := by
      have := Nat.pow_le_pow_right (show 0 < 2 by omega) (show m ≤ 61 by omega)
      exact_mod_cast this
    have e : (2 : Int) ^ 61 = 2305843009213693952 := by decide
    omega
  have h4 : (0 : Int) < 2 ^ m := Int.pow_pos (by omega)
  have hw : IntKind.u64.wrap ((2 : Int) ^ m) = 2 ^ m := by
    simp [IntKind.wrap, IntKind.signed, IntKind.bits]
    omega
  have h2 : bits .and .u64 (IntKind.u64.wrap z) (IntKind.u64.wrap (2 ^ m)) = (((z % 18446744073709551616).toNat &&& 2 ^ m : Nat) : Int) := by
    have e1 : (BitVec.ofInt 64 (IntKind.u64.wrap z)).toNat = (z % 18446744073709551616).toNat := by
      rw [BitVec.toNat_ofInt]
      simp [IntKind.wrap, IntKind.signed, IntKind.bits]
    have e2 : (BitVec.ofInt 64 ((2 : Int) ^ m)).toNat = 2 ^ m := by
      rw [BitVec.toNat_ofInt]
      have : ((2 : Int) ^ m) % ((2 ^ 64 : Nat) : Int) = ((2 ^ m : Nat) : Int) := by
        rw [Int.emod_eq_of_lt (by omega) (by omega)]
        simp
      rw [this, Int.toNat_natCast]
    have hlt : (z % 18446744073709551616).toNat &&& 2 ^ m < 18446744073709551616 := Nat.lt_of_le_of_lt (Nat.and_le_left) (by omega)
    rw [hw]
    show IntKind.u64.wrap ((BitVec.ofInt 64 (IntKind.u64.wrap z) &&& BitVec.ofInt 64 ((2 : Int) ^ m)).toNat : Int) = _
    rw [BitVec.toNat_and, e1, e2]
    generalize (z % 18446744073709551616).toNat &&& 2 ^ m = t at hlt
    simp [IntKind.wrap, IntKind.signed, IntKind.bits]
    omega
  rw [h1, h2, Bool.eq_iff_iff]
  have h5 := int_bit z m hm
  have h6 := and_pow_ne (z % 18446744073709551616).toNat m
  rw [beq_iff_eq, ← h5, ← h6]
  simp only [bne_iff_ne, ne_eq]
  omega
end Go.Proofs.Ytajeohmmobgcjaa
end
