/- spenceref04: a device of the document, in memory; the small walks. -/
import Derived.Test.YtajeohmmobgcjaaDevM
namespace Go.Proofs.Ytajeohmmobgcjaa
open Go Go.RowKit
/-- its cells: all that is kept, pending writes, deeds, a fuse, is it down -/
def rdv (va vw : Value) (de fu : Int) (dn : Bool) : Array Value := #[va, vw, .int .i64 de, .int .i64 fu, .bool dn]
theorem rdv0 (va vw : Value) (de fu : Int) (dn : Bool) : (rdv va vw de fu dn)[0]? = some va := rfl
theorem rdv1 (va vw : Value) (de fu : Int) (dn : Bool) : (rdv va vw de fu dn)[1]? = some vw := rfl
theorem rdv2 (va vw : Value) (de fu : Int) (dn : Bool) : (rdv va vw de fu dn)[2]? = some (.int .i64 de) := rfl
theorem rdv3 (va vw : Value) (de fu : Int) (dn : Bool) : (rdv va vw de fu dn)[3]? = some (.int .i64 fu) := rfl
theorem rdv4 (va vw : Value) (de fu : Int) (dn : Bool) : (rdv va vw de fu dn)[4]? = some (.bool dn) := rfl
theorem rdv_set1 (va vw x : Value) (de fu : Int) (dn : Bool) : (rdv va vw de fu dn).setIfInBounds 1 x = rdv va x de fu dn := rfl
theorem rdv_set2 (va vw : Value) (de fu x : Int) (dn : Bool) : (rdv va vw de fu dn).setIfInBounds 2 (.int .i64 x) = rdv va vw x fu dn := rfl
theorem rdv_set3 (va vw : Value) (de fu x : Int) (dn : Bool) : (rdv va vw de fu dn).setIfInBounds 3 (.int .i64 x) = rdv va vw de x dn := rfl
theorem rdv_set4 (va vw : Value) (de fu : Int) (dn x : Bool) : (rdv va vw de fu dn).setIfInBounds 4 (.bool x) = rdv va vw de fu x := rfl
def waitCells (us : List (Int × Value)) : List Value := (us.map fun u => [.int .i64 u.1, u.2]).flatten
/-- the pending writes' own rows -/
def WaitsAt (w : World) (F : Nat → Prop) (ra : Nat) (us : List (Int × Value)) (L : List (Int × List UInt8)) : Prop :=
  us.length = L.length ∧ ∀ (i : Nat) (p : Int × List UInt8), L[i]? = some p → ∃ q c, us[i]? = some (p.1, .slice (some ⟨q, 0, none⟩) 64 c) ∧ F q ∧ q ≠ ra ∧ w.ownsRow 0 5 1 (.slice (some ⟨q, 0, none⟩) 64 c) 64 (bv p.2)
structure RefBlk (w : World) (F : Nat → Prop) (g ra c : Nat) (vw : Value) (us : List (Int × Value)) (D : Dv) : Prop where
  fg : F g
  fa : F ra
  fw : ∀ k, vw.ownBlock = some k → F k
  flt : ∀ k, F k → k < w.heap.size
  blk : Blk w g 82 (rdv (.slice (some ⟨ra, 0, none⟩) (D.kept.length * 64) c) vw D.de D.fu D.dn)
  all : w.ownsRow 0 5 1 (.slice (some ⟨ra, 0, none⟩) (D.kept.length * 64) c) (D.kept.length * 64) (keptCells D.kept)
  row : w.ownsRow 0 126 2 vw D.pend.length (waitCells us)
  wts : WaitsAt w F ra us D.pend
  ok : D.Ok
def RefAt (w : World) (F : Nat → Prop) (g : Nat) (D : Dv) : Prop := ∃ ra c vw us, RefBlk w F g ra c vw us D
theorem WaitsAt.keep {w w' : World} {F : Nat → Prop} {ra : Nat} {us : List (Int × Value)} {L : List (Int × List UInt8)} (h : WaitsAt w F ra us L) (hk : ∀ k, k < w.heap.size → F k → k ≠ ra → w'.heap[k]? = w.heap[k]?) : WaitsAt w' F ra us L :=
  ⟨h.1, fun i p hp => by
    obtain ⟨q, c, h1, h2, h3, h4⟩ := h.2 i p hp
    exact ⟨q, c, h1, h2, h3, owned_keepN h4 fun k hg hl => hk k hl (by injection hg with hg; subst hg; exact h2) (by injection hg with hg; subst hg; exact h3)⟩⟩
theorem WaitsAt.grow {w : World} {F F' : Nat → Prop} {ra : Nat} {us : List (Int × Value)} {L : List (Int × List UInt8)} (h : WaitsAt w F ra us L) (hF : ∀ k, F k → F' k) : WaitsAt w F' ra us L :=
  ⟨h.1, fun i p hp => by
    obtain ⟨q, c, h1, h2, h3, h4⟩ := h.2 i p hp
    exact ⟨q, c, h1, hF q h2, h3, h4⟩⟩
theorem RefBlk.keep {w w' : World} {F : Nat → Prop} {g ra c : Nat} {vw : Value} {us : List (Int × Value)} {D : Dv} (h : RefBlk w F g ra c vw us D) (hs : w.heap.size ≤ w'.heap.size) (hk : ∀ k, k < w.heap.size → F k → w'.heap[k]? = w.heap[k]?) : RefBlk w' F g ra c vw us D :=
  ⟨h.fg, h.fa, h.fw, fun k hf => Nat.lt_of_lt_of_le (h.flt k hf) hs, (hk g h.blk.lt h.fg).trans h.blk, owned_keepN h.all fun k hg hl => hk k hl (by injection hg with hg; subst hg; exact h.fa), owned_keepN h.row fun k hg hl => hk k hl (h.fw k hg), h.wts.keep fun k h1 h2 _ => hk k h1 h2, h.ok⟩
theorem RefAt.keep {w w' : World} {F : Nat → Prop} {g : Nat} {D : Dv} (h : RefAt w F g D) (hs : w.heap.size ≤ w'.heap.size) (hk : ∀ k, k < w.heap.size → F k → w'.heap[k]? = w.heap[k]?) : RefAt w' F g D := by
  obtain ⟨ra, c, vw, us, h⟩ := h
  exact ⟨ra, c, vw, us, h.keep hs hk⟩
theorem RefAt.lt {w : World} {F : Nat → Prop} {g : Nat} {D : Dv} (h : RefAt w F g D) : ∀ k, F k → k < w.heap.size := by
  obtain ⟨ra, c, vw, us, h⟩ := h
  exact h.flt
/-- what a deed leaves -/
def RLeft (w : World) (F : Nat → Prop) (g : Nat) (D : Dv) (w' : World) : Prop := ∃ F', RefAt w' F' g D ∧ Turned F w w' ∧ ∀ k, F' k → F k ∨ w.heap.size ≤ k
theorem RLeft.same {w : World} {F : Nat → Prop} {g : Nat} {D : Dv} (h : RefAt w F g D) : RLeft w F g D w := ⟨F, h, Turned.refl _ _, fun _ h => .inl h⟩
/-- only the device's own block has turned -/
theorem rleft_own {w w' : World} {F : Nat → Prop} {g ra c : Nat} {vw : Value} {us : List (Int × Value)} {D D' : Dv} (h : RefBlk w F g ra c vw us D) (hb : Blk w' g 82 (rdv (.slice (some ⟨ra, 0, none⟩) (D.kept.length * 64) c) vw D'.de D'.fu D'.dn)) (hg : w.grownBy w' (some g)) (ek : D'.kept = D.kept) (ep : D'.pend = D.pend) (hok : D'.Ok) :
    RefBlk w' F g ra c vw us D' ∧ Turned F w w' := by
  have hne : ∀ {n s : Nat} {e : TypeId} {v : Value} {xs : List Value}, w.ownsRow 0 e s v n xs → e ≠ 82 → w'.ownsRow 0 e s v n xs := fun h2 he => owned_keepN h2 fun k hv hl => hg.block k hl (fun e' => owned_neN h2 h.blk he (by rw [hv, e']))
  refine ⟨⟨h.fg, h.fa, h.fw, fun k hf => Nat.lt_of_lt_of_le (h.flt k hf) hg.size, by rw [ek]; exact hb, by rw [ek]; exact hne h.all (by decide), by rw [ep]; exact hne h.row (by decide), ?_, hok⟩, Turned.of_grown hg (fun k e _ => by injection e with e; rw [← e]; exact h.fg)⟩
  rw [ep]
  refine ⟨h.wts.1, fun i p hp => ?_⟩
  obtain ⟨q, c, h1, h2, h3, h4⟩ := h.wts.2 i p hp
  exact ⟨q, c, h1, h2, h3, hne h4 (by decide)⟩
section
set_option maxRecDepth 100000
variable {va vw : Value} {de fu : Int} {dn : Bool} {g : Nat}
theorem rsectors_any {A : Option Addr} {n c : Nat} (w : World) (hn : n ≤ 8192) (hb : Blk w g 82 (rdv (.slice A (n * 64) c) vw de fu dn)) : Calls Try.prog 71 #[.pointer (some ⟨g, 0, none⟩)] w fun e w' => e = .returned (.int .i64 (n : Int)) ∧ w' = w := by
  have c0 := (hb.cell 0).trans (rdv0 ..)
  have hlt := hb.lt
  have hq : ((n * 64 : Nat) : Int).tdiv 64 = (n : Int) := by
    rw [Int.tdiv_eq_ediv_of_nonneg (by omega)]
    omega
  clear hb
  go_enter Try.func71, Try.ntmps71
  go_wp2
  go_ret
  refine ⟨ret_int ?_, rfl⟩
  first | rfl | omega | (rw [← hq]; rfl)
set_option maxHeartbeats 400000 in
theorem rdeed_any (w : World) (hde : 0 ≤ de ∧ de ≤ 1000000000) (hfu : 0 ≤ fu ∧ fu ≤ 9223372036854775807) (hb : Blk w g 82 (rdv va vw de fu false)) : Calls Try.prog 83 #[.pointer (some ⟨g, 0, none⟩)] w fun e w' =>
    e = .returned (.bool (decide ((tick de fu false).1 = 0))) ∧ Blk w' g 82 (rdv va vw (tick de fu false).2.1 (tick de fu false).2.2.1 (tick de fu false).2.2.2) ∧ w.grownBy w' (some g) := by
  have c2 := (hb.cell 2).trans (rdv2 ..)
  have c3 := (hb.cell 3).trans (rdv3 ..)
  have c4 := (hb.cell 4).trans (rdv4 ..)
  have f2 := hb.frozen 2
  have f3 := hb.frozen 3
  have f4 := hb.frozen 4
  have hlt := hb.lt
  have H := hide hb
  have h2 := hde.1
  have h3 := hde.2
  have h4 := hfu.1
  have h5 := hfu.2
  clear hb hde hfu
  by_cases h1 : fu = 1
  · subst h1
    have ht : tick de 1 false = (10, de, 0, true) := by simp [tick]
    rw [ht]
    clear ht
    rw [show decide ((10 : Int) = 0) = false from rfl]
    dsimp only
    go_enter Try.func83, Try.ntmps83
    go_wp2
    go_ret
    have h := (H.out.set_ 3 (.int .i64 0)).set_ 4 (.bool true)
    rw [rdv_set3, rdv_set4] at h
    exact ⟨rfl, h, only_setCell (p := ⟨g, 4, none⟩) (only_setCell (p := ⟨g, 3, none⟩) (World.grownBy.refl _ _) (.inl rfl) _) (.inl rfl) _⟩
  · by_cases h0 : fu = 0
    · subst h0
      have ht : tick de 0 false = (0, de + 1, 0, false) := by simp [tick]
      rw [ht]
      clear ht
      rw [show decide ((0 : Int) = 0) = true from rfl]
      dsimp only
      go_enter Try.func83, Try.ntmps83
      go_wp2
      go_ret
      have h := H.out.set_ 2 (.int .i64 (de + 1))
      rw [rdv_set2] at h
      exact ⟨rfl, h, only_setCell (World.grownBy.refl _ _) (.inl rfl) _⟩
    · have ht : tick de fu false = (0, de + 1, fu - 1, false) := by simp [tick, h1, h0]
      rw [ht]
      have hpos : 0 < fu := by omega
      clear ht
      rw [show decide ((0 : Int) = 0) = true from rfl]
      dsimp only
      go_enter Try.func83, Try.ntmps83
      go_wp2
      go_ret
      have h := (H.out.set_ 3 (.int .i64 (fu - 1))).set_ 2 (.int .i64 (de + 1))
      rw [rdv_set3, rdv_set2] at h
      exact ⟨rfl, h, only_setCell (p := ⟨g, 2, none⟩) (only_setCell (p := ⟨g, 3, none⟩) (World.grownBy.refl _ _) (.inl rfl) _) (.inl rfl) _⟩
end
end Go.Proofs.Ytajeohmmobgcjaa
