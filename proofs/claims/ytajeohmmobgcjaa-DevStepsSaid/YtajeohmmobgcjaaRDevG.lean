/- spenceref04: a bit is spoilt; deeds of the document's device as one's own. -/
import Derived.Test.YtajeohmmobgcjaaRDevF
namespace Go.Proofs.Ytajeohmmobgcjaa
open Go Go.RowKit
section
variable {D : Dv} {F : Nat → Prop} {g : Nat}
set_option maxRecDepth 100000
set_option maxHeartbeats 1000000 in
theorem rspoil_ok (x bit : Nat) (w : World) (h : RefAt w F g D) (hx : x < D.kept.length) (hbit : bit < 512) : Calls Try.prog 70 #[.pointer (some ⟨g, 0, none⟩), .int .i64 (x : Int), .int .i64 (bit : Int)] w fun e w' => e = .returned (.int .i64 0) ∧ RLeft w F g { D with kept := D.kept.set x (spoilB (D.kept.getD x []) bit) } w' := by
  obtain ⟨ra, c, vw, us, hr⟩ := h
  have hb := hr.blk
  have hk := hr.all
  obtain ⟨b0, hkb⟩ : ∃ b, D.kept[x]? = some b := ⟨D.kept[x]'hx, List.getElem?_eq_getElem _⟩
  have c0 := (hb.cell 0).trans (rdv0 ..)
  have hlt := hb.lt
  have hnk := hr.ok.n2
  have hra := (owned_ltN hk (g := ra) rfl).2
  obtain ⟨v0, hv0⟩ : ∃ v, v = b0.getD (bit / 8) 0 := ⟨_, rfl⟩
  have hcell : w.cell? ⟨ra, x * 64 + bit / 8, none⟩ = some (.int .u8 (v0.toNat : Int)) := by
    have hr := own_range hk (x * 64 + bit / 8) 1 [.int .u8 (v0.toNat : Int)] (by
      have h1 := kept_cell D.kept x bit b0 hr.ok.k64 hkb hbit
      rw [← hv0] at h1
      obtain ⟨h2, h3⟩ := List.getElem?_eq_some_iff.1 h1
      rw [List.drop_eq_getElem_cons h2, h3]
      rfl)
    exact hr 0 _ rfl
  have hfr : w.frozen? ⟨ra, x * 64 + bit / 8, none⟩ = false := (own_there hk (x * 64 + bit / 8) 1 (by omega) 0 (by omega)).2
  have i0 : (0 : Int) ≤ (x : Int) := by omega
  have i1 : (x : Int) < (D.kept.length : Int) := by omega
  have j0 : (0 : Int) ≤ (bit : Int) := by omega
  have j1 : (bit : Int) < 512 := by omega
  have hxb : x * 64 + bit / 8 < D.kept.length * 64 := by omega
  have k0 : (0 : Int) ≤ (x : Int) * 64 + (bit : Int) / 8 := by omega
  have k1 : (x : Int) * 64 + (bit : Int) / 8 < (D.kept.length : Int) * 64 := by omega
  have hm8 : bit % 8 < 8 := Nat.mod_lt _ (by omega)
  have HH := hide (And.intro hr (And.intro hb (And.intro hk (And.intro hkb hv0))))
  clear hb hk hr hkb hv0
  go_enter Try.func70, Try.ntmps70
  go_wp2_with fail
  refine (rsectors_any _ hnk HH.out.2.1).mono ?_
  rintro e w' ⟨rfl, rfl⟩
  dsimp only
  go_wp2_with fail
  refine wp_quiet_tail_drewN 17 (by kernel_rfl) (by kernel_rfl) ?_
  simp only [List.take_succ_cons, List.take_zero, List.drop_succ_cons, List.drop_zero]
  repeat (go_big_quiet_step (fail))
  refine wpQuiet_nil ?_
  intro nq
  go_wp2_with fail
  go_ret
  obtain ⟨hr, hb, hk, hkb, hv0⟩ := HH.out
  have hkg : ra ≠ g := fun e => owned_neN hk hb (by decide) (by rw [← e]; rfl)
  have hset := own_set1 (owned_keepN hk fun k _ _ => rfl : (w'.drewN nq).ownsRow 0 5 1 (.slice (some ⟨ra, 0, none⟩) (D.kept.length * 64) c) (D.kept.length * 64) (keptCells D.kept)) (x * 64 + bit / 8) (.int .u8 (bits .xor .u8 (v0.toNat : Int) ((2 : Int) ^ (bit % 8) % 256))) (by omega)
  have hks := kept_spoil D.kept x bit b0 hr.ok.k64 hkb hbit
  rw [← hv0] at hks
  rw [← hks] at hset
  have hget : D.kept.getD x [] = b0 := by simp [List.getD, hkb]
  have hb064 : b0.length = 64 := hr.ok.k64 b0 (List.mem_of_getElem? hkb)
  have hoth : ∀ k, k ≠ ra → ((w'.drewN nq).setCell ⟨ra, x * 64 + bit / 8, none⟩ (.int .u8 (bits .xor .u8 (v0.toNat : Int) ((2 : Int) ^ (bit % 8) % 256)))).heap[k]? = w'.heap[k]? := fun k hne => Below.heap_setCell (w'.drewN nq) ⟨ra, x * 64 + bit / 8, none⟩ _ k hne
  have hT : Turned F w' ((w'.drewN nq).setCell ⟨ra, x * 64 + bit / 8, none⟩ (.int .u8 (bits .xor .u8 (v0.toNat : Int) ((2 : Int) ^ (bit % 8) % 256)))) := ((Turned.refl (S := F) w').drewN nq).setCell (fun _ => hr.fa) _
  have hlen : (D.kept.set x (spoilB (D.kept.getD x []) bit)).length = D.kept.length := List.length_set
  refine ⟨rfl, F, ⟨ra, c, vw, us, hr.fg, hr.fa, hr.fw, fun k hf => Nat.lt_of_lt_of_le (hr.flt k hf) hT.size, ?_, ?_, ?_, ?_, ?_⟩, hT, fun _ h => .inl h⟩
  · show Blk _ g 82 (rdv (.slice (some ⟨ra, 0, none⟩) ((D.kept.set x (spoilB (D.kept.getD x []) bit)).length * 64) c) vw D.de D.fu D.dn)
    rw [hlen]
    exact (hoth g (fun e => hkg e.symm)).trans hb
  · show World.ownsRow _ 0 5 1 (.slice (some ⟨ra, 0, none⟩) ((D.kept.set x (spoilB (D.kept.getD x []) bit)).length * 64) c) ((D.kept.set x (spoilB (D.kept.getD x []) bit)).length * 64) (keptCells (D.kept.set x (spoilB (D.kept.getD x []) bit)))
    rw [hlen, hget]
    exact hset
  · exact owned_keepN hr.row fun k hk2 _ => hoth k (fun e => owned_ne2 hr.row hk (by decide) hk2 rfl e)
  · refine ⟨hr.wts.1, fun i p hp => ?_⟩
    obtain ⟨q, c2, e1, e2, e3, e4⟩ := hr.wts.2 i p hp
    exact ⟨q, c2, e1, e2, e3, owned_keepN e4 fun k hk2 _ => hoth k (by
      have hk2 : some q = some k := hk2
      injection hk2 with hk2
      rw [← hk2]
      exact e3)⟩
  · have hok := hr.ok
    refine ⟨by rw [hlen]; exact hok.n1, by rw [hlen]; exact hok.n2, fun b hbm => ?_, fun p hp2 => by rw [hlen]; exact hok.p64 p hp2, hok.de, hok.fu⟩
    rw [hget] at hbm
    rcases List.mem_or_eq_of_mem_set hbm with h | h
    · exact hok.k64 b h
    · rw [h, spoilB, List.length_set]
      exact hb064
theorem rspoil_any (x bit : Int) (w : World) (h : RefAt w F g D) : Calls Try.prog 70 #[.pointer (some ⟨g, 0, none⟩), .int .i64 x, .int .i64 bit] w fun e w' => e = .returned (.int .i64 (D.spoil x bit).1) ∧ RLeft w F g (D.spoil x bit).2 w' := by
  by_cases hin : 0 ≤ x ∧ x < (D.kept.length : Int)
  · by_cases hb : 0 ≤ bit ∧ bit < 512
    · rw [show D.spoil x bit = (0, { D with kept := D.kept.set x.toNat (spoilB (D.kept.getD x.toNat []) bit.toNat) }) by simp [Dv.spoil, hin, hb]]
      have h2 := rspoil_ok x.toNat bit.toNat w h (by omega) (by omega)
      rw [Int.toNat_of_nonneg hin.1, Int.toNat_of_nonneg hb.1] at h2
      exact h2
    · rw [show D.spoil x bit = (2, D) by simp [Dv.spoil, hb]]
      have h0 := h
      obtain ⟨ra, c, vw, us, hr⟩ := h
      have hnk := hr.ok.n2
      have HH := hide (And.intro hr.blk h0)
      have hx1 := hin.1
      have hx2 := hin.2
      clear hr h0 hin
      by_cases hneg : bit < 0
      · clear hb
        go_enter Try.func70, Try.ntmps70
        go_wp2_with fail
        refine (rsectors_any _ hnk HH.out.1).mono ?_
        rintro e w' ⟨rfl, rfl⟩
        dsimp only
        go_wp2_with fail
        go_ret
        exact ⟨rfl, .same HH.out.2⟩
      · have hb1 : 0 ≤ bit := by omega
        have hb2 : 512 ≤ bit := by omega
        clear hb
        go_enter Try.func70, Try.ntmps70
        go_wp2_with fail
        refine (rsectors_any _ hnk HH.out.1).mono ?_
        rintro e w' ⟨rfl, rfl⟩
        dsimp only
        go_wp2_with fail
        go_ret
        exact ⟨rfl, .same HH.out.2⟩
  · rw [show D.spoil x bit = (2, D) by simp [Dv.spoil, hin]]
    have h0 := h
    obtain ⟨ra, c, vw, us, hr⟩ := h
    have hnk := hr.ok.n2
    have HH := hide (And.intro hr.blk h0)
    clear hr h0
    by_cases hneg : x < 0
    · clear hin
      go_enter Try.func70, Try.ntmps70
      go_wp2_with fail
      go_ret
      exact ⟨rfl, .same HH.out.2⟩
    · have hx1 : 0 ≤ x := by omega
      have hx2 : (D.kept.length : Int) ≤ x := by omega
      clear hin
      go_enter Try.func70, Try.ntmps70
      go_wp2_with fail
      refine (rsectors_any _ hnk HH.out.1).mono ?_
      rintro e w' ⟨rfl, rfl⟩
      dsimp only
      go_wp2_with fail
      go_ret
      exact ⟨rfl, .same HH.out.2⟩
end
/-- the device and the document's, both one's own, apart -/
structure Two (R : Nat) (w0 w : World) (Fd Fr : Nat → Prop) (g r : Nat) (D E : Dv) : Prop where
  mine : Mine R w0 w Fd g D
  ref : RefAt w Fr r E
  low : ∀ k, Fr k → R ≤ k
  apart : ∀ k, Fd k → ¬ Fr k
section
variable {R g r : Nat} {w0 w w' : World} {Fd Fr : Nat → Prop} {D E D' E' : Dv}
theorem Mine.deal2 (h : Mine R w0 w Fd g D) (hR : R ≤ w0.heap.size) (hl : Left w Fd g D' w') : ∃ F', Mine R w0 w' F' g D' ∧ Turned Fd w w' ∧ ∀ k, F' k → Fd k ∨ w.heap.size ≤ k := by
  obtain ⟨F', h1, h2, h3⟩ := hl
  have hs := h.bel.size
  refine ⟨F', ⟨h1, ⟨h2.os.trans h.bel.os, h2.tape.trans h.bel.tape, h2.output.trans h.bel.output, Nat.le_trans hs h2.size, fun k hk => (h2.block k (by omega) (fun hf => by have := h.low k hf; omega)).trans (h.bel.block k hk)⟩, fun k hk => ?_⟩, h2, h3⟩
  rcases h3 k hk with h3 | h3
  · exact h.low k h3
  · omega
theorem Two.dev (h : Two R w0 w Fd Fr g r D E) (hR : R ≤ w0.heap.size) (hl : Left w Fd g D' w') : ∃ F', Two R w0 w' F' Fr g r D' E := by
  obtain ⟨F', h1, h2, h3⟩ := h.mine.deal2 hR hl
  refine ⟨F', h1, h.ref.keep h2.size fun k hk hf => h2.block k hk fun hd => h.apart k hd hf, h.low, fun k hk hf => ?_⟩
  rcases h3 k hk with hd | hn
  · exact h.apart k hd hf
  · have := h.ref.lt k hf; omega
theorem Two.doc (h : Two R w0 w Fd Fr g r D E) (hR : R ≤ w0.heap.size) (hl : RLeft w Fr r E' w') : ∃ F', Two R w0 w' Fd F' g r D E' := by
  obtain ⟨F', h1, h2, h3⟩ := hl
  have hs := h.mine.bel.size
  refine ⟨F', ⟨h.mine.dev.keep fun k hk hf => h2.block k hk fun hr => h.apart k hf hr, ⟨h2.os.trans h.mine.bel.os, h2.tape.trans h.mine.bel.tape, h2.output.trans h.mine.bel.output, Nat.le_trans hs h2.size, fun k hk => (h2.block k (by omega) (fun hf => by have := h.low k hf; omega)).trans (h.mine.bel.block k hk)⟩, h.mine.low⟩, h1, fun k hk => ?_, fun k hk hf => ?_⟩
  · rcases h3 k hk with h3 | h3
    · exact h.low k h3
    · omega
  · rcases h3 k hf with hr | hn
    · exact h.apart k hk hr
    · have := h.mine.dev.lt k hk; omega
theorem Two.grow (h : Two R w0 w Fd Fr g r D E) (hR : R ≤ w0.heap.size) (hb : Below w.heap.size w w') : Two R w0 w' Fd Fr g r D E :=
  ⟨h.mine.grow hR hb, h.ref.keep hb.size fun k hk _ => hb.block k hk, h.low, h.apart⟩
end
end Go.Proofs.Ytajeohmmobgcjaa
