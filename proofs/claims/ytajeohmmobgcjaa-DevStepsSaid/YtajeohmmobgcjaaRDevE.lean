/- spenceref04: what is read of a sector. -/
import Derived.Test.YtajeohmmobgcjaaRDevD
namespace Go.Proofs.Ytajeohmmobgcjaa
open Go Go.RowKit
theorem last_fold (x : Int) : ∀ (L : List (Int × List UInt8)) (a : List UInt8), L.foldl (fun a p => if p.1 == x then p.2 else a) a = (lastL L x).getD a
  | [], _ => rfl
  | p :: L, a => by
    rw [List.foldl_cons, last_fold x L]
    simp only [lastL, List.reverse_cons, List.find?_append]
    cases hf : L.reverse.find? fun p => p.1 == x with
    | some q => simp
    | none =>
      cases hp : p.1 == x with
      | true => simp [hp]
      | false => simp [hp]
def seenL (L : List (Int × List UInt8)) (x : Int) (a : List UInt8) : List UInt8 := L.foldl (fun a p => if p.1 == x then p.2 else a) a
theorem seen_take (L : List (Int × List UInt8)) (x : Int) (a : List UInt8) (i : Nat) (p : Int × List UInt8) (h : L[i]? = some p) : seenL (L.take (i + 1)) x a = if p.1 == x then p.2 else seenL (L.take i) x a := by
  rw [List.take_add_one, h]
  simp [seenL, List.foldl_append]
theorem seen_len (x : Int) : ∀ (L : List (Int × List UInt8)) (a : List UInt8), (∀ p ∈ L, p.2.length = 64) → a.length = 64 → (seenL L x a).length = 64
  | [], _, _, h => h
  | p :: L, a, hp, h => by
    rw [seenL, List.foldl_cons]
    refine seen_len x L _ (fun q hq => hp q (by simp [hq])) ?_
    split
    · exact hp p (by simp)
    · exact h
set_option maxRecDepth 100000
set_option maxHeartbeats 1000000 in
theorem rread_ok {D : Dv} {F : Nat → Prop} {g : Nat} (x : Nat) (hx : x < D.kept.length) (w : World) (h : RefAt w F g D) (hdn : D.dn = false) (hm : D.pend.length ≤ 100000) :
    Calls Try.prog 65 #[.pointer (some ⟨g, 0, none⟩), .int .i64 (x : Int)] w fun e w' => ∃ v, e = .returned (.tuple #[v, .int .i64 0]) ∧ w'.ownsRow w.heap.size 5 1 v 64 (bv (D.read x)) ∧ Below w.heap.size w w' := by
  obtain ⟨ra, c, vw, us, hr⟩ := h
  obtain ⟨A, cp, rfl⟩ := hr.slice
  obtain ⟨i8, hi8, hz80, hz81, hz82⟩ := info_parts info_1
  have hb := hr.blk
  rw [hdn] at hb
  have c4 := (hb.cell 4).trans (rdv4 ..)
  have c0 := (hb.cell 0).trans (rdv0 ..)
  have hlt := hb.lt
  have hnk := hr.ok.n2
  have i0 : (0 : Int) ≤ (x : Int) := by omega
  have i1 : (x : Int) < (D.kept.length : Int) := by omega
  have i2 : (x : Int) ≤ 8192 := by omega
  obtain ⟨_, _, _, hcc, _⟩ := own_upd hr.all
  have i3 : (x : Int) * 64 + 64 ≤ (c : Int) := by omega
  obtain ⟨b0, hkb⟩ : ∃ b, D.kept[x]? = some b := ⟨D.kept[x]'hx, List.getElem?_eq_getElem _⟩
  have hb064 : b0.length = 64 := hr.ok.k64 b0 (List.mem_of_getElem? hkb)
  have hread : D.read x = seenL D.pend (x : Int) b0 := by
    unfold Dv.read readL seenL
    rw [last_fold]
    simp [List.getD, hkb]
  have HR := hide (And.intro hr (And.intro hb (And.intro hread hkb)))
  clear hb hr hread hkb
  go_enter Try.func65, Try.ntmps65
  go_wp2_with fail
  refine (rsectors_any _ hnk HR.out.2.1).mono ?_
  rintro e w' ⟨rfl, rfl⟩
  have hown0 := owned_new w' 5
  have hB0 : Below w'.heap.size w' (w'.alloc (.cells #[] 5)) := (Below.refl _ _).alloc (Nat.le_refl _) _
  have hsrc0 : Src (w'.alloc (.cells #[] 5)) (some ⟨ra, x * 64, none⟩) 64 (c - x * 64) (bv b0) := ⟨by rw [bvL, hb064], (fun h => (by cases h)), bv1 b0, fun ad had j u hu => by
    injection had with had
    subst had
    rw [Addr.add_mid]
    refine own_range (owned_keepN HR.out.1.all fun k _ hl => hB0.block k hl) (x * 64) 64 (bv b0) ?_ j u hu
    have h := kept_at D.kept x b0 HR.out.1.ok.k64 HR.out.2.2.2
    exact h⟩
  have H0 := hide (And.intro hown0 (And.intro hB0 hsrc0))
  clear hown0 hB0 hsrc0
  dsimp only
  go_wp2_with (at_builtin; (refine wpList_app (o := ⟨some 31, _, _, _, _, _⟩) rfl _ _ 48 rfl w'.heap.size 5 i8 (.int .u8 0) 1 Try.underlying48 hi8 hz80 hz81 hz82 rfl _ 0 [] H0.out.1 (some ⟨ra, x * 64, none⟩) (x * 64 + 64 - x * 64) (c - x * 64) (bv b0) ?h0 ?h1 ?h2 ?h3 rfl rfl ?_))
  case h0 => rw [Nat.add_sub_cancel_left]; exact H0.out.2.2
  case h1 => simp only [maxLen]; omega
  case h2 => omega
  case h3 => rw [size_alloc]; omega
  intro v1 w1 own1 gr1 _ _
  have own1 : w1.ownsRow w'.heap.size 5 1 v1 64 (bv b0) := by simpa using own1
  have hb1 : Below w'.heap.size w' w1 := H0.out.2.1.grown gr1 (by rw [size_alloc]; omega) (fun k hk => by
    injection hk with hk
    change w'.heap.size = k at hk
    omega)
  have H1 := hide (And.intro own1 hb1)
  clear own1 hb1 gr1
  go_wp2_with fail
  go_loopw [6, 7] (fun v iv wr => ∃ i : Nat, i ≤ D.pend.length ∧ iv = .int .i64 (i : Int) ∧ wr.ownsRow w'.heap.size 5 1 v 64 (bv (seenL (D.pend.take i) (x : Int) b0)) ∧ Below w'.heap.size w' wr) (fun _ iv _ => D.pend.length - (intOf iv).toNat)
  case atStart => exact ⟨0, by omega, rfl, H1.out.1, H1.out.2⟩
  case round =>
    obtain ⟨i, hi, rfl, ho, hbel⟩ := hrel
    have hdv := HR.out.2.1.below hbel hlt
    have c1r := (hdv.cell 1).trans (rdv1 ..)
    have hltr := hdv.lt
    have HW := hide (And.intro ho (And.intro hbel hdv))
    clear ho hbel hdv
    by_cases hil : i < D.pend.length
    · have j1 : (i : Int) < (D.pend.length : Int) := by omega
      have j0 : (0 : Int) ≤ (i : Int) := by omega
      obtain ⟨rw_, cap', hvp⟩ := owned_placeN HR.out.1.row (by omega)
      injection hvp with e1 _ e2
      subst e1 e2
      obtain ⟨⟨x0, b⟩, hpj⟩ : ∃ p, D.pend[i]? = some p := ⟨D.pend[i]'hil, List.getElem?_eq_getElem _⟩
      have hb64 : b.length = 64 := (HR.out.1.ok.p64 _ (List.mem_of_getElem? hpj)).1
      obtain ⟨q, c2, hu, _, _, hqo⟩ := HR.out.1.wts.2 i _ hpj
      have hwr : wr.ownsRow 0 126 2 (.slice (some ⟨rw_, 0, none⟩) D.pend.length cp) D.pend.length (waitCells us) := owned_keepN HR.out.1.row fun k _ hl => HW.out.2.1.block k hl
      have hrange : wr.rangeAt rw_ (i * 2) [.int .i64 x0, .slice (some ⟨q, 0, none⟩) 64 c2] := own_range hwr (i * 2) 2 _ (wait_at us i _ hu)
      have cw0 : wr.cell? ⟨rw_, i * 2, none⟩ = some (.int .i64 x0) := hrange 0 _ rfl
      have cw1 : wr.cell? ⟨rw_, i * 2 + 1, none⟩ = some (.slice (some ⟨q, 0, none⟩) 64 c2) := hrange 1 _ rfl
      have hqw : wr.ownsRow 0 5 1 (.slice (some ⟨q, 0, none⟩) 64 c2) 64 (bv b) := owned_keepN hqo fun k _ hl => HW.out.2.1.block k hl
      have hst := seen_take D.pend (x : Int) b0 i _ hpj
      have hown0 : (wr.alloc (.cells #[] 5)).ownsRow w'.heap.size 5 1 (.slice (some ⟨wr.heap.size, 0, none⟩) 0 0) 0 [] := owned_baseN (owned_new wr 5) (fun k hk => by
        have hk : some wr.heap.size = some k := hk
        injection hk with hk
        have := HW.out.2.1.size
        omega)
      have hB0 : Below wr.heap.size wr (wr.alloc (.cells #[] 5)) := (Below.refl _ _).alloc (Nat.le_refl _) _
      have hsrc0 : Src (wr.alloc (.cells #[] 5)) (some ⟨q, 0, none⟩) 64 c2 (bv b) := by
        have h : (wr.alloc (.cells #[] 5)).ownsRow 0 5 1 (.slice (some ⟨q, 0, none⟩) 64 c2) 64 (bv b) := owned_keepN hqw fun k _ hl => hB0.block k hl
        rw [show 64 = b.length from hb64.symm] at h ⊢
        exact owned_src0 h
      have HQ := hide (And.intro hown0 (And.intro hB0 hsrc0))
      have HS := hide hst
      have hwsz := HW.out.2.1.size
      have hrwlt : rw_ < wr.heap.size := World.block_lt_of_cell? wr _ cw0
      clear hown0 hB0 hsrc0 hst hqw hrange hwr hqo hu hpj
      by_cases hxx : x0 = (x : Int)
      · subst hxx
        go_wp2_with (at_builtin; (refine wpList_app (o := ⟨some 60, _, _, _, _, _⟩) rfl _ _ 48 rfl w'.heap.size 5 i8 (.int .u8 0) 1 Try.underlying48 hi8 hz80 hz81 hz82 rfl _ 0 [] HQ.out.1 (some ⟨q, 0, none⟩) 64 c2 (bv b) ?g0 ?g1 ?g2 ?g3 rfl rfl ?_))
        case g0 => exact HQ.out.2.2
        case g1 => simp only [maxLen]; omega
        case g3 => omega
        intro v2 w2 own2 gr2 _ _
        have own2 : w2.ownsRow w'.heap.size 5 1 v2 64 (bv b) := by simpa using own2
        have hb2 : Below w'.heap.size w' w2 := (HW.out.2.1.trans (Below.mono HQ.out.2.1 hwsz)).grown gr2 (by rw [size_alloc]; omega) (fun k hk => by
          have hk : some wr.heap.size = some k := hk
          injection hk with hk
          omega)
        have H2 := hide (And.intro own2 hb2)
        clear own2 hb2 gr2
        go_wp2_with fail
        go_roundw
        case rel =>
          refine ⟨i + 1, by omega, by go_num, ?_, H2.out.2⟩
          rw [HS.out, if_pos (by simp)]
          exact H2.out.1
        case measure => simp [intOf]; omega
      · go_wp2_with fail
        go_roundw
        case rel =>
          refine ⟨i + 1, by omega, by go_num, ?_, HW.out.2.1⟩
          rw [HS.out, if_neg (by simpa using hxx)]
          exact HW.out.1
        case measure => simp [intOf]; omega
    · obtain rfl : i = D.pend.length := by omega
      go_wp2_with fail
      go_ret2
      have h := HW.out
      rw [List.take_length, ← HR.out.2.2.1] at h
      exact ⟨_, rfl, h.1, h.2.1⟩
theorem rread_down {D : Dv} {F : Nat → Prop} {g : Nat} (x : Int) (w : World) (h : RefAt w F g D) (hdn : D.dn = true) : Calls Try.prog 65 #[.pointer (some ⟨g, 0, none⟩), .int .i64 x] w fun e w' => e = .returned (.tuple #[.slice none 0 0, .int .i64 10]) ∧ w' = w := by
  obtain ⟨ra, c, vw, us, hr⟩ := h
  have hb := hr.blk
  rw [hdn] at hb
  have c4 := (hb.cell 4).trans (rdv4 ..)
  have hlt := hb.lt
  clear hb hr
  go_enter Try.func65, Try.ntmps65
  go_wp2
  go_ret2
  exact ⟨rfl, rfl⟩
theorem rread_out {D : Dv} {F : Nat → Prop} {g : Nat} (x : Int) (hx : x < 0 ∨ (D.kept.length : Int) ≤ x) (w : World) (h : RefAt w F g D) (hdn : D.dn = false) : Calls Try.prog 65 #[.pointer (some ⟨g, 0, none⟩), .int .i64 x] w fun e w' => e = .returned (.tuple #[.slice none 0 0, .int .i64 2]) ∧ w' = w := by
  obtain ⟨ra, c, vw, us, hr⟩ := h
  have hb := hr.blk
  have hnk := hr.ok.n2
  rw [hdn] at hb
  have c4 := (hb.cell 4).trans (rdv4 ..)
  have hlt := hb.lt
  have HB := hide hb
  clear hb hr
  by_cases hneg : x < 0
  · clear hx
    go_enter Try.func65, Try.ntmps65
    go_wp2
    go_ret2
    exact ⟨rfl, rfl⟩
  · have i1 : 0 ≤ x := by omega
    have i2 : (D.kept.length : Int) ≤ x := by omega
    clear hx
    go_enter Try.func65, Try.ntmps65
    go_wp2_with fail
    refine (rsectors_any _ hnk HB.out).mono ?_
    rintro e w' ⟨rfl, rfl⟩
    dsimp only
    go_wp2_with fail
    go_ret2
    exact ⟨rfl, rfl⟩
end Go.Proofs.Ytajeohmmobgcjaa
