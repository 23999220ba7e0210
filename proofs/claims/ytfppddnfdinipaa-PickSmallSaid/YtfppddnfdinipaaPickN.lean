/- package pick: try. -/
import Derived.Test.YtfppddnfdinipaaPickM
namespace Go.Proofs.Ytfppddnfdinipaa
open Go Go.RowKit Go.Maps
set_option maxRecDepth 100000
def optLay : Lay Opt := Lay.struct 55 (.cons pathLay (.cons pathsLay .nil)) fun o => (o.1, o.2, ())
def rowLay : Lay (List Opt) := Lay.slice 57 optLay
def rowsLay : Lay (List (List Opt)) := Lay.slice 26 rowLay
theorem optLay_at {w : World} {B : Nat} {cs : List Value} {o : Opt} (h : optLay.At w B cs o) : ∃ v, cs = oC o.1 v ∧ okP o.1 ∧ pathsLay.At w B [v] o.2 := by
  obtain ⟨c1, c2, rfl, h1, c3, c4, rfl, h3, h4⟩ := h
  have h4 : c4 = [] := h4
  subst h4
  obtain ⟨rfl, hp⟩ := pathLay_at.1 h1
  have h3' := h3
  obtain ⟨A, cap, e, _⟩ := h3'
  subst e
  exact ⟨_, by simp, hp, h3⟩
theorem rowLay_at {w : World} {B : Nat} {cs : List Value} {l : List Opt} (h : rowLay.At w B cs l) : ∃ v, cs = [v] ∧ rowLay.At w B [v] l := by
  have h' := h
  obtain ⟨A, cap, e, _⟩ := h'
  subst e
  exact ⟨_, rfl, h⟩
theorem sz_row : (Try.prog.info? 57).map (·.size) = some 1 := by kernel_rfl
theorem sz_opt : (Try.prog.info? 55).map (·.size) = some 22 := by kernel_rfl
/-- a case in memory, below the search -/
structure CaseOk (B : Nat) (w : World) (c : Cvs) (cls : List Hsh) (opts : List (List Opt)) (U : List Hsh) (V : List Pth) : Prop where
  atC : hashesLay.At w B [c.classes] cls
  atO : rowsLay.At w B [c.opts] opts
  len : cls.length = opts.length
  len9 : opts.length ≤ 100000
  inU : ∀ h ∈ cls, h ∈ U
  opt : ∀ os ∈ opts, os.length ≤ 100000 ∧ ∀ x ∈ os, x.1 ∈ V ∧ x.2.length ≤ 199 ∧ ∀ q ∈ x.2, q ∈ V
theorem CaseOk.alike {B : Nat} {w w' : World} {c : Cvs} {cls : List Hsh} {opts : List (List Opt)} {U : List Hsh} {V : List Pth} (h : CaseOk B w c cls opts U V) (ha : Alike B w w') : CaseOk B w' c cls opts U V :=
  ⟨hashesLay.alike h.atC ha, rowsLay.alike h.atO ha, h.len, h.len9, h.inU, h.opt⟩
theorem InvP.stepped {own : Hsh} {U : List Hsh} {V : List Pth} {S : Sst} {cnt : Pth → Nat} {M : Pth → List Hsh} {R : Hsh → Pth → Prop} (h : InvP own U V S cnt M R) (n : Int) : InvP own U V { S with steps := n } cnt M R := ⟨h.tm, h.cls, h.nod, h.mem, h.mnod, h.mU, h.rV, h.unod, h.bad⟩
/-- what a search leaves -/
def FromQ (B N : Nat) (w : World) (s cb tb hb : Nat) (c : Cvs) (S : Sst) (U : List Hsh) (V : List Pth) (cnt : Pth → Nat) (M : Pth → List Hsh) (choice : List Nat) (R : Res × Int) (e : Ending) (w' : World) : Prop :=
  ∃ u, e = .returned (.tuple #[u, .int .i64 R.1.code]) ∧ ∃ S', SLeft B w s cb tb hb c S S' w' ∧ InvP c.own U V S' cnt M (there cnt M) ∧ S'.steps = R.2 ∧ 0 ≤ S'.steps ∧ S'.fuel = S.fuel ∧ (∀ l, R.1 = .ok l → OwnI N w' u (choice ++ l) ∧ ∀ k, u.ownBlock = some k → ¬ S'.foot s cb tb hb k) ∧ ((∀ l, R.1 ≠ .ok l) → u = .slice none 0 0)
/-- what from does, of the rows that are left -/
def FromC (B N : Nat) (s cb tb hb : Nat) (c : Cvs) (cls : List Hsh) (opts : List (List Opt)) (U : List Hsh) (V : List Pth) (rows : List (Hsh × List Opt)) : Prop :=
  ∀ (cnt : Pth → Nat) (M : Pth → List Hsh) (S : Sst) (w : World) (choice : List Nat) (v : Value), rows = (cls.zip opts).drop choice.length → choice.length ≤ opts.length → (∀ q, cnt q + 200 * rows.length ≤ 400000) → CaseOk B w c cls opts U V → OwnI N w v choice → (∀ k, v.ownBlock = some k → ¬ S.foot s cb tb hb k) → N ≤ w.heap.size →
    SAt B w s cb tb hb c S → InvP c.own U V S cnt M (there cnt M) → 0 ≤ S.steps → S.fuel ≤ 9223372036854775807 →
    Calls Try.prog 49 #[.pointer (some ⟨s, 0, none⟩), v] w (FromQ B N w s cb tb hb c S U V cnt M choice (fromP c.own S.fuel rows cnt M S.steps))
set_option maxHeartbeats 4000000 in
theorem try_any {B N : Nat} {s cb tb hb : Nat} {c : Cvs} {cls : List Hsh} {opts : List (List Opt)} {U : List Hsh} {V : List Pth} (hU : U.length ≤ 100000 ∧ ∀ h ∈ U, okH h) (hV : V.length ≤ 100000) (rest : List (Hsh × List Opt)) (IH : FromC B N s cb tb hb c cls opts U V rest)
    (cnt : Pth → Nat) (M : Pth → List Hsh) (S : Sst) (w : World) (choice : List Nat) (v : Value) (h : Hsh) (os : List Opt) (k : Nat) (x : Opt) (hrow : (h, os) :: rest = (cls.zip opts).drop choice.length) (hcl : choice.length < opts.length) (hcls : cls[choice.length]? = some h) (hop : opts[choice.length]? = some os) (hx : os[k]? = some x) (hc : ∀ q, cnt q + 200 * (rest.length + 1) ≤ 400000) (hC : CaseOk B w c cls opts U V) (hv : OwnI N w v choice) (hvf : ∀ k, v.ownBlock = some k → ¬ S.foot s cb tb hb k) (hN : N ≤ w.heap.size)
    (hS : SAt B w s cb tb hb c S) (hI : InvP c.own U V S cnt M (there cnt M)) (hst : 0 ≤ S.steps) (hfu : S.fuel ≤ 9223372036854775807) :
    Calls Try.prog 94 #[.pointer (some ⟨s, 0, none⟩), v, .int .i64 (k : Int)] w fun e w' => ∃ u, e = .returned (.tuple #[u, .int .i64 (try1 c.own S.fuel h cnt M (fromP c.own S.fuel rest) x S.steps).1.code]) ∧ ∃ S', SLeft B w s cb tb hb c S S' w' ∧ InvP c.own U V S' cnt M (there cnt M) ∧ S'.steps = (try1 c.own S.fuel h cnt M (fromP c.own S.fuel rest) x S.steps).2 ∧ 0 ≤ S'.steps ∧ S'.fuel = S.fuel ∧ (∀ l, (try1 c.own S.fuel h cnt M (fromP c.own S.fuel rest) x S.steps).1 = .ok l → OwnI N w' u (choice ++ k :: l) ∧ ∀ k, u.ownBlock = some k → ¬ S'.foot s cb tb hb k) ∧ ((∀ l, (try1 c.own S.fuel h cnt M (fromP c.own S.fuel rest) x S.steps).1 ≠ .ok l) → u = .slice none 0 0) := by
  have hlc : choice.length ≤ 100000 := by have := hC.len9; omega
  obtain ⟨stp, hstp⟩ : ∃ stp, stp = S.steps := ⟨_, rfl⟩
  obtain ⟨fu, hfue⟩ : ∃ fu, fu = S.fuel := ⟨_, rfl⟩
  rw [← hstp] at hst
  rw [← hfue] at hfu
  have HF := hide (And.intro hstp hfue)
  have H0 := hide (And.intro hS (And.intro hI (And.intro hC (And.intro hv hvf))))
  have HX := hide (And.intro hrow (And.intro hcls (And.intro hop hx)))
  clear hS hI hC hv hvf hrow hcls hop hx hstp hfue
  obtain ⟨R, hR⟩ : ∃ R, R = try1 c.own S.fuel h cnt M (fromP c.own S.fuel rest) x S.steps := ⟨_, rfl⟩
  rw [← hR]
  have HR := hide hR
  clear hR
  go_enter_defers Try.func94, Try.ntmps94
  go_wp2_with fail
  refine Fre.wp_made (X := Blw) 8 [] (by kernel_rfl) (by kernel_rfl) (by simp) (by simp) (by simp) ?_
  simp only [List.take_succ_cons, List.take_zero, List.drop_succ_cons, List.drop_zero]
  refine Fre.made_val (.pointer (some ⟨s, 0, none⟩)) (by kernel_rfl) (by kernel_rfl) (by kernel_rfl) (fun _ _ => by kernel_rfl) ?_
  simp only [Act.put, List.setIfInBounds_toArray, List.set_cons_zero, List.set_cons_succ]
  refine Fre.made_val (.pointer (some ⟨s, 0, none⟩)) (by kernel_rfl) (by kernel_rfl) (by kernel_rfl) (fun _ _ => by kernel_rfl) ?_
  simp only [Act.put, List.setIfInBounds_toArray, List.set_cons_zero, List.set_cons_succ]
  refine Fre.made_val (.pointer (some ⟨s, 28, none⟩)) (by kernel_rfl) (by kernel_rfl) (by kernel_rfl) (fun _ _ => by kernel_rfl) ?_
  simp only [Act.put, List.setIfInBounds_toArray, List.set_cons_zero, List.set_cons_succ]
  refine Fre.made_val (.int .i64 stp) (by kernel_rfl) (by kernel_rfl) (by kernel_rfl) (fun W9 hW9 => exec_load_cell (o := ⟨some 12, _, _, _, _, _⟩) 3 (.tmp 11) rfl ⟨s, 28, none⟩ rfl _ _ W9 Try.underlying3 rfl (by have := (H0.out.1.below (blw hW9)).cells.2.2.2.2.2.2.2.2.2.1; rw [← HF.out.1] at this; exact this)) ?_
  simp only [Act.put, List.setIfInBounds_toArray, List.set_cons_zero, List.set_cons_succ]
  refine Fre.made_val (.pointer (some ⟨s, 0, none⟩)) (by kernel_rfl) (by kernel_rfl) (by kernel_rfl) (fun _ _ => by kernel_rfl) ?_
  simp only [Act.put, List.setIfInBounds_toArray, List.set_cons_zero, List.set_cons_succ]
  refine Fre.made_val (.pointer (some ⟨s, 0, none⟩)) (by kernel_rfl) (by kernel_rfl) (by kernel_rfl) (fun _ _ => by kernel_rfl) ?_
  simp only [Act.put, List.setIfInBounds_toArray, List.set_cons_zero, List.set_cons_succ]
  refine Fre.made_val (.pointer (some ⟨s, 29, none⟩)) (by kernel_rfl) (by kernel_rfl) (by kernel_rfl) (fun _ _ => by kernel_rfl) ?_
  simp only [Act.put, List.setIfInBounds_toArray, List.set_cons_zero, List.set_cons_succ]
  refine Fre.made_val (.int .i64 fu) (by kernel_rfl) (by kernel_rfl) (by kernel_rfl) (fun W9 hW9 => exec_load_cell (o := ⟨some 16, _, _, _, _, _⟩) 3 (.tmp 15) rfl ⟨s, 29, none⟩ rfl _ _ W9 Try.underlying3 rfl (by have := (H0.out.1.below (blw hW9)).cells.2.2.2.2.2.2.2.2.2.2; rw [← HF.out.2] at this; exact this)) ?_
  simp only [Act.put, List.setIfInBounds_toArray, List.set_cons_zero, List.set_cons_succ]
  show ∀ w', _ → _
  intro w1 hb1
  simp only [Fre.ended]
  have hb1 : Below w.heap.size w w1 := hb1
  have H1 := hide (And.intro (H0.out.1.below hb1) hb1)
  clear hb1
  by_cases hge : fu ≤ stp
  · go_wp2_with fail
    have hRe : R = (.fuel, S.steps) := by rw [HR.out]; unfold try1; rw [if_pos (by rw [← HF.out.1, ← HF.out.2]; exact hge)]
    rw [hRe]
    exact ⟨_, results_tmp2 rfl _ _ _, .slice none 0 0, rfl, S, ⟨H1.out.1, turned_of_below H1.out.2, fun k hk => .inl hk⟩, H0.out.2.1, rfl, by rw [← HF.out.1]; exact hst, rfl, (fun l hl => by cases hl), fun _ => rfl⟩
  · have hlt : ¬ stp ≥ fu := by omega
    have hRe : R = try1 c.own S.fuel h cnt M (fromP c.own S.fuel rest) x S.steps := HR.out
    unfold try1 at hRe
    rw [if_neg (by rw [← HF.out.1, ← HF.out.2]; exact hge), ← HF.out.1] at hRe
    have hRc : Confl c.own (cntC cnt x.1 x.2) (nameM M x.1 h) → R = (.conflict, stp + 1) := fun hc => by rw [hRe, if_pos hc]
    have hRn : ¬ Confl c.own (cntC cnt x.1 x.2) (nameM M x.1 h) → R = fromP c.own S.fuel rest (cntC cnt x.1 x.2) (nameM M x.1 h) (stp + 1) := fun hc => by rw [hRe, if_neg hc]
    have HR2 := hide (And.intro hRc hRn)
    clear hRe hRc hRn
    have hst1 : (IntKind.i64.wrap (stp + 1)) = stp + 1 := wrapI9 _ (by omega)
    have hc28 : w1.cell? ⟨s, 28, none⟩ = some (.int .i64 stp) := by have := H1.out.1.cells.2.2.2.2.2.2.2.2.2.1; rw [← HF.out.1] at this; exact this
    have f28 := H1.out.1.blk.frozen 28
    have hlt1 := H1.out.1.blk.lt
    obtain ⟨w2, hw2⟩ : ∃ w2, w2 = w1.setCell ⟨s, 28, none⟩ (.int .i64 (stp + 1)) := ⟨_, rfl⟩
    obtain ⟨S1, hS1⟩ : ∃ S1, S1 = { S with steps := stp + 1 } := ⟨_, rfl⟩
    have hl2 : SLeft B w1 s cb tb hb c S S1 w2 := by rw [hw2, hS1]; exact H1.out.1.set (srch_set c cb tb hb S H1.out.1.own (stp + 1)).2 rfl rfl rfl rfl rfl
    have hi2 : InvP c.own U V S1 cnt M (there cnt M) := by rw [hS1]; exact H0.out.2.1.stepped (stp + 1)
    have hf2 : S1.steps = stp + 1 ∧ S1.fuel = fu := by rw [hS1]; exact ⟨rfl, HF.out.2.symm⟩
    have hl02 : SLeft B w s cb tb hb c S S1 w2 := SLeft.from H1.out.2 hl2
    have hal := SLeft.alike H0.out.1 hl02
    have hC2 := H0.out.2.2.1.alike hal
    have hN2 : N ≤ w2.heap.size := by have := hl02.2.1.size; omega
    have hv2 : OwnI N w2 v choice := owned_keepN H0.out.2.2.2.1 fun k hk hl => hl02.2.1.block k hl (H0.out.2.2.2.2 k hk)
    have hvf2 : ∀ k, v.ownBlock = some k → ¬ S1.foot s cb tb hb k := fun k hk => hl02.not (owned_ltN H0.out.2.2.2.1 hk).2 (H0.out.2.2.2.2 k hk)
    have H2 := hide (And.intro hl02 (And.intro hi2 (And.intro hf2 (And.intro hC2 (And.intro hv2 hvf2)))))
    have HW2 := hide hw2
    obtain ⟨Ao, capo, hoc, _, _, _, hAo⟩ := slice_open hC2.atO
    obtain ⟨bo, offo, hAoe, hlo, hEo⟩ := hAo (by omega)
    obtain ⟨cs1, hr1, hat1⟩ := hEo choice.length os HX.out.2.2.1
    obtain ⟨vr, rfl, hat1⟩ := rowLay_at hat1
    obtain ⟨Ar, capr, rfl, _, _, _, hAr⟩ := slice_open hat1
    have hkl : k < os.length := (List.getElem?_eq_some_iff.1 HX.out.2.2.2).1
    obtain ⟨br, offr, rfl, hlr, hEr⟩ := hAr (by omega)
    obtain ⟨cs2, hr2, hat2⟩ := hEr k x HX.out.2.2.2
    obtain ⟨vx, rfl, hpx, hvx⟩ := optLay_at hat2
    have hoc2 : c.opts = .slice (some ⟨bo, offo, none⟩) opts.length capo := by rw [hoc, hAoe]
    have HO := hide (And.intro hoc2 (And.intro hr1 (And.intro hr2 (And.intro hpx hvx))))
    have hol9 := hC2.len9
    have hos9 := (hC2.opt os (List.mem_of_getElem? HX.out.2.2.1)).1
    clear hl2 hi2 hf2 hl02 hal hC2 hv2 hvf2 hw2 hS1 hoc hAo hAoe hEo hr1 hat1 hAr hEr hr2 hat2 hpx hvx hoc2
    have i0 : (0 : Int) ≤ (choice.length : Int) := by omega
    have i1 : (choice.length : Int) < (opts.length : Int) := by omega
    have i9 : (opts.length : Int) ≤ 100000 := by omega
    have k0 : (0 : Int) ≤ (k : Int) := by omega
    have k1 : (k : Int) < (os.length : Int) := by omega
    have k9 : (os.length : Int) ≤ 100000 := by omega
    have hmf : ∀ (fn : Fn) (first cap : Array Value) (w : World), (Instr.makeFunc fn first cap).run Try.prog w = .ok (.func fn first cap) w := fun _ _ _ _ => rfl
    obtain ⟨cv, hcv⟩ : ∃ cap, ∃ A, v = .slice A choice.length cap := by
      rcases owned_formN H2.out.2.2.2.2.1 with ⟨e, h0, _⟩ | ⟨g, cap, cur, e, _⟩
      · exact ⟨0, none, by rw [e, h0]⟩
      · exact ⟨cap, _, e⟩
    obtain ⟨Av, hcv⟩ := hcv
    subst hcv
    go_wp2_with (first | (refine wpList_value (o := ⟨some 33, _, _, _, _, _⟩) rfl (.slice (some ⟨bo, offo, none⟩) opts.length capo) _ (by rw [← HW2.out]; exact exec_load_cell (o := ⟨some 33, _, _, _, _, _⟩) 26 (.tmp 32) rfl ⟨s, 22, none⟩ rfl _ _ w2 Try.underlying26 rfl (by have := H2.out.1.1.cells.2.2.2.1; rw [HO.out.1] at this; exact this)) ?_) | (refine wpList_value (o := ⟨some 35, _, _, _, _, _⟩) rfl (.pointer (some ⟨bo, offo + (choice.length : Int).toNat * 1, none⟩)) _ (exec_index_off (o := ⟨some 35, _, _, _, _, _⟩) 26 57 (.tmp 33) (.tmp 34) rfl bo offo opts.length capo (choice.length : Int) .i64 rfl rfl ⟨i0, i1⟩ 1 Try.underlying26 sz_row _) ?_; rw [show offo + (choice.length : Int).toNat * 1 = offo + choice.length by omega]) | (refine wpList_value (o := ⟨some 36, _, _, _, _, _⟩) rfl (.slice (some ⟨br, offr, none⟩) os.length capr) w2 (exec_load_cell (o := ⟨some 36, _, _, _, _, _⟩) 57 (.tmp 35) rfl ⟨bo, offo + choice.length, none⟩ rfl _ _ w2 Try.underlying57 rfl (by have h9 : w2.cell? ⟨bo, offo + choice.length * 1 + 0, none⟩ = some (.slice (some ⟨br, offr, none⟩) os.length capr) := HO.out.2.1 0 _ rfl; rwa [Nat.mul_one, Nat.add_zero] at h9)) ?_) | (refine wpList_value (o := ⟨some 38, _, _, _, _, _⟩) rfl (.pointer (some ⟨br, offr + (k : Int).toNat * 22, none⟩)) _ (exec_index_off (o := ⟨some 38, _, _, _, _, _⟩) 57 55 (.tmp 36) (.tmp 37) rfl br offr os.length capr (k : Int) .i64 rfl rfl ⟨k0, k1⟩ 22 Try.underlying57 sz_opt _) ?_; rw [show offr + (k : Int).toNat * 22 = offr + k * 22 by omega]) | (refine wpList_value (o := ⟨some 39, _, _, _, _, _⟩) rfl (.agg (oC x.1 vx).toArray) w2 (exec_load_mid (o := ⟨some 39, _, _, _, _, _⟩) 55 (.tmp 38) rfl br (offr + k * 22) rfl (oC x.1 vx) _ w2 HO.out.2.2.1 Try.underlying55 rfl (by rw [sz_opt]; simp [pC_len HO.out.2.2.2.1])) ?_; simp only [Act.put, List.setIfInBounds_toArray, List.set_cons_zero, List.set_cons_succ]))
    have hosm := H2.out.2.2.2.1.opt os (List.mem_of_getElem? HX.out.2.2.1)
    have hxm := hosm.2 x (List.mem_of_getElem? HX.out.2.2.2)
    have hhU := H2.out.2.2.2.1.inU h (List.mem_of_getElem? HX.out.2.1)
    have HM := hide (And.intro hxm (And.intro hhU (hU.2 h hhU)))
    have hc4 : ∀ q, cnt q ≤ 400000 := fun q => by have := hc q; omega
    have HC4 := hide hc4
    refine (choose_any hU hV cls (by have := H2.out.2.2.2.1.len; omega) H2.out.2.2.2.1.atC choice.length h HX.out.2.1 hhU x.1 HO.out.2.2.2.1 hxm.1 x.2 (by omega) hxm.2.2 vx HO.out.2.2.2.2 hc4 H2.out.1.1 H2.out.2.1).mono ?_
    rintro e w3 ⟨b8, b3, b7, b5, S2, rfl, hl3, hI3, hf3, hu3⟩
    have hvx3 := pathsLay.alike HO.out.2.2.2.2 (SLeft.alike H2.out.1.1 hl3)
    have H3 := hide (And.intro hl3 (And.intro hI3 (And.intro hf3 (And.intro hu3 hvx3))))
    clear hl3 hI3 hf3 hu3 hvx3 hosm hxm hhU hc4 hc28 f28 hlt1
    have hbd := inv_bad H3.out.2.1
    obtain ⟨bd, hbde⟩ : ∃ bd, bd = S2.bad := ⟨_, rfl⟩
    have c27 : w3.cell? ⟨s, 27, none⟩ = some (.int .i64 bd) := by rw [hbde]; exact H3.out.1.1.cells.2.2.2.2.2.2.2.2.1
    rw [← hbde] at hbd
    have HBD := hide hbd
    clear hbd hbde
    dsimp only
    by_cases hb0 : 0 < bd
    · go_wp2_with fail
      refine leaves_cons (f := 118) (args := #[.pointer (some ⟨b8, 0, none⟩), .pointer (some ⟨b3, 0, none⟩), .pointer (some ⟨b7, 0, none⟩), .pointer (some ⟨b5, 0, none⟩)]) (by simp) (by simp [go_sem]) ?_
      refine (undo_d .returning hU hV h HM.out.2.2 x.1 HO.out.2.2.2.1 HM.out.1.1 x.2 (by have := HM.out.1.2.1; omega) HM.out.1.2.2 vx H3.out.2.2.2.2 HC4.out b8 b3 b7 b5 H3.out.2.2.2.1 H3.out.1.1 H3.out.2.1).mono ?_
      rintro e u' w4 ⟨rfl, rfl, S3, hl4, hI4, hf4⟩
      rw [HR2.out.1 (HBD.out.1 hb0)]
      have hst3 : S3.steps = stp + 1 := by rw [hf4.1, H3.out.2.2.1.1, H2.out.2.2.1.1]
      have hfu3 : S3.fuel = S.fuel := by rw [hf4.2, H3.out.2.2.1.2, H2.out.2.2.1.2, HF.out.2]
      exact ⟨_, results_tmp2 rfl _ _ _, .slice none 0 0, rfl, S3, (H2.out.1.trans H3.out.1).trans hl4, hI4, hst3, by omega, hfu3, (fun l hl => by cases hl), fun _ => rfl⟩
    · have hal3 := SLeft.alike H2.out.1.1 H3.out.1
      have hv3 : OwnI N w3 (.slice Av choice.length cv) choice := owned_keepN H2.out.2.2.2.2.1 fun k hk hl => H3.out.1.2.1.block k hl (H2.out.2.2.2.2.2 k hk)
      have HV3 := hide hv3
      clear hv3 hal3
      go_wp2_with fail
      refine (cloneI_any choice (by omega) N _ w3 HV3.out).mono ?_
      rintro e w4 ⟨v4, rfl, hv4, hb4⟩
      obtain ⟨i, hi, hz0, hz1, hz2⟩ := info_parts info_intI
      have hown5 : (w4.alloc (.cells #[.int .i64 (k : Int)] 3)).ownsRow w3.heap.size 3 1 v4 choice.length (iv choice) := owned_keepN hv4 fun g hg hl => Below.heap_alloc _ _ _ hl
      have hsrc : Src (w4.alloc (.cells #[.int .i64 (k : Int)] 3)) (some ⟨w4.heap.size, 0, none⟩) 1 1 [.int .i64 (k : Int)] := src_one w4 _ _ rfl
      have H4 := hide (And.intro hb4 (And.intro hown5 hsrc))
      clear hv4 hb4 hown5 hsrc
      dsimp only
      go_wp2_with (at_builtin; (refine wpList_app rfl _ _ 33 rfl w3.heap.size 3 i (.int .i64 0) 8 Try.underlying33 hi hz0 hz1 hz2 rfl v4 choice.length (iv choice) H4.out.2.1 (some ⟨w4.heap.size, 0, none⟩) 1 1 [.int .i64 (k : Int)] ?h0 ?h1 ?h2 ?h3 rfl rfl ?_))
      case h0 => exact H4.out.2.2
      case h1 => simp only [maxLen]; omega
      case h2 => omega
      case h3 => have := H4.out.1.size; rw [size_alloc]; omega
      intro v6 w6 own6 gr6 _ _
      have hown6 : OwnI N w6 v6 (choice ++ [k]) := by
        unfold OwnI
        rw [List.length_append, iv_app]
        exact owned_baseN own6 fun g hg => by have := (owned_ltN own6 hg).1; have := H2.out.1.2.1.size; have := H3.out.1.2.1.size; omega
      have hb6 : Below w3.heap.size w3 w6 := (H4.out.1.alloc H4.out.1.size _).grown gr6 (by rw [size_alloc]; have := H4.out.1.size; omega) (fun k hk => (owned_ltN H4.out.2.1 hk).1)
      have hnf6 : ∀ k, v6.ownBlock = some k → ¬ S2.foot s cb tb hb k := fun k hk hf => by have := (owned_ltN own6 hk).1; have := (H3.out.1.1.foot_lt hf).1; omega
      have hC6 := H2.out.2.2.2.1.alike (SLeft.alike H2.out.1.1 (H3.out.1.grow hb6))
      have H6 := hide (And.intro hb6 (And.intro hown6 (And.intro hnf6 hC6)))
      clear own6 gr6 hown6 hb6 hnf6 hC6 hi hz0 hz1 hz2
      go_wp2_with fail
      have hrest : rest = (cls.zip opts).drop (choice ++ [k]).length := by
        have := congrArg (List.drop 1) HX.out.1
        rw [List.drop_drop] at this
        rw [List.length_append]
        exact this
      refine (IH (cntC cnt x.1 x.2) (nameM M x.1 h) S2 w6 (choice ++ [k]) v6 hrest (by rw [List.length_append]; simp; omega) (fun q => by have := hc q; have := pcnt_len [x.1] q; have := pcnt_len x.2 q; have := HM.out.1.2.1; rw [cntC_eq]; simp at *; omega) H6.out.2.2.2 H6.out.2.1 H6.out.2.2.1 (by have := H6.out.1.size; have := H2.out.1.2.1.size; have := H3.out.1.2.1.size; omega) (H3.out.1.1.below H6.out.1) H3.out.2.1 (by rw [H3.out.2.2.1.1, H2.out.2.2.1.1]; omega) (by rw [H3.out.2.2.1.2, H2.out.2.2.1.2]; exact hfu)).mono ?_
      rintro e w7 ⟨u7, rfl, S3, hl7, hI7, hs7, hp7, hf7, hr7⟩
      have H7 := hide (And.intro hl7 (And.intro hI7 (And.intro hs7 (And.intro hp7 (And.intro hf7 hr7)))))
      clear hl7 hI7 hs7 hp7 hf7 hr7 hrest
      dsimp only
      go_wp2_with fail
      have hu6 : UndoAt w6 (S2.foot s cb tb hb) s b8 b3 b7 b5 (!hasH (M x.1) h) h x.1 vx := ⟨H3.out.2.2.2.1.hold.below H6.out.1, H3.out.2.2.2.1.k8.below H6.out.1 H3.out.2.2.2.1.k8.lt, H3.out.2.2.2.1.f8⟩
      have hvx7 := pathsLay.alike H3.out.2.2.2.2 (SLeft.alike H3.out.1.1 (SLeft.from H6.out.1 H7.out.1))
      refine leaves_cons (f := 118) (args := #[.pointer (some ⟨b8, 0, none⟩), .pointer (some ⟨b3, 0, none⟩), .pointer (some ⟨b7, 0, none⟩), .pointer (some ⟨b5, 0, none⟩)]) (by simp) (by simp [go_sem]) ?_
      refine (undo_d .returning hU hV h HM.out.2.2 x.1 HO.out.2.2.2.1 HM.out.1.1 x.2 (by have := HM.out.1.2.1; omega) HM.out.1.2.2 vx hvx7 HC4.out b8 b3 b7 b5 (hu6.left H7.out.1) H7.out.1.1 H7.out.2.1).mono ?_
      rintro e u' w8 ⟨rfl, rfl, S4, hl8, hI8, hf8⟩
      have hRe := HR2.out.2 (fun hcf => by have := HBD.out.2 hcf; omega)
      have hss : S2.steps = stp + 1 := by rw [H3.out.2.2.1.1, H2.out.2.2.1.1]
      have hff : S2.fuel = S.fuel := by rw [H3.out.2.2.1.2, H2.out.2.2.1.2, HF.out.2]
      have h7s := H7.out.2.2.1
      have h7r := H7.out.2.2.2.2.2
      rw [hss, hff, ← hRe] at h7s h7r
      rw [show fromP c.own S2.fuel rest (cntC cnt x.1 x.2) (nameM M x.1 h) S2.steps = R by rw [hss, hff, hRe]]
      refine ⟨_, results_tmp2 rfl _ _ _, u7, rfl, S4, (H2.out.1.trans (H3.out.1.trans (SLeft.from H6.out.1 H7.out.1))).trans hl8, hI8, by rw [hf8.1]; exact h7s, by rw [hf8.1]; exact H7.out.2.2.2.1, by rw [hf8.2, H7.out.2.2.2.2.1, hff], fun l hl => ?_, h7r.2⟩
      obtain ⟨ho, hn⟩ := h7r.1 l hl
      refine ⟨?_, fun k hk => hl8.not (owned_ltN ho hk).2 (hn k hk)⟩
      have ho8 : OwnI N w8 u7 (choice ++ [k] ++ l) := owned_keepN ho fun g hg hlg => hl8.2.1.block g hlg (hn g hg)
      rwa [List.append_assoc] at ho8
end Go.Proofs.Ytfppddnfdinipaa
