/- package pick: from. -/
import Derived.Test.YtfppddnfdinipaaPickN
namespace Go.Proofs.Ytfppddnfdinipaa
open Go Go.RowKit Go.Maps
set_option maxRecDepth 100000
noncomputable def stepL (own : Hsh) (fuel : Int) (h : Hsh) (cnt : Pth → Nat) (M : Pth → List Hsh) (go : (Pth → Nat) → (Pth → List Hsh) → Int → Res × Int) (os : List Opt) (k : Nat) : Res × Int → Res × Int
  | (.conflict, m) => tryL own fuel h cnt M go (k + 1) (os.drop (k + 1)) m
  | (.fuel, m) => (.fuel, m)
  | (.ok l, m) => (.ok (k :: l), m)
theorem tryL_step {own : Hsh} {fuel : Int} {h : Hsh} {cnt : Pth → Nat} {M : Pth → List Hsh} {go : (Pth → Nat) → (Pth → List Hsh) → Int → Res × Int} {os : List Opt} {k : Nat} {x : Opt} (hx : os[k]? = some x) (n : Int) :
    tryL own fuel h cnt M go k (os.drop k) n = stepL own fuel h cnt M go os k (try1 own fuel h cnt M go x n) := by
  obtain ⟨hk, rfl⟩ := List.getElem?_eq_some_iff.1 hx
  rw [List.drop_eq_getElem_cons hk]
  unfold tryL stepL
  rfl
set_option maxHeartbeats 4000000 in
theorem from_any {B N : Nat} {s cb tb hb : Nat} {c : Cvs} {cls : List Hsh} {opts : List (List Opt)} {U : List Hsh} {V : List Pth} (hU : U.length ≤ 100000 ∧ ∀ h ∈ U, okH h) (hV : V.length ≤ 100000) : ∀ rows, FromC B N s cb tb hb c cls opts U V rows := by
  intro rows
  induction rows with
  | nil =>
    intro cnt M S w choice v hrow hcl hc hC hv hvf hN hS hI hst hfu
    have hzl : (cls.zip opts).length = opts.length := by rw [List.length_zip, hC.len, Nat.min_self]
    have hlen : choice.length = opts.length := by
      have := congrArg List.length hrow
      rw [List.length_drop, hzl] at this
      simp at this
      omega
    obtain ⟨Ao, capo, hoc, _, _, _, _⟩ := slice_open hC.atO
    have HOC := hide hoc
    have H0 := hide (And.intro hS (And.intro hI (And.intro hv hvf)))
    have h9 := hC.len9
    obtain ⟨Av, cv, rfl⟩ : ∃ A cap, v = .slice A choice.length cap := by
      rcases owned_formN hv with ⟨e, h0, _⟩ | ⟨g, cap, cur, e, _⟩
      · exact ⟨none, 0, by rw [e, h0]⟩
      · exact ⟨_, cap, e⟩
    have i1 : (choice.length : Int) = (opts.length : Int) := by omega
    have HST := hide hst
    clear hS hI hv hvf hrow hoc hC hst
    go_enter Try.func49, Try.ntmps49
    go_wp2_with ((refine wpList_value (o := ⟨some 15, _, _, _, _, _⟩) rfl (.slice Ao opts.length capo) w (exec_load_cell (o := ⟨some 15, _, _, _, _, _⟩) 26 (.tmp 14) rfl ⟨s, 22, none⟩ rfl _ _ w Try.underlying26 rfl (by have := H0.out.1.cells.2.2.2.1; rw [HOC.out] at this; exact this)) ?_))
    go_ret2
    exact ⟨_, rfl, S, .refl H0.out.1, H0.out.2.1, rfl, HST.out, rfl, (fun l hl => by injection hl with hl; subst hl; rw [List.append_nil]; have hoo := H0.out.2.2; rw [hlen] at hoo; exact hoo), fun hn => absurd rfl (hn [])⟩
  | cons r rest ih =>
    obtain ⟨h, os⟩ := r
    intro cnt M S w choice v hrow hcl hc hC hv hvf hN hS hI hst hfu
    have hzl : (cls.zip opts).length = opts.length := by rw [List.length_zip, hC.len, Nat.min_self]
    have hlen : choice.length < opts.length := by
      have := congrArg List.length hrow
      rw [List.length_drop, hzl] at this
      simp at this
      omega
    have hz : (cls.zip opts)[choice.length]? = some (h, os) := by
      have := congrArg (fun l => l[0]?) hrow
      simp only [List.getElem?_cons_zero, List.getElem?_drop, Nat.add_zero] at this
      exact this.symm
    obtain ⟨hcls, hop⟩ : cls[choice.length]? = some h ∧ opts[choice.length]? = some os := by
      rw [List.getElem?_zip_eq_some] at hz
      exact hz
    obtain ⟨Ao, capo, hoc, _, _, _, hAo⟩ := slice_open hC.atO
    obtain ⟨bo, offo, rfl, hlo, hEo⟩ := hAo (by omega)
    obtain ⟨cs1, hr1, hat1⟩ := hEo choice.length os hop
    obtain ⟨vr, rfl, hat1⟩ := rowLay_at hat1
    obtain ⟨Ar, capr, rfl, _, _, _, hAr⟩ := slice_open hat1
    have HOC := hide hoc
    have HR1 := hide hr1
    have H0 := hide (And.intro hS (And.intro hI (And.intro hv (And.intro hvf hC))))
    have HH := hide (And.intro hrow (And.intro hcls (And.intro hop ih)))
    have h9 := hC.len9
    have hos9 := (hC.opt os (List.mem_of_getElem? hop)).1
    obtain ⟨Av, cv, rfl⟩ : ∃ A cap, v = .slice A choice.length cap := by
      rcases owned_formN hv with ⟨e, h0, _⟩ | ⟨g, cap, cur, e, _⟩
      · exact ⟨none, 0, by rw [e, h0]⟩
      · exact ⟨_, cap, e⟩
    have i1 : ¬ (choice.length : Int) = (opts.length : Int) := by omega
    have i0 : (0 : Int) ≤ (choice.length : Int) := by omega
    have i2 : (choice.length : Int) < (opts.length : Int) := by omega
    have i9 : (opts.length : Int) ≤ 100000 := by omega
    clear hS hI hv hvf hrow hoc hC hz hcls hop ih hAo hEo hr1 hat1 hAr
    go_enter Try.func49, Try.ntmps49
    go_wp2_with (first | (refine wpList_value (o := ⟨some 15, _, _, _, _, _⟩) rfl (.slice (some ⟨bo, offo, none⟩) opts.length capo) w (exec_load_cell (o := ⟨some 15, _, _, _, _, _⟩) 26 (.tmp 14) rfl ⟨s, 22, none⟩ rfl _ _ w Try.underlying26 rfl (by have := H0.out.1.cells.2.2.2.1; rw [HOC.out] at this; exact this)) ?_) | (refine wpList_value (o := ⟨some 23, _, _, _, _, _⟩) rfl (.slice (some ⟨bo, offo, none⟩) opts.length capo) w (exec_load_cell (o := ⟨some 23, _, _, _, _, _⟩) 26 (.tmp 22) rfl ⟨s, 22, none⟩ rfl _ _ w Try.underlying26 rfl (by have := H0.out.1.cells.2.2.2.1; rw [HOC.out] at this; exact this)) ?_) | (refine wpList_value (o := ⟨some 26, _, _, _, _, _⟩) rfl (.pointer (some ⟨bo, offo + (choice.length : Int).toNat * 1, none⟩)) w (exec_index_off (o := ⟨some 26, _, _, _, _, _⟩) 26 57 (.tmp 23) (.tmp 25) rfl bo offo opts.length capo (choice.length : Int) .i64 rfl rfl ⟨i0, i2⟩ 1 Try.underlying26 sz_row w) ?_; rw [show offo + (choice.length : Int).toNat * 1 = offo + choice.length by omega]) | (refine wpList_value (o := ⟨some 27, _, _, _, _, _⟩) rfl (.slice Ar os.length capr) w (exec_load_cell (o := ⟨some 27, _, _, _, _, _⟩) 57 (.tmp 26) rfl ⟨bo, offo + choice.length, none⟩ rfl _ _ w Try.underlying57 rfl (by have h9 : w.cell? ⟨bo, offo + choice.length * 1 + 0, none⟩ = some (.slice Ar os.length capr) := HR1.out 0 _ rfl; rwa [Nat.mul_one, Nat.add_zero] at h9)) ?_))
    go_loopw [29] (fun y wr => ∃ k S1, k ≤ os.length ∧ y = .int .i64 ((k : Nat) : Int) ∧ SLeft B w s cb tb hb c S S1 wr ∧ InvP c.own U V S1 cnt M (there cnt M) ∧ 0 ≤ S1.steps ∧ S1.fuel = S.fuel ∧ fromP c.own S.fuel ((h, os) :: rest) cnt M S.steps = tryL c.own S.fuel h cnt M (fromP c.own S.fuel rest) k (os.drop k) S1.steps) (fun x _ => os.length - (intOf x).toNat)
    case atStart => exact ⟨0, S, by omega, rfl, .refl H0.out.1, H0.out.2.1, hst, rfl, rfl⟩
    case round =>
      obtain ⟨k, S1, hk, rfl, hl1, hi1, hs1, hf1, he1⟩ := hrel
      have hv1 : OwnI N wr (.slice Av choice.length cv) choice := owned_keepN H0.out.2.2.1 fun g hg hl => hl1.2.1.block g hl (H0.out.2.2.2.1 g hg)
      have hvf1 : ∀ k, (Value.slice Av choice.length cv).ownBlock = some k → ¬ S1.foot s cb tb hb k := fun k hk => hl1.not (owned_ltN H0.out.2.2.1 hk).2 (H0.out.2.2.2.1 k hk)
      have hC1 := H0.out.2.2.2.2.alike (SLeft.alike H0.out.1 hl1)
      have H1 := hide (And.intro hl1 (And.intro hi1 (And.intro hs1 (And.intro hf1 (And.intro he1 (And.intro hv1 (And.intro hvf1 hC1)))))))
      clear hl1 hi1 hs1 hf1 he1 hv1 hvf1 hC1
      have k0 : (0 : Int) ≤ (k : Int) := by omega
      have k9 : (os.length : Int) ≤ 100000 := by omega
      by_cases hk2 : k < os.length
      · have k1 : (k : Int) < (os.length : Int) := by omega
        obtain ⟨x, hx⟩ : ∃ x, os[k]? = some x := ⟨_, List.getElem?_eq_getElem hk2⟩
        have HX := hide hx
        clear hx
        go_wp2_with fail
        refine (try_any hU hV rest HH.out.2.2.2 cnt M S1 wr choice _ h os k x HH.out.1 hlen HH.out.2.1 HH.out.2.2.1 HX.out (fun q => by have := hc q; simpa using this) H1.out.2.2.2.2.2.2.2 H1.out.2.2.2.2.2.1 H1.out.2.2.2.2.2.2.1 (by have := H1.out.1.2.1.size; omega) H1.out.1.1 H1.out.2.1 H1.out.2.2.1 (by rw [H1.out.2.2.2.1]; exact hfu)).mono ?_
        rintro e w2 ⟨u, rfl, S2, hl2, hi2, hs2, hp2, hf2, hr2⟩
        rw [H1.out.2.2.2.1] at hs2 hr2
        rw [H1.out.2.2.2.1]
        have hstep := tryL_step HX.out S1.steps (own := c.own) (fuel := S.fuel) (h := h) (cnt := cnt) (M := M) (go := fromP c.own S.fuel rest)
        rw [← H1.out.2.2.2.2.1] at hstep
        generalize try1 c.own S.fuel h cnt M (fromP c.own S.fuel rest) x S1.steps = R at hs2 hr2 hstep ⊢
        obtain ⟨R, m⟩ := R
        have H2 := hide (And.intro hl2 (And.intro hi2 (And.intro hs2 (And.intro hp2 (And.intro (hf2.trans H1.out.2.2.2.1) (And.intro hr2 hstep))))))
        clear hl2 hi2 hs2 hp2 hf2 hr2 hstep
        cases R with
        | conflict =>
          dsimp only [Res.code]
          go_wp2_with fail
          go_roundw
          case rel => exact ⟨k + 1, S2, by omega, by go_num, H1.out.1.trans H2.out.1, H2.out.2.1, H2.out.2.2.2.1, H2.out.2.2.2.2.1, by rw [H2.out.2.2.2.2.2.2, H2.out.2.2.1]; rfl⟩
          case measure => simp [intOf]; omega
        | fuel =>
          dsimp only [Res.code]
          go_wp2_with fail
          go_ret2
          refine ⟨u, ?_, S2, H1.out.1.trans H2.out.1, H2.out.2.1, ?_, H2.out.2.2.2.1, H2.out.2.2.2.2.1, ?_⟩
          · rw [H2.out.2.2.2.2.2.2]; rfl
          · rw [H2.out.2.2.2.2.2.2]; exact H2.out.2.2.1
          · rw [H2.out.2.2.2.2.2.2]; exact ⟨fun l hl => (by cases hl), fun _ => H2.out.2.2.2.2.2.1.2 fun l hl => (by cases hl)⟩
        | ok l =>
          dsimp only [Res.code]
          go_wp2_with fail
          go_ret2
          refine ⟨u, ?_, S2, H1.out.1.trans H2.out.1, H2.out.2.1, ?_, H2.out.2.2.2.1, H2.out.2.2.2.2.1, ?_⟩
          · rw [H2.out.2.2.2.2.2.2]; rfl
          · rw [H2.out.2.2.2.2.2.2]; exact H2.out.2.2.1
          · rw [H2.out.2.2.2.2.2.2]
            refine ⟨fun l' hl => ?_, fun hn => absurd rfl (hn (k :: l))⟩
            injection hl with hl
            subst hl
            exact H2.out.2.2.2.2.2.1.1 l rfl
      · obtain rfl : k = os.length := by omega
        have he := H1.out.2.2.2.2.1
        rw [List.drop_length] at he
        have HE := hide he
        clear he
        go_wp2_with fail
        go_ret2
        refine ⟨.slice none 0 0, ?_, S1, H1.out.1, H1.out.2.1, ?_, H1.out.2.2.1, H1.out.2.2.2.1, ?_⟩
        · rw [HE.out]; rfl
        · rw [HE.out]; rfl
        · rw [HE.out]; exact ⟨fun l hl => (by cases hl), fun _ => rfl⟩
end Go.Proofs.Ytfppddnfdinipaa
