/- package dev: a device, plain; a write, whatever comes of it. -/
import Derived.Test.YtajeohmmobgcjaaDevD
namespace Go.Proofs.Ytajeohmmobgcjaa
open Go Go.RowKit
/-- a device, plain: deeds, a fuse, is it down, what is kept, what is pending -/
structure Dv where
  de : Int
  fu : Int
  dn : Bool
  kept : List (List UInt8)
  pend : List (Int × List UInt8)
def pad (l : List UInt8) : List UInt8 := l ++ List.replicate (64 - l.length) 0
theorem pad_len (l : List UInt8) (h : l.length ≤ 64) : (pad l).length = 64 := by simp [pad]; omega
theorem sh_pad (x : Int) (l : List UInt8) (h : l.length ≤ 64) : sh x (pad l) = sh x l := by
  simp only [sh, pad_len l h, Nat.sub_self, List.replicate_zero, List.append_nil]
  rfl
def keptCells (l : List (List UInt8)) : List Value := (l.map bv).flatten
def pendCells (l : List (Int × List UInt8)) : List Value := (l.map fun p => sh p.1 p.2).flatten
theorem pend_add (l : List (Int × List UInt8)) (x : Int) (b : List UInt8) (h : b.length ≤ 64) : pendCells (l ++ [(x, pad b)]) = pendCells l ++ sh x b := by
  simp [pendCells, sh_pad x b h]
theorem owned_ne2 {w : World} {base base' n n' s s' g g' : Nat} {e e' : TypeId} {v v' : Value} {xs xs' : List Value} (h : w.ownsRow base e s v n xs) (h' : w.ownsRow base' e' s' v' n' xs') (hne : e ≠ e') (hg : v.ownBlock = some g) : v'.ownBlock = some g' → g ≠ g' := by
  intro hg' he
  subst he
  rcases owned_formN h' with ⟨rfl, _⟩ | ⟨g', cap, cur, rfl, _, _, _, hh, _⟩
  · cases hg'
  · have hg' : some g' = some g := hg'
    injection hg' with hg'
    subst hg'
    exact owned_neN h hh hne hg
structure Dv.Ok (D : Dv) : Prop where
  n1 : 1 ≤ D.kept.length
  n2 : D.kept.length ≤ 8192
  k64 : ∀ b ∈ D.kept, b.length = 64
  p64 : ∀ p ∈ D.pend, p.2.length = 64 ∧ 0 ≤ p.1 ∧ p.1 < (D.kept.length : Int)
  de : 0 ≤ D.de
  fu : 0 ≤ D.fu ∧ D.fu ≤ 9223372036854775807
def Foot (g rk : Nat) (vp : Value) (k : Nat) : Prop := k = g ∨ k = rk ∨ vp.ownBlock = some k
/-- a device in memory, and what it is made of -/
def DevAt (w : World) (F : Nat → Prop) (g : Nat) (D : Dv) : Prop := ∃ rk c vp, F = Foot g rk vp ∧ Blk w g 107 (dv D.de D.fu D.dn (.slice (some ⟨rk, 0, none⟩) D.kept.length c) vp) ∧
  w.ownsRow 0 109 64 (.slice (some ⟨rk, 0, none⟩) D.kept.length c) D.kept.length (keptCells D.kept) ∧ w.ownsRow 0 111 65 vp D.pend.length (pendCells D.pend) ∧ D.Ok
theorem DevAt.keep {w w' : World} {F : Nat → Prop} {g : Nat} {D : Dv} (h : DevAt w F g D) (hk : ∀ k, k < w.heap.size → F k → w'.heap[k]? = w.heap[k]?) : DevAt w' F g D := by
  obtain ⟨rk, c, vp, rfl, h1, h2, h3, h4⟩ := h
  refine ⟨rk, c, vp, rfl, (hk g h1.lt (.inl rfl)).trans h1, owned_keepN h2 fun k hg hl => hk k hl (.inr (.inl (by injection hg with hg; exact hg.symm))), owned_keepN h3 fun k hg hl => hk k hl (.inr (.inr hg)), h4⟩
theorem DevAt.lt {w : World} {F : Nat → Prop} {g : Nat} {D : Dv} (h : DevAt w F g D) : ∀ k, F k → k < w.heap.size := by
  obtain ⟨rk, c, vp, rfl, h1, h2, h3, h4⟩ := h
  rintro k (rfl | rfl | hk)
  · exact h1.lt
  · exact (owned_ltN h2 rfl).2
  · exact (owned_ltN h3 hk).2
/-- what a deed leaves: the device, all else as it was -/
def Left (w : World) (F : Nat → Prop) (g : Nat) (D : Dv) (w' : World) : Prop := ∃ F', DevAt w' F' g D ∧ Turned F w w' ∧ ∀ k, F' k → F k ∨ w.heap.size ≤ k
theorem Left.same {w : World} {F : Nat → Prop} {g : Nat} {D : Dv} (h : DevAt w F g D) : Left w F g D w := ⟨F, h, Turned.refl _ _, fun _ h => .inl h⟩
theorem Left.trans {w w' w'' : World} {F F' : Nat → Prop} {g : Nat} {D : Dv} (ht : Turned F w w') (hF : ∀ k, F' k → F k ∨ w.heap.size ≤ k) (h : Left w' F' g D w'') : Left w F g D w'' := by
  obtain ⟨F'', h1, h2, h3⟩ := h
  refine ⟨F'', h1, ht.then_ h2 (fun k hk hf => (hF k hf).resolve_right (by omega)), fun k hk => ?_⟩
  have := ht.size
  rcases h3 k hk with h | h
  · exact hF k h
  · exact .inr (by omega)
/-- a write, plain -/
def Dv.write (D : Dv) (x : Int) (l : List UInt8) : Int × Dv :=
  if D.dn then (10, D) else if (decide (0 ≤ x ∧ x < (D.kept.length : Int)) && decide (l.length ≤ 64)) = false then (2, D) else
  let t := tick D.de D.fu D.dn
  (t.1, { D with de := t.2.1, fu := t.2.2.1, dn := t.2.2.2, pend := if t.1 = 0 then D.pend ++ [(x, pad l)] else D.pend })
theorem tick_cases (de fu : Int) : (fu = 1 ∧ tick de fu false = (10, de, 0, true)) ∨ (∃ fu', tick de fu false = (0, de + 1, fu', false) ∧ (0 ≤ fu → 0 ≤ fu') ∧ fu' ≤ fu) := by
  unfold tick
  by_cases h1 : fu = 1
  · exact .inl ⟨h1, by simp [h1]⟩
  · by_cases h0 : fu = 0
    · exact .inr ⟨0, by simp [h0], fun _ => by omega, by omega⟩
    · exact .inr ⟨fu - 1, by simp [h0, h1], fun h => by omega, by omega⟩
/-- only the device's own block has turned -/
theorem left_own {w w' : World} {g rk c : Nat} {vp : Value} {D D' : Dv} {cs : Array Value} (h0 : Blk w g 107 cs) (hk : w.ownsRow 0 109 64 (.slice (some ⟨rk, 0, none⟩) D.kept.length c) D.kept.length (keptCells D.kept)) (hp : w.ownsRow 0 111 65 vp D.pend.length (pendCells D.pend))
    (hb : Blk w' g 107 (dv D'.de D'.fu D'.dn (.slice (some ⟨rk, 0, none⟩) D.kept.length c) vp)) (hg : w.grownBy w' (some g)) (ek : D'.kept = D.kept) (ep : D'.pend = D.pend) (hok : D'.Ok) : Left w (Foot g rk vp) g D' w' := by
  have hne : ∀ {n s : Nat} {e : TypeId} {v : Value} {xs : List Value}, w.ownsRow 0 e s v n xs → e ≠ 107 → w'.ownsRow 0 e s v n xs := fun h he => owned_keepN h fun k hv hl => hg.block k hl (fun e' => owned_neN h h0 he (by rw [hv, e']))
  refine ⟨_, ⟨rk, c, vp, rfl, by rw [ek]; exact hb, by rw [ek]; exact hne hk (by decide), by rw [ep]; exact hne hp (by decide), hok⟩, Turned.of_grown hg (fun k h _ => .inl (by injection h with h; exact h.symm)), fun _ h => .inl h⟩
section
variable {D : Dv}
theorem Dv.Ok.ticked (h : D.Ok) {t : Int × Int × Int × Bool} (ht : tick D.de D.fu false = t) (p : List (Int × List UInt8)) (hp : ∀ q ∈ p, q.2.length = 64 ∧ 0 ≤ q.1 ∧ q.1 < (D.kept.length : Int)) (dn : Bool) : Dv.Ok { D with de := t.2.1, fu := t.2.2.1, dn := dn, pend := p } := by
  refine ⟨h.n1, h.n2, h.k64, hp, ?_, ?_⟩
  · rcases tick_cases D.de D.fu with ⟨_, h2⟩ | ⟨f, h2, _⟩ <;> rw [← ht, h2]
    · exact h.de
    · have := h.de
      show 0 ≤ D.de + 1
      omega
  · rcases tick_cases D.de D.fu with ⟨_, h2⟩ | ⟨f, h2, h3, h4⟩ <;> rw [← ht, h2]
    · show (0 : Int) ≤ 0 ∧ (0 : Int) ≤ _
      omega
    · have := h.fu
      exact ⟨h3 this.1, by show f ≤ _; omega⟩
end
set_option maxRecDepth 100000 in
set_option maxHeartbeats 1000000 in
theorem write_any {D : Dv} {F : Nat → Prop} {g : Nat} (x : Int) (l : List UInt8) (A : Option Addr) (cap : Nat) (w : World) (h : DevAt w F g D) (hde : D.de ≤ 1000000000) (hm : D.pend.length ≤ 100000) (hx : -9223372036854775808 ≤ x ∧ x ≤ 9223372036854775807) (hl : l.length ≤ 1000000000)
    (hs : Src w A l.length cap (bv l)) (hsb : ∀ ad, A = some ad → 0 < l.length → ¬ F ad.block) :
    Calls Try.prog 27 #[.pointer (some ⟨g, 0, none⟩), .int .i64 x, .slice A l.length cap] w fun e w' => e = .returned (.int .i64 (D.write x l).1) ∧ Left w F g (D.write x l).2 w' := by
  have h0 := h
  obtain ⟨rk, c, vp, rfl, hb, hk, hp, hok⟩ := h
  have HO := hide hok
  have H := hide (And.intro hb (And.intro hk (And.intro hp h0)))
  clear hb hk hp h0
  cases hdn : D.dn with
  | true =>
    rw [show D.write x l = (10, D) by simp [Dv.write, hdn]]
    clear hs hsb
    go_enter Try.func27, Try.ntmps27
    go_wp2_with fail
    refine (able_any _ H.out.1).mono ?_
    rintro e w' ⟨rfl, rfl⟩
    rw [hdn, if_pos rfl]
    dsimp only
    go_wp2_with fail
    go_ret
    exact ⟨rfl, .same H.out.2.2.2⟩
  | false =>
    have Hb := H.out.1
    rw [hdn] at Hb
    by_cases hin : 0 ≤ x ∧ x < (D.kept.length : Int)
    · by_cases h64 : l.length ≤ 64
      · have hwr : D.write x l = ((tick D.de D.fu false).1, { D with de := (tick D.de D.fu false).2.1, fu := (tick D.de D.fu false).2.2.1, dn := (tick D.de D.fu false).2.2.2, pend := if (tick D.de D.fu false).1 = 0 then D.pend ++ [(x, pad l)] else D.pend }) := by
          simp [Dv.write, hdn, hin, h64]
        rcases tick_cases D.de D.fu with ⟨hf, ht⟩ | ⟨fu', ht, hf⟩
        · rw [hwr, ht]
          have ok' := hok.ticked ht D.pend hok.p64 true
          have hd : decide (0 ≤ x ∧ x < (D.kept.length : Int)) = true := decide_eq_true hin
          have h65 : ¬ (64 : Int) < (l.length : Int) := by omega
          have HT := hide (And.intro ht (And.intro hok.de hok.fu))
          have HX := hide ok'
          clear hs hsb ok' hok hwr ht
          go_enter Try.func27, Try.ntmps27
          go_wp2_with fail
          refine (able_any _ Hb).mono ?_
          rintro e w' ⟨rfl, rfl⟩
          rw [if_neg (by simp)]
          dsimp only
          go_wp2_with fail
          refine (has_any _ HO.out.n2 x hx Hb).mono ?_
          rintro e w' ⟨rfl, rfl⟩
          rw [hd]
          dsimp only
          go_wp2_with fail
          refine (next_any _ _ ⟨HT.out.2.1, hde⟩ HT.out.2.2 Hb).mono ?_
          rintro e w1 ⟨rfl, hb1, hg1⟩
          rw [HT.out.1] at hb1 ⊢
          dsimp only
          have H1 := hide (And.intro hb1 hg1)
          clear hb1 hg1
          go_wp2_with fail
          go_ret
          exact ⟨rfl, left_own Hb H.out.2.1 H.out.2.2.1 H1.out.1 H1.out.2 rfl (by simp) HX.out⟩
        · rw [hwr, ht]
          refine (write_ok 0 (pendCells D.pend) vp x l A cap w (Nat.zero_le _) hok.n2 hm ⟨hok.de, hde⟩ hok.fu ht hin h64 Hb H.out.2.2.1 hs (fun ad ha h0 e => hsb ad ha h0 (.inl e))).mono ?_
          rintro e w' ⟨rfl, v', b', o', ht', hv'⟩
          have hpk : vp.ownBlock ≠ some rk := fun e => owned_ne2 H.out.2.2.1 H.out.2.1 (by decide) e rfl rfl
          have hgk : rk ≠ g := fun e => owned_neN H.out.2.1 Hb (by decide) (by rw [← e]; rfl)
          have ok' := hok.ticked ht (D.pend ++ [(x, pad l)]) (fun q hq => by
            rcases List.mem_append.1 hq with hq | hq
            · exact hok.p64 q hq
            · rw [List.mem_singleton.1 hq]
              exact ⟨pad_len l h64, hin⟩) false
          refine ⟨rfl, Foot g rk v', ⟨rk, c, v', rfl, b', owned_keepN H.out.2.1 fun k hv hlt => ht'.block k hlt ?_, ?_, ok'⟩, ht'.mono fun k _ h => ?_, ?_⟩
          · have hv : some rk = some k := hv
            injection hv with hv
            subst hv
            rintro (e | e)
            · exact hgk e
            · exact hpk e
          · show w'.ownsRow 0 111 65 v' (D.pend ++ [(x, pad l)]).length (pendCells (D.pend ++ [(x, pad l)]))
            rw [pend_add _ _ _ h64, List.length_append]
            exact o'
          · rcases h with h | h
            · exact .inl h
            · exact .inr (.inr h)
          · rintro k (h | h | h)
            · exact .inl (.inl h)
            · exact .inl (.inr (.inl h))
            · rcases hv' k h with h | h
              · exact .inl (.inr (.inr h))
              · exact .inr h
      · rw [show D.write x l = (2, D) by simp [Dv.write, hdn, h64]]
        have hd : decide (0 ≤ x ∧ x < (D.kept.length : Int)) = true := decide_eq_true hin
        have h65 : (64 : Int) < (l.length : Int) := by omega
        clear hs hsb
        go_enter Try.func27, Try.ntmps27
        go_wp2_with fail
        refine (able_any _ Hb).mono ?_
        rintro e w' ⟨rfl, rfl⟩
        rw [if_neg (by simp)]
        dsimp only
        go_wp2_with fail
        refine (has_any _ hok.n2 x hx Hb).mono ?_
        rintro e w' ⟨rfl, rfl⟩
        rw [hd]
        dsimp only
        go_wp2_with fail
        go_ret
        exact ⟨rfl, .same H.out.2.2.2⟩
    · rw [show D.write x l = (2, D) by simp [Dv.write, hdn, hin]]
      have hd : decide (0 ≤ x ∧ x < (D.kept.length : Int)) = false := decide_eq_false hin
      clear hs hsb
      go_enter Try.func27, Try.ntmps27
      go_wp2_with fail
      refine (able_any _ Hb).mono ?_
      rintro e w' ⟨rfl, rfl⟩
      rw [if_neg (by simp)]
      dsimp only
      go_wp2_with fail
      refine (has_any _ hok.n2 x hx Hb).mono ?_
      rintro e w' ⟨rfl, rfl⟩
      rw [hd]
      dsimp only
      go_wp2_with fail
      go_ret
      exact ⟨rfl, .same H.out.2.2.2⟩
end Go.Proofs.Ytajeohmmobgcjaa
