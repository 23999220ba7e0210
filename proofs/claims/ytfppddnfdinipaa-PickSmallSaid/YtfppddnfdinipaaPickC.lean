/- package pick: turn. -/
import Derived.Test.YtfppddnfdinipaaPickB
namespace Go.Proofs.Ytfppddnfdinipaa
open Go Go.RowKit Go.Maps
set_option maxRecDepth 100000
section
variable {B : Nat} {w w' : World} {s cb tb hb : Nat} {c : Cvs} {S : Sst}
theorem mget_app_new {K V : Type} [DecidableEq K] {m : List (K × V)} {x : K} {v : V} (h : mget m x = none) (y : K) : mget (m ++ [(x, v)]) y = if y = x then some v else mget m y := by
  have := mget_mput m x y v
  rwa [mput_new h] at this
theorem hereL_laid (S : Sst) {h : Hsh} {b : Nat} (hno : mget S.hm h = none) (hf : ∀ e ∈ S.hm, e.2 ≠ b) (h' : Hsh) : hereL { S with hm := S.hm ++ [(h, b)], im := fun k => if k = b then [] else S.im k } h' = hereL S h' := by
  unfold hereL
  dsimp only
  rw [mget_app_new hno]
  by_cases e : h' = h
  · subst e
    rw [if_pos rfl, hno]
    simp
  · rw [if_neg e]
    cases hg : mget S.hm h' with
    | none => rfl
    | some b' =>
      dsimp only
      rw [if_neg (hf _ (mget_mem hg))]
theorem hereL_turned (hS : SAt B w s cb tb hb c S) {h : Hsh} {b : Nat} (hb0 : mget S.hm h = some b) (m : List (Pth × Int)) (h' : Hsh) : hereL { S with im := fun k => if k = b then m else S.im k } h' = if h' = h then m else hereL S h' := by
  unfold hereL
  dsimp only
  by_cases e : h' = h
  · subst e
    rw [if_pos rfl, hb0]
    simp
  · rw [if_neg e]
    cases hg : mget S.hm h' with
    | none => rfl
    | some b' =>
      dsimp only
      rw [if_neg]
      intro e2
      subst e2
      have h1 := mget_mem hg
      have h2 := mget_mem hb0
      obtain ⟨i, hi⟩ := List.getElem?_of_mem h1
      obtain ⟨j, hj⟩ := List.getElem?_of_mem h2
      obtain ⟨i1, i2⟩ := List.getElem?_eq_some_iff.1 hi
      obtain ⟨j1, j2⟩ := List.getElem?_eq_some_iff.1 hj
      rcases Nat.lt_trichotomy i j with hl | hl | hl
      · exact absurd (show ((S.hm.map (·.2))[i]'(by simpa using i1)) = ((S.hm.map (·.2))[j]'(by simpa using j1)) by simp [i2, j2]) (List.pairwise_iff_getElem.1 hS.inner i j (by simpa using i1) (by simpa using j1) hl)
      · subst hl
        rw [hi] at hj
        injection hj with hj
        injection hj with hj _
        exact e hj
      · exact absurd (show ((S.hm.map (·.2))[j]'(by simpa using j1)) = ((S.hm.map (·.2))[i]'(by simpa using i1)) by simp [i2, j2]) (List.pairwise_iff_getElem.1 hS.inner j i (by simpa using j1) (by simpa using i1) hl)
theorem hasK_keys {m : List (Pth × Int)} {p : Pth} : hasK (m.map (·.1)) p = (mget m p).isSome := by
  rw [Bool.eq_iff_iff, ← mem_keys]
  unfold hasK
  simp only [List.any_eq_true, decide_eq_true_eq]
  constructor
  · rintro ⟨x, hx, rfl⟩; exact hx
  · intro hx; exact ⟨p, hx, rfl⟩
theorem keys_put (m : List (Pth × Int)) (p : Pth) (v : Int) : (mput m p v).map (·.1) = insK (m.map (·.1)) p := by
  rw [mput_keys]
  unfold insK
  rw [hasK_keys]
theorem keys_del (m : List (Pth × Int)) (p : Pth) : (mdel m p).map (·.1) = delK (m.map (·.1)) p := by
  unfold mdel delK
  induction m with
  | nil => rfl
  | cons q m ih =>
    by_cases hq : q.1 = p
    · simp only [List.map_cons]
      rw [List.filter_cons_of_neg (by simpa using hq), List.filter_cons_of_neg (by simpa using hq), ih]
    · simp only [List.map_cons]
      rw [List.filter_cons_of_pos (by simpa using hq), List.filter_cons_of_pos (by simpa using hq), List.map_cons, ih]
/-- a new map -/
def NewMap (N : Nat) (u : Value) (w : World) : Prop := ∃ b, u = .map (some b) ∧ MapIs pV okP intV w b ([] : List (Pth × Int)) ∧ N ≤ b
theorem newMap_ok (N : Nat) : Fre.MadeOk Blw (NewMap N) := ⟨fun _ _ _ ⟨b, h1, h2, h3⟩ hx => ⟨b, h1, h2.below (blw hx) h2.lt, h3⟩⟩
theorem exec_delete {P : Program} {ρ : Operand → Value} {o : Oper} {w w' : World} (m x : Operand) (t k : TypeId) (ho : o.op = .call { callee := .builtin .delete, args := #[m, x], argTypes := #[t, k] }) (mv kv : Value) (hm : ρ m = mv) (hx : ρ x = kv) (hr : (Builtin.delete_ #[t, k] o.type #[mv, kv]).run P w = .ok (.tuple #[]) w') : (execOp ρ o).run P w = .ok (.value (.tuple #[])) w' := by
  unfold execOp
  simp only [ho, resolve, invoke, builtin, Sem.run_bind, Sem.run_pure, Result.andThen_ok, List.map_toArray, List.map_cons, List.map_nil, hm, hx, hr]
theorem turned_grown {F : Nat → Prop} {a w w' : World} {g : Nat} (h : Turned F a w) (hg : w.grownBy w' (some g)) (hF : F g ∨ a.heap.size ≤ g) : Turned F a w' :=
  ⟨hg.os.trans h.os, hg.tape.trans h.tape, hg.output.trans h.output, Nat.le_trans h.size hg.size, fun k hk hf => (hg.block k (by have := h.size; omega) fun e => by
    injection e with e
    subst e
    rcases hF with hF | hF
    · exact hf hF
    · omega).trans (h.block k hk hf)⟩
theorem turned_below {F : Nat → Prop} {a w w' : World} (h : Turned F a w) (hb : Below w.heap.size w w') : Turned F a w' :=
  ⟨hb.os.trans h.os, hb.tape.trans h.tape, hb.output.trans h.output, Nat.le_trans h.size hb.size, fun k hk hf => (hb.block k (by have := h.size; omega)).trans (h.block k hk hf)⟩
theorem turned_of_below {F : Nat → Prop} {a w : World} (hb : Below a.heap.size a w) : Turned F a w := turned_below (Turned.refl F a) hb
end
/-- the same, so far as it is seen -/
structure TurnP (S S1 : Sst) : Prop where
  cm : S1.cm = S.cm
  cv : S1.cv = S.cv
  tm : S1.tm = S.tm
  steps : S1.steps = S.steps
  fuel : S1.fuel = S.fuel
  bad : S1.bad = S.bad
  here : ∀ h, hereL S1 h = hereL S h
theorem TurnP.same (S : Sst) : TurnP S S := ⟨rfl, rfl, rfl, rfl, rfl, rfl, fun _ => rfl⟩
theorem TurnP.laid {B : Nat} {w : World} {s cb tb hb : Nat} {c : Cvs} {S : Sst} (_h : SAt B w s cb tb hb c S) {h : Hsh} {b : Nat} (hno : mget S.hm h = none) (hf : ∀ e ∈ S.hm, e.2 ≠ b) : TurnP S { S with hm := S.hm ++ [(h, b)], im := fun k => if k = b then [] else S.im k } :=
  ⟨rfl, rfl, rfl, rfl, rfl, rfl, hereL_laid S hno hf⟩
/-- all but the count -/
structure TurnR (S S2 : Sst) (h : Hsh) (p : Pth) (is : Bool) : Prop where
  cm : S2.cm = S.cm
  cv : S2.cv = S.cv
  tm : S2.tm = S.tm
  steps : S2.steps = S.steps
  fuel : S2.fuel = S.fuel
  bad : S2.bad = S.bad
  keys : ∀ h', hk S2 h' = if h' = h then turnK is (hk S h) p else hk S h'
  len : (hereL S2 h).length ≤ (hereL S h).length + 1
theorem TurnR.of {B : Nat} {w w' : World} {s cb tb hb : Nat} {c : Cvs} {S S1 : Sst} {h : Hsh} {p : Pth} {is : Bool} {b : Nat} {m : List (Pth × Int)} (hP : TurnP S S1) (hS : SAt B w s cb tb hb c S1) (hb0 : mget S1.hm h = some b) (_hS2 : SAt B w' s cb tb hb c { S1 with im := fun k => if k = b then m else S1.im k })
    (hm : m.map (·.1) = turnK is ((S1.im b).map (·.1)) p) : TurnR S { S1 with im := fun k => if k = b then m else S1.im k } h p is := by
  have hi : S1.im b = hereL S h := by
    rw [← hP.here h]
    unfold hereL
    rw [hb0]
  refine ⟨hP.cm, hP.cv, hP.tm, hP.steps, hP.fuel, hP.bad, fun h' => ?_, ?_⟩
  · unfold hk
    rw [hereL_turned hS hb0]
    split
    · rename_i e
      rw [hm, hi]
    · rw [hP.here]
  · rw [hereL_turned hS hb0, if_pos rfl]
    have hl := congrArg List.length hm
    rw [hi] at hl
    rw [List.length_map] at hl
    rw [hl]
    unfold turnK insK delK
    split
    · split <;> simp
    · have := List.length_filter_le (fun q => decide (q ≠ p)) ((hereL S h).map (·.1))
      rw [List.length_map] at this
      omega
theorem TurnR.fin {own : Hsh} {S S2 : Sst} {h : Hsh} {p : Pth} {is : Bool} (hR : TurnR S S2 h p is) (x : Int) (hx : x = S2.bad + one (confB own h (hk S2 h).length) - one (confB own h (hk S h).length)) : TurnQ own S { S2 with bad := x } h p is := by
  refine ⟨hR.cm, hR.cv, hR.tm, hR.steps, hR.fuel, hR.keys, ?_⟩
  have := hR.keys h
  rw [if_pos rfl] at this
  show x = _
  rw [hx, hR.bad, this]
theorem eq_mnn (w : World) : (binOp .eql 101 (.map none) (.map none)).run Try.prog w = .ok (.bool true) w := by kernel_rfl
theorem eq_msn (b : Nat) (w : World) : (binOp .eql 101 (.map (some b)) (.map none)).run Try.prog w = .ok (.bool false) w := by kernel_rfl
set_option maxHeartbeats 4000000 in
theorem turn_any {B : Nat} {w : World} {s cb tb hb : Nat} {c : Cvs} {S : Sst} (h : Hsh) (hh : okH h) (p : Pth) (hp : okP p) (is : Bool) (hn : (hereL S h).length ≤ 100000) (hbd : 0 ≤ S.bad ∧ S.bad ≤ 100000) (hS : SAt B w s cb tb hb c S) :
    Calls Try.prog 139 #[.pointer (some ⟨s, 0, none⟩), .agg (bv h).toArray, .agg (pC p).toArray, .bool is] w fun e w' => e = .returned (.tuple #[]) ∧ ∃ S', SLeft B w s cb tb hb c S S' w' ∧ TurnQ c.own S S' h p is := by
  obtain ⟨w1, hw1⟩ : ∃ w1, w1 = (w.alloc (.cells (bv h).toArray 23)).alloc (.cells (pC p).toArray 53) := ⟨_, rfl⟩
  have hb1 : Below w.heap.size w w1 := by rw [hw1]; exact ((Below.refl _ w).alloc (Nat.le_refl _) _).alloc (by rw [size_alloc]; omega) _
  have hh1 : Blk w1 w.heap.size 23 (bv h).toArray := by rw [hw1]; exact (Blk.new _ _ _).alloc _
  have hp1 : Blk w1 (w.heap.size + 1) 53 (pC p).toArray := by rw [hw1]; exact Blk.new1 _ _ _ _
  have H1 := hide (And.intro (hS.below hb1) (And.intro hh1 (And.intro hp1 (turned_of_below (F := S.foot s cb tb hb) hb1))))
  have HW := hide hS
  clear hS hb1 hp1
  go_enter Try.func139, Try.ntmps139
  go_wp2_with (refine wpList_value (o := ⟨some 11, _, _, _, _, _⟩) rfl (.agg (bv h).toArray) ((w.alloc (.cells (bv h).toArray 23)).alloc (.cells (pC p).toArray 53)) (exec_load_blk (o := ⟨some 11, _, _, _, _, _⟩) 23 (.tmp 5) rfl w.heap.size rfl 23 _ _ ((w.alloc (.cells (bv h).toArray 23)).alloc (.cells (pC p).toArray 53)) (by rw [← hw1]; exact hh1) Try.underlying23 rfl (hsz hh)) ?_)
  rw [← hw1]
  clear hw1 hh1
  refine (conflicts_any h hh (by omega) H1.out.1).mono ?_
  rintro e w2 ⟨rfl, hb2⟩
  have H2 := hide (And.intro (H1.out.1.below hb2) (And.intro (H1.out.2.1.below hb2 H1.out.2.1.lt) (And.intro (H1.out.2.2.1.below hb2 H1.out.2.2.1.lt) (turned_below H1.out.2.2.2 hb2))))
  clear hb2
  obtain ⟨was, hwas⟩ : ∃ was, was = confB c.own h (hereL S h).length := ⟨_, rfl⟩
  rw [← hwas]
  have HWAS := hide (show confB c.own h (hk S h).length = was from by rw [hk_len, ← hwas])
  clear hwas
  dsimp only
  go_wp2_with fail
  cases hg : mget S.hm h with
  | none =>
    have hv : hereV S h = .map none := by unfold hereV; rw [hg]
    have hq0 := eq_mnn
    refine Fre.wp_made (X := Blw) 6 [] (by kernel_rfl) (by kernel_rfl) (by simp) (by simp) (by simp) ?_
    simp only [List.take_succ_cons, List.take_zero, List.drop_succ_cons, List.drop_zero]
    refine Fre.made_val (.pointer (some ⟨s, 0, none⟩)) (by kernel_rfl) (by kernel_rfl) (by kernel_rfl) (fun _ _ => by kernel_rfl) ?_
    simp only [Act.put, List.setIfInBounds_toArray, List.set_cons_zero, List.set_cons_succ]
    refine Fre.made_val (.pointer (some ⟨s, 0, none⟩)) (by kernel_rfl) (by kernel_rfl) (by kernel_rfl) (fun _ _ => by kernel_rfl) ?_
    simp only [Act.put, List.setIfInBounds_toArray, List.set_cons_zero, List.set_cons_succ]
    refine Fre.made_val (.pointer (some ⟨s, 26, none⟩)) (by kernel_rfl) (by kernel_rfl) (by kernel_rfl) (fun _ _ => by kernel_rfl) ?_
    simp only [Act.put, List.setIfInBounds_toArray, List.set_cons_zero, List.set_cons_succ]
    refine Fre.made_val (.map (some hb)) (by kernel_rfl) (by kernel_rfl) (by kernel_rfl) (fun W9 hW9 => exec_load_cell (o := ⟨some 16, _, _, _, _, _⟩) 102 (.tmp 15) rfl ⟨s, 26, none⟩ rfl _ _ W9 Try.underlying102 rfl (H2.out.1.below (blw hW9)).cells.2.2.2.2.2.2.2.1) ?_
    simp only [Act.put, List.setIfInBounds_toArray, List.set_cons_zero, List.set_cons_succ]
    refine Fre.made_val (.agg (bv h).toArray) (by kernel_rfl) (by kernel_rfl) (by kernel_rfl) (fun W9 hW9 => exec_load_blk (o := ⟨some 17, _, _, _, _, _⟩) 23 (.tmp 5) rfl w.heap.size rfl 23 _ _ W9 (H2.out.2.1.below (blw hW9) H2.out.2.1.lt) Try.underlying23 rfl (hsz hh)) ?_
    simp only [Act.put, List.setIfInBounds_toArray, List.set_cons_zero, List.set_cons_succ]
    refine Fre.made_val (.map none) (by kernel_rfl) (by kernel_rfl) (by kernel_rfl) (fun W9 hW9 => exec_lookup (o := ⟨some 18, _, _, _, _, _⟩) 102 (.tmp 16) (.tmp 17) false rfl (.map (some hb)) (.agg (bv h).toArray) _ rfl rfl (by have := (H2.out.1.below (blw hW9)).look hh; rw [hv] at this; exact this)) ?_
    simp only [Act.put, List.setIfInBounds_toArray, List.set_cons_zero, List.set_cons_succ]
    show ∀ w', _ → _
    intro w3 hb3
    simp only [Fre.ended]
    have hb3 : Below w2.heap.size w2 w3 := hb3
    have H3 := hide (And.intro (H2.out.1.below hb3) (And.intro (H2.out.2.1.below hb3 H2.out.2.1.lt) (And.intro (H2.out.2.2.1.below hb3 H2.out.2.2.1.lt) (turned_below H2.out.2.2.2 hb3))))
    clear hb3 hv
    go_wp2_with fail
    refine Fre.wp_made (X := Blw) 6 [(25, NewMap w3.heap.size)] (by kernel_rfl) (by kernel_rfl) (by simp only [List.forall_mem_cons]; exact ⟨newMap_ok _, fun p hp => by cases hp⟩) (by simp) (by simp) ?_
    simp only [List.take_succ_cons, List.take_zero, List.drop_succ_cons, List.drop_zero]
    refine Fre.made_val (.pointer (some ⟨s, 0, none⟩)) (by kernel_rfl) (by kernel_rfl) (by kernel_rfl) (fun _ _ => by kernel_rfl) ?_
    simp only [Act.put, List.setIfInBounds_toArray, List.set_cons_zero, List.set_cons_succ]
    refine Fre.made_val (.pointer (some ⟨s, 0, none⟩)) (by kernel_rfl) (by kernel_rfl) (by kernel_rfl) (fun _ _ => by kernel_rfl) ?_
    simp only [Act.put, List.setIfInBounds_toArray, List.set_cons_zero, List.set_cons_succ]
    refine Fre.made_val (.pointer (some ⟨s, 26, none⟩)) (by kernel_rfl) (by kernel_rfl) (by kernel_rfl) (fun _ _ => by kernel_rfl) ?_
    simp only [Act.put, List.setIfInBounds_toArray, List.set_cons_zero, List.set_cons_succ]
    refine Fre.made_val (.map (some hb)) (by kernel_rfl) (by kernel_rfl) (by kernel_rfl) (fun W9 hW9 => exec_load_cell (o := ⟨some 23, _, _, _, _, _⟩) 102 (.tmp 22) rfl ⟨s, 26, none⟩ rfl _ _ W9 Try.underlying102 rfl (H3.out.1.below (blw hW9)).cells.2.2.2.2.2.2.2.1) ?_
    simp only [Act.put, List.setIfInBounds_toArray, List.set_cons_zero, List.set_cons_succ]
    refine Fre.made_val (.agg (bv h).toArray) (by kernel_rfl) (by kernel_rfl) (by kernel_rfl) (fun W9 hW9 => exec_load_blk (o := ⟨some 24, _, _, _, _, _⟩) 23 (.tmp 5) rfl w.heap.size rfl 23 _ _ W9 (H3.out.2.1.below (blw hW9) H3.out.2.1.lt) Try.underlying23 rfl (hsz hh)) ?_
    simp only [Act.put, List.setIfInBounds_toArray, List.set_cons_zero, List.set_cons_succ]
    refine Fre.made_new 25 _ (by kernel_rfl) (by kernel_rfl) rfl rfl (fun W9 hW9 => ⟨.map (some W9.heap.size), W9.alloc (.map #[] 0), by kernel_rfl, (Below.refl _ W9).alloc (Nat.le_refl _) _, W9.heap.size, rfl, mapIs_new W9, (blw hW9).size⟩) ?_
    simp only [Act.put, List.setIfInBounds_toArray, List.set_cons_zero, List.set_cons_succ]
    show ∀ w', _ → _
    intro w3b hb3
    simp only [Fre.ended]
    have hb3 : Below w3.heap.size w3 w3b := hb3
    rintro u25 ⟨b, rfl, hbm, hbn⟩
    simp only [Act.put, List.setIfInBounds_toArray, List.set_cons_zero, List.set_cons_succ]
    have H3b := hide (And.intro (H3.out.1.below hb3) (And.intro (H3.out.2.1.below hb3 H3.out.2.1.lt) (And.intro (H3.out.2.2.1.below hb3 H3.out.2.2.1.lt) (turned_below H3.out.2.2.2 hb3))))
    have hfresh : ¬ S.foot s cb tb hb b := fun hf => by have := (H3.out.1.foot_lt hf).1; omega
    obtain ⟨w3c, r3, hS3, hg3⟩ := H3b.out.1.laid hh hg hbm (by have := (H3.out.1.foot_lt (.inl rfl : S.foot s cb tb hb s)); omega) hfresh
    refine wpList_mapUpdate (o := ⟨none, _, _, _, _, _⟩) rfl 102 (.tmp 23) (.tmp 24) (.tmp 25) rfl _ _ _ rfl rfl rfl r3 ?_
    have HP := hide (TurnP.laid HW.out hg (fun e he h => hfresh (.inr (.inr (.inr (.inr (.inl ⟨e, he, h.symm⟩)))))))
    obtain ⟨S1, hS1⟩ : ∃ S1, S1 = { S with hm := S.hm ++ [(h, b)], im := fun k => if k = b then [] else S.im k } := ⟨_, rfl⟩
    rw [← hS1] at hS3 HP
    have hb1 : mget S1.hm h = some b := by rw [hS1]; dsimp only; rw [mget_app_new hg, if_pos rfl]
    have HV := hide (And.intro hb1 (show hereV S1 h = .map (some b) by unfold hereV; rw [hb1]))
    have HFT1 := hide (show ∀ k, S1.foot s cb tb hb k → S.foot s cb tb hb k ∨ w.heap.size ≤ k from by
      rw [hS1]
      rintro k (h | h | h | h | ⟨e, he, rfl⟩ | h)
      · exact .inl (.inl h)
      · exact .inl (.inr (.inl h))
      · exact .inl (.inr (.inr (.inl h)))
      · exact .inl (.inr (.inr (.inr (.inl h))))
      · rcases List.mem_append.1 he with he | he
        · exact .inl (.inr (.inr (.inr (.inr (.inl ⟨e, he, rfl⟩)))))
        · rw [List.mem_singleton.1 he]; right; have := H3.out.2.2.2.size; dsimp only; omega
      · exact .inl (.inr (.inr (.inr (.inr (.inr h))))))
    have hne : ∀ {k : Nat} {t : TypeId} {cs : Array Value}, Blk w3b k t cs → k ≠ hb := fun hk e => map_not_cells H3b.out.1.hmap (by rw [← e]; exact hk)
    have H3c := hide (And.intro hS3 (And.intro (show Blk w3c w.heap.size 23 (bv h).toArray from (hg3.block _ H3b.out.2.1.lt (fun e => hne H3b.out.2.1 (by injection e))).trans H3b.out.2.1) (And.intro (show Blk w3c (w.heap.size + 1) 53 (pC p).toArray from (hg3.block _ H3b.out.2.2.1.lt (fun e => hne H3b.out.2.2.1 (by injection e))).trans H3b.out.2.2.1) (turned_grown H3b.out.2.2.2 hg3 (.inl (.inr (.inr (.inr (.inl rfl)))))))))
    clear hS3 hg3 hne hb1 hS1 hbm hb3 r3
    cases is with
    | true =>
      go_wp2_with fail
      refine Fre.wp_made (X := Blw) 7 [] (by kernel_rfl) (by kernel_rfl) (by simp) (by simp) (by simp) ?_
      simp only [List.take_succ_cons, List.take_zero, List.drop_succ_cons, List.drop_zero]
      refine Fre.made_val (.pointer (some ⟨s, 0, none⟩)) (by kernel_rfl) (by kernel_rfl) (by kernel_rfl) (fun _ _ => by kernel_rfl) ?_
      simp only [Act.put, List.setIfInBounds_toArray, List.set_cons_zero, List.set_cons_succ]
      refine Fre.made_val (.pointer (some ⟨s, 0, none⟩)) (by kernel_rfl) (by kernel_rfl) (by kernel_rfl) (fun _ _ => by kernel_rfl) ?_
      simp only [Act.put, List.setIfInBounds_toArray, List.set_cons_zero, List.set_cons_succ]
      refine Fre.made_val (.pointer (some ⟨s, 26, none⟩)) (by kernel_rfl) (by kernel_rfl) (by kernel_rfl) (fun _ _ => by kernel_rfl) ?_
      simp only [Act.put, List.setIfInBounds_toArray, List.set_cons_zero, List.set_cons_succ]
      refine Fre.made_val (.map (some hb)) (by kernel_rfl) (by kernel_rfl) (by kernel_rfl) (fun W9 hW9 => exec_load_cell (o := ⟨some 30, _, _, _, _, _⟩) 102 (.tmp 29) rfl ⟨s, 26, none⟩ rfl _ _ W9 Try.underlying102 rfl (H3c.out.1.below (blw hW9)).cells.2.2.2.2.2.2.2.1) ?_
      simp only [Act.put, List.setIfInBounds_toArray, List.set_cons_zero, List.set_cons_succ]
      refine Fre.made_val (.agg (bv h).toArray) (by kernel_rfl) (by kernel_rfl) (by kernel_rfl) (fun W9 hW9 => exec_load_blk (o := ⟨some 31, _, _, _, _, _⟩) 23 (.tmp 5) rfl w.heap.size rfl 23 _ _ W9 (H3c.out.2.1.below (blw hW9) H3c.out.2.1.lt) Try.underlying23 rfl (hsz hh)) ?_
      simp only [Act.put, List.setIfInBounds_toArray, List.set_cons_zero, List.set_cons_succ]
      refine Fre.made_val (.map (some b)) (by kernel_rfl) (by kernel_rfl) (by kernel_rfl) (fun W9 hW9 => exec_lookup (o := ⟨some 32, _, _, _, _, _⟩) 102 (.tmp 30) (.tmp 31) false rfl (.map (some hb)) (.agg (bv h).toArray) _ rfl rfl (by have := (H3c.out.1.below (blw hW9)).look hh; rw [HV.out.2] at this; exact this)) ?_
      simp only [Act.put, List.setIfInBounds_toArray, List.set_cons_zero, List.set_cons_succ]
      refine Fre.made_val (.agg (pC p).toArray) (by kernel_rfl) (by kernel_rfl) (by kernel_rfl) (fun W9 hW9 => exec_load_blk (o := ⟨some 33, _, _, _, _, _⟩) 53 (.tmp 6) rfl (w.heap.size + 1) rfl 53 _ _ W9 (H3c.out.2.2.1.below (blw hW9) H3c.out.2.2.1.lt) Try.underlying53 rfl (psz hp)) ?_
      simp only [Act.put, List.setIfInBounds_toArray, List.set_cons_zero, List.set_cons_succ]
      show ∀ w', _ → _
      intro w4 hb4
      simp only [Fre.ended]
      have hb4 : Below w3c.heap.size w3c w4 := hb4
      have H4 := hide (And.intro (H3c.out.1.below hb4) (And.intro (H3c.out.2.1.below hb4 H3c.out.2.1.lt) (And.intro (H3c.out.2.2.1.below hb4 H3c.out.2.2.1.lt) (turned_below H3c.out.2.2.2 hb4))))
      clear hb4
      obtain ⟨w5, r5, m5, t5⟩ := (H4.out.1.imap (h, b) (mget_mem HV.out.1)).update path_enc hp (t := 101) Try.underlying101 (1 : Int)
      refine wpList_mapUpdate (o := ⟨none, _, _, _, _, _⟩) rfl 101 (.tmp 32) (.tmp 33) (.const (.int .i64 1)) rfl _ _ _ rfl rfl rfl r5 ?_
      obtain ⟨hs5, hg5⟩ := H4.out.1.turned HV.out.1 m5 t5
      have hq5 := TurnR.of HP.out H4.out.1 HV.out.1 hs5 (is := true) (by rw [keys_put]; rfl)
      obtain ⟨S2, hS2⟩ : ∃ S2, S2 = { S1 with im := fun k => if k = b then mput (S1.im b) p 1 else S1.im k } := ⟨_, rfl⟩
      rw [← hS2] at hs5 hq5
      have hfb : S.foot s cb tb hb b ∨ w.heap.size ≤ b := HFT1.out b (.inr (.inr (.inr (.inr (.inl ⟨(h, b), mget_mem HV.out.1, rfl⟩)))))
      have HFT := hide (show ∀ k, S2.foot s cb tb hb k → S.foot s cb tb hb k ∨ w.heap.size ≤ k from fun k hk => HFT1.out k (by rw [hS2] at hk; exact hk))
      have ht5 := turned_grown H4.out.2.2.2 hg5 hfb
      have hne : ∀ {k : Nat} {t : TypeId} {cs : Array Value}, Blk w4 k t cs → k ≠ b := fun hk e => map_not_cells (H4.out.1.imap (h, b) (mget_mem HV.out.1)) (by rw [← e]; exact hk)
      have H5 := hide (And.intro hs5 (And.intro (show Blk w5 w.heap.size 23 (bv h).toArray from (t5.2.1 _ (hne H4.out.2.1)).trans H4.out.2.1) (And.intro (show Blk w5 (w.heap.size + 1) 53 (pC p).toArray from (t5.2.1 _ (hne H4.out.2.2.1)).trans H4.out.2.2.1) ht5)))
      have HQ := hide hq5
      have HH5 := H5.out.2.1
      clear hs5 hq5 ht5 hne hg5 m5 t5 r5 hS2
      go_wp2_with (refine wpList_value (o := ⟨some 42, _, _, _, _, _⟩) rfl (.agg (bv h).toArray) w5 (exec_load_blk (o := ⟨some 42, _, _, _, _, _⟩) 23 (.tmp 5) rfl w.heap.size rfl 23 _ _ w5 HH5 Try.underlying23 rfl (hsz hh)) ?_)
      refine (conflicts_any h hh (by have := HQ.out.len; omega) H5.out.1).mono ?_
      rintro e w6 ⟨rfl, hb6⟩
      have H6 := hide (And.intro (H5.out.1.below hb6) (And.intro (H5.out.2.1.below hb6 H5.out.2.1.lt) (And.intro (H5.out.2.2.1.below hb6 H5.out.2.2.1.lt) (turned_below H5.out.2.2.2 hb6))))
      clear hb6 HH5
      have HBD := hide (show -1 ≤ S2.bad ∧ S2.bad ≤ 100000 from by rw [HQ.out.bad]; omega)
      obtain ⟨now, hnow⟩ : ∃ now, now = confB c.own h (hereL S2 h).length := ⟨_, rfl⟩
      rw [← hnow]
      have HWN := hide (And.intro HWAS.out (show confB c.own h (hk S2 h).length = now from by rw [hk_len, ← hnow]))
      clear hnow
      dsimp only
      cases was with
      | true =>
        cases now with
        | true =>
          go_wp2_with fail
          go_end0
          refine ⟨rfl, S2, ⟨H6.out.1, H6.out.2.2.2, HFT.out⟩, ?_⟩
          exact HQ.out.fin S2.bad (by rw [HWN.out.1, HWN.out.2]; simp [one])
        | false =>
          have c27 := H6.out.1.cells.2.2.2.2.2.2.2.2.1
          have f27 := H6.out.1.blk.frozen 27
          have hlt := H6.out.1.blk.lt
          have b0 := HBD.out.1
          have b1 := HBD.out.2
          go_wp2_with fail
          have hset := H6.out.1.set (S' := { S2 with bad := S2.bad - 1 }) (i := 27) (srch_set c cb tb hb S2 H6.out.1.own (S2.bad - 1)).1 rfl rfl rfl rfl rfl
          go_end0
          refine ⟨rfl, _, SLeft.trans ⟨H6.out.1, H6.out.2.2.2, HFT.out⟩ hset, ?_⟩
          exact HQ.out.fin (S2.bad - 1) (by rw [HWN.out.1, HWN.out.2]; simp [one])
      | false =>
        cases now with
        | true =>
          have c27 := H6.out.1.cells.2.2.2.2.2.2.2.2.1
          have f27 := H6.out.1.blk.frozen 27
          have hlt := H6.out.1.blk.lt
          have b0 := HBD.out.1
          have b1 := HBD.out.2
          go_wp2_with fail
          have hset := H6.out.1.set (S' := { S2 with bad := S2.bad + 1 }) (i := 27) (srch_set c cb tb hb S2 H6.out.1.own (S2.bad + 1)).1 rfl rfl rfl rfl rfl
          go_end0
          refine ⟨rfl, _, SLeft.trans ⟨H6.out.1, H6.out.2.2.2, HFT.out⟩ hset, ?_⟩
          exact HQ.out.fin (S2.bad + 1) (by rw [HWN.out.1, HWN.out.2]; simp [one])
        | false =>
          go_wp2_with fail
          go_end0
          refine ⟨rfl, S2, ⟨H6.out.1, H6.out.2.2.2, HFT.out⟩, ?_⟩
          exact HQ.out.fin S2.bad (by rw [HWN.out.1, HWN.out.2]; simp [one])
    | false =>
      go_wp2_with fail
      refine Fre.wp_made (X := Blw) 7 [] (by kernel_rfl) (by kernel_rfl) (by simp) (by simp) (by simp) ?_
      simp only [List.take_succ_cons, List.take_zero, List.drop_succ_cons, List.drop_zero]
      refine Fre.made_val (.pointer (some ⟨s, 0, none⟩)) (by kernel_rfl) (by kernel_rfl) (by kernel_rfl) (fun _ _ => by kernel_rfl) ?_
      simp only [Act.put, List.setIfInBounds_toArray, List.set_cons_zero, List.set_cons_succ]
      refine Fre.made_val (.pointer (some ⟨s, 0, none⟩)) (by kernel_rfl) (by kernel_rfl) (by kernel_rfl) (fun _ _ => by kernel_rfl) ?_
      simp only [Act.put, List.setIfInBounds_toArray, List.set_cons_zero, List.set_cons_succ]
      refine Fre.made_val (.pointer (some ⟨s, 26, none⟩)) (by kernel_rfl) (by kernel_rfl) (by kernel_rfl) (fun _ _ => by kernel_rfl) ?_
      simp only [Act.put, List.setIfInBounds_toArray, List.set_cons_zero, List.set_cons_succ]
      refine Fre.made_val (.map (some hb)) (by kernel_rfl) (by kernel_rfl) (by kernel_rfl) (fun W9 hW9 => exec_load_cell (o := ⟨some 37, _, _, _, _, _⟩) 102 (.tmp 36) rfl ⟨s, 26, none⟩ rfl _ _ W9 Try.underlying102 rfl (H3c.out.1.below (blw hW9)).cells.2.2.2.2.2.2.2.1) ?_
      simp only [Act.put, List.setIfInBounds_toArray, List.set_cons_zero, List.set_cons_succ]
      refine Fre.made_val (.agg (bv h).toArray) (by kernel_rfl) (by kernel_rfl) (by kernel_rfl) (fun W9 hW9 => exec_load_blk (o := ⟨some 38, _, _, _, _, _⟩) 23 (.tmp 5) rfl w.heap.size rfl 23 _ _ W9 (H3c.out.2.1.below (blw hW9) H3c.out.2.1.lt) Try.underlying23 rfl (hsz hh)) ?_
      simp only [Act.put, List.setIfInBounds_toArray, List.set_cons_zero, List.set_cons_succ]
      refine Fre.made_val (.map (some b)) (by kernel_rfl) (by kernel_rfl) (by kernel_rfl) (fun W9 hW9 => exec_lookup (o := ⟨some 39, _, _, _, _, _⟩) 102 (.tmp 37) (.tmp 38) false rfl (.map (some hb)) (.agg (bv h).toArray) _ rfl rfl (by have := (H3c.out.1.below (blw hW9)).look hh; rw [HV.out.2] at this; exact this)) ?_
      simp only [Act.put, List.setIfInBounds_toArray, List.set_cons_zero, List.set_cons_succ]
      refine Fre.made_val (.agg (pC p).toArray) (by kernel_rfl) (by kernel_rfl) (by kernel_rfl) (fun W9 hW9 => exec_load_blk (o := ⟨some 40, _, _, _, _, _⟩) 53 (.tmp 6) rfl (w.heap.size + 1) rfl 53 _ _ W9 (H3c.out.2.2.1.below (blw hW9) H3c.out.2.2.1.lt) Try.underlying53 rfl (psz hp)) ?_
      simp only [Act.put, List.setIfInBounds_toArray, List.set_cons_zero, List.set_cons_succ]
      show ∀ w', _ → _
      intro w4 hb4
      simp only [Fre.ended]
      have hb4 : Below w3c.heap.size w3c w4 := hb4
      have H4 := hide (And.intro (H3c.out.1.below hb4) (And.intro (H3c.out.2.1.below hb4 H3c.out.2.1.lt) (And.intro (H3c.out.2.2.1.below hb4 H3c.out.2.2.1.lt) (turned_below H3c.out.2.2.2 hb4))))
      clear hb4
      obtain ⟨w5, r5, m5, t5⟩ := (H4.out.1.imap (h, b) (mget_mem HV.out.1)).drop path_enc hp (t := 101) Try.underlying101 4
      refine wpList_value (o := ⟨none, _, _, _, _, _⟩) rfl (.tuple #[]) w5 (exec_delete (o := ⟨none, _, _, _, _, _⟩) (.tmp 39) (.tmp 40) 101 53 rfl _ _ rfl rfl (show (Builtin.delete_ #[101, 53] _ #[.map (some b), .agg (pC p).toArray]).run Try.prog w4 = _ from r5)) ?_
      obtain ⟨hs5, hg5⟩ := H4.out.1.turned HV.out.1 m5 t5
      have hq5 := TurnR.of HP.out H4.out.1 HV.out.1 hs5 (is := false) (by rw [keys_del]; rfl)
      obtain ⟨S2, hS2⟩ : ∃ S2, S2 = { S1 with im := fun k => if k = b then mdel (S1.im b) p else S1.im k } := ⟨_, rfl⟩
      rw [← hS2] at hs5 hq5
      have hfb : S.foot s cb tb hb b ∨ w.heap.size ≤ b := HFT1.out b (.inr (.inr (.inr (.inr (.inl ⟨(h, b), mget_mem HV.out.1, rfl⟩)))))
      have HFT := hide (show ∀ k, S2.foot s cb tb hb k → S.foot s cb tb hb k ∨ w.heap.size ≤ k from fun k hk => HFT1.out k (by rw [hS2] at hk; exact hk))
      have ht5 := turned_grown H4.out.2.2.2 hg5 hfb
      have hne : ∀ {k : Nat} {t : TypeId} {cs : Array Value}, Blk w4 k t cs → k ≠ b := fun hk e => map_not_cells (H4.out.1.imap (h, b) (mget_mem HV.out.1)) (by rw [← e]; exact hk)
      have H5 := hide (And.intro hs5 (And.intro (show Blk w5 w.heap.size 23 (bv h).toArray from (t5.2.1 _ (hne H4.out.2.1)).trans H4.out.2.1) (And.intro (show Blk w5 (w.heap.size + 1) 53 (pC p).toArray from (t5.2.1 _ (hne H4.out.2.2.1)).trans H4.out.2.2.1) ht5)))
      have HQ := hide hq5
      have HH5 := H5.out.2.1
      clear hs5 hq5 ht5 hne hg5 m5 t5 r5 hS2
      go_wp2_with (refine wpList_value (o := ⟨some 42, _, _, _, _, _⟩) rfl (.agg (bv h).toArray) w5 (exec_load_blk (o := ⟨some 42, _, _, _, _, _⟩) 23 (.tmp 5) rfl w.heap.size rfl 23 _ _ w5 HH5 Try.underlying23 rfl (hsz hh)) ?_)
      refine (conflicts_any h hh (by have := HQ.out.len; omega) H5.out.1).mono ?_
      rintro e w6 ⟨rfl, hb6⟩
      have H6 := hide (And.intro (H5.out.1.below hb6) (And.intro (H5.out.2.1.below hb6 H5.out.2.1.lt) (And.intro (H5.out.2.2.1.below hb6 H5.out.2.2.1.lt) (turned_below H5.out.2.2.2 hb6))))
      clear hb6 HH5
      have HBD := hide (show -1 ≤ S2.bad ∧ S2.bad ≤ 100000 from by rw [HQ.out.bad]; omega)
      obtain ⟨now, hnow⟩ : ∃ now, now = confB c.own h (hereL S2 h).length := ⟨_, rfl⟩
      rw [← hnow]
      have HWN := hide (And.intro HWAS.out (show confB c.own h (hk S2 h).length = now from by rw [hk_len, ← hnow]))
      clear hnow
      dsimp only
      cases was with
      | true =>
        cases now with
        | true =>
          go_wp2_with fail
          go_end0
          refine ⟨rfl, S2, ⟨H6.out.1, H6.out.2.2.2, HFT.out⟩, ?_⟩
          exact HQ.out.fin S2.bad (by rw [HWN.out.1, HWN.out.2]; simp [one])
        | false =>
          have c27 := H6.out.1.cells.2.2.2.2.2.2.2.2.1
          have f27 := H6.out.1.blk.frozen 27
          have hlt := H6.out.1.blk.lt
          have b0 := HBD.out.1
          have b1 := HBD.out.2
          go_wp2_with fail
          have hset := H6.out.1.set (S' := { S2 with bad := S2.bad - 1 }) (i := 27) (srch_set c cb tb hb S2 H6.out.1.own (S2.bad - 1)).1 rfl rfl rfl rfl rfl
          go_end0
          refine ⟨rfl, _, SLeft.trans ⟨H6.out.1, H6.out.2.2.2, HFT.out⟩ hset, ?_⟩
          exact HQ.out.fin (S2.bad - 1) (by rw [HWN.out.1, HWN.out.2]; simp [one])
      | false =>
        cases now with
        | true =>
          have c27 := H6.out.1.cells.2.2.2.2.2.2.2.2.1
          have f27 := H6.out.1.blk.frozen 27
          have hlt := H6.out.1.blk.lt
          have b0 := HBD.out.1
          have b1 := HBD.out.2
          go_wp2_with fail
          have hset := H6.out.1.set (S' := { S2 with bad := S2.bad + 1 }) (i := 27) (srch_set c cb tb hb S2 H6.out.1.own (S2.bad + 1)).1 rfl rfl rfl rfl rfl
          go_end0
          refine ⟨rfl, _, SLeft.trans ⟨H6.out.1, H6.out.2.2.2, HFT.out⟩ hset, ?_⟩
          exact HQ.out.fin (S2.bad + 1) (by rw [HWN.out.1, HWN.out.2]; simp [one])
        | false =>
          go_wp2_with fail
          go_end0
          refine ⟨rfl, S2, ⟨H6.out.1, H6.out.2.2.2, HFT.out⟩, ?_⟩
          exact HQ.out.fin S2.bad (by rw [HWN.out.1, HWN.out.2]; simp [one])
  | some b =>
    have hv : hereV S h = .map (some b) := by unfold hereV; rw [hg]
    have hq0 := eq_msn b
    refine Fre.wp_made (X := Blw) 6 [] (by kernel_rfl) (by kernel_rfl) (by simp) (by simp) (by simp) ?_
    simp only [List.take_succ_cons, List.take_zero, List.drop_succ_cons, List.drop_zero]
    refine Fre.made_val (.pointer (some ⟨s, 0, none⟩)) (by kernel_rfl) (by kernel_rfl) (by kernel_rfl) (fun _ _ => by kernel_rfl) ?_
    simp only [Act.put, List.setIfInBounds_toArray, List.set_cons_zero, List.set_cons_succ]
    refine Fre.made_val (.pointer (some ⟨s, 0, none⟩)) (by kernel_rfl) (by kernel_rfl) (by kernel_rfl) (fun _ _ => by kernel_rfl) ?_
    simp only [Act.put, List.setIfInBounds_toArray, List.set_cons_zero, List.set_cons_succ]
    refine Fre.made_val (.pointer (some ⟨s, 26, none⟩)) (by kernel_rfl) (by kernel_rfl) (by kernel_rfl) (fun _ _ => by kernel_rfl) ?_
    simp only [Act.put, List.setIfInBounds_toArray, List.set_cons_zero, List.set_cons_succ]
    refine Fre.made_val (.map (some hb)) (by kernel_rfl) (by kernel_rfl) (by kernel_rfl) (fun W9 hW9 => exec_load_cell (o := ⟨some 16, _, _, _, _, _⟩) 102 (.tmp 15) rfl ⟨s, 26, none⟩ rfl _ _ W9 Try.underlying102 rfl (H2.out.1.below (blw hW9)).cells.2.2.2.2.2.2.2.1) ?_
    simp only [Act.put, List.setIfInBounds_toArray, List.set_cons_zero, List.set_cons_succ]
    refine Fre.made_val (.agg (bv h).toArray) (by kernel_rfl) (by kernel_rfl) (by kernel_rfl) (fun W9 hW9 => exec_load_blk (o := ⟨some 17, _, _, _, _, _⟩) 23 (.tmp 5) rfl w.heap.size rfl 23 _ _ W9 (H2.out.2.1.below (blw hW9) H2.out.2.1.lt) Try.underlying23 rfl (hsz hh)) ?_
    simp only [Act.put, List.setIfInBounds_toArray, List.set_cons_zero, List.set_cons_succ]
    refine Fre.made_val (.map (some b)) (by kernel_rfl) (by kernel_rfl) (by kernel_rfl) (fun W9 hW9 => exec_lookup (o := ⟨some 18, _, _, _, _, _⟩) 102 (.tmp 16) (.tmp 17) false rfl (.map (some hb)) (.agg (bv h).toArray) _ rfl rfl (by have := (H2.out.1.below (blw hW9)).look hh; rw [hv] at this; exact this)) ?_
    simp only [Act.put, List.setIfInBounds_toArray, List.set_cons_zero, List.set_cons_succ]
    show ∀ w', _ → _
    intro w3 hb3
    simp only [Fre.ended]
    have hb3 : Below w2.heap.size w2 w3 := hb3
    have H3 := hide (And.intro (H2.out.1.below hb3) (And.intro (H2.out.2.1.below hb3 H2.out.2.1.lt) (And.intro (H2.out.2.2.1.below hb3 H2.out.2.2.1.lt) (turned_below H2.out.2.2.2 hb3))))
    have HP := hide (TurnP.same S)
    have HV := hide (And.intro hg hv)
    have HFT1 := hide (show ∀ k, S.foot s cb tb hb k → S.foot s cb tb hb k ∨ w.heap.size ≤ k from fun k hk => .inl hk)
    clear hb3 hv hg
    cases is with
    | true =>
      go_wp2_with fail
      refine Fre.wp_made (X := Blw) 7 [] (by kernel_rfl) (by kernel_rfl) (by simp) (by simp) (by simp) ?_
      simp only [List.take_succ_cons, List.take_zero, List.drop_succ_cons, List.drop_zero]
      refine Fre.made_val (.pointer (some ⟨s, 0, none⟩)) (by kernel_rfl) (by kernel_rfl) (by kernel_rfl) (fun _ _ => by kernel_rfl) ?_
      simp only [Act.put, List.setIfInBounds_toArray, List.set_cons_zero, List.set_cons_succ]
      refine Fre.made_val (.pointer (some ⟨s, 0, none⟩)) (by kernel_rfl) (by kernel_rfl) (by kernel_rfl) (fun _ _ => by kernel_rfl) ?_
      simp only [Act.put, List.setIfInBounds_toArray, List.set_cons_zero, List.set_cons_succ]
      refine Fre.made_val (.pointer (some ⟨s, 26, none⟩)) (by kernel_rfl) (by kernel_rfl) (by kernel_rfl) (fun _ _ => by kernel_rfl) ?_
      simp only [Act.put, List.setIfInBounds_toArray, List.set_cons_zero, List.set_cons_succ]
      refine Fre.made_val (.map (some hb)) (by kernel_rfl) (by kernel_rfl) (by kernel_rfl) (fun W9 hW9 => exec_load_cell (o := ⟨some 30, _, _, _, _, _⟩) 102 (.tmp 29) rfl ⟨s, 26, none⟩ rfl _ _ W9 Try.underlying102 rfl (H3.out.1.below (blw hW9)).cells.2.2.2.2.2.2.2.1) ?_
      simp only [Act.put, List.setIfInBounds_toArray, List.set_cons_zero, List.set_cons_succ]
      refine Fre.made_val (.agg (bv h).toArray) (by kernel_rfl) (by kernel_rfl) (by kernel_rfl) (fun W9 hW9 => exec_load_blk (o := ⟨some 31, _, _, _, _, _⟩) 23 (.tmp 5) rfl w.heap.size rfl 23 _ _ W9 (H3.out.2.1.below (blw hW9) H3.out.2.1.lt) Try.underlying23 rfl (hsz hh)) ?_
      simp only [Act.put, List.setIfInBounds_toArray, List.set_cons_zero, List.set_cons_succ]
      refine Fre.made_val (.map (some b)) (by kernel_rfl) (by kernel_rfl) (by kernel_rfl) (fun W9 hW9 => exec_lookup (o := ⟨some 32, _, _, _, _, _⟩) 102 (.tmp 30) (.tmp 31) false rfl (.map (some hb)) (.agg (bv h).toArray) _ rfl rfl (by have := (H3.out.1.below (blw hW9)).look hh; rw [HV.out.2] at this; exact this)) ?_
      simp only [Act.put, List.setIfInBounds_toArray, List.set_cons_zero, List.set_cons_succ]
      refine Fre.made_val (.agg (pC p).toArray) (by kernel_rfl) (by kernel_rfl) (by kernel_rfl) (fun W9 hW9 => exec_load_blk (o := ⟨some 33, _, _, _, _, _⟩) 53 (.tmp 6) rfl (w.heap.size + 1) rfl 53 _ _ W9 (H3.out.2.2.1.below (blw hW9) H3.out.2.2.1.lt) Try.underlying53 rfl (psz hp)) ?_
      simp only [Act.put, List.setIfInBounds_toArray, List.set_cons_zero, List.set_cons_succ]
      show ∀ w', _ → _
      intro w4 hb4
      simp only [Fre.ended]
      have hb4 : Below w3.heap.size w3 w4 := hb4
      have H4 := hide (And.intro (H3.out.1.below hb4) (And.intro (H3.out.2.1.below hb4 H3.out.2.1.lt) (And.intro (H3.out.2.2.1.below hb4 H3.out.2.2.1.lt) (turned_below H3.out.2.2.2 hb4))))
      clear hb4
      obtain ⟨w5, r5, m5, t5⟩ := (H4.out.1.imap (h, b) (mget_mem HV.out.1)).update path_enc hp (t := 101) Try.underlying101 (1 : Int)
      refine wpList_mapUpdate (o := ⟨none, _, _, _, _, _⟩) rfl 101 (.tmp 32) (.tmp 33) (.const (.int .i64 1)) rfl _ _ _ rfl rfl rfl r5 ?_
      obtain ⟨hs5, hg5⟩ := H4.out.1.turned HV.out.1 m5 t5
      have hq5 := TurnR.of HP.out H4.out.1 HV.out.1 hs5 (is := true) (by rw [keys_put]; rfl)
      obtain ⟨S2, hS2⟩ : ∃ S2, S2 = { S with im := fun k => if k = b then mput (S.im b) p 1 else S.im k } := ⟨_, rfl⟩
      rw [← hS2] at hs5 hq5
      have hfb : S.foot s cb tb hb b ∨ w.heap.size ≤ b := HFT1.out b (.inr (.inr (.inr (.inr (.inl ⟨(h, b), mget_mem HV.out.1, rfl⟩)))))
      have HFT := hide (show ∀ k, S2.foot s cb tb hb k → S.foot s cb tb hb k ∨ w.heap.size ≤ k from fun k hk => HFT1.out k (by rw [hS2] at hk; exact hk))
      have ht5 := turned_grown H4.out.2.2.2 hg5 hfb
      have hne : ∀ {k : Nat} {t : TypeId} {cs : Array Value}, Blk w4 k t cs → k ≠ b := fun hk e => map_not_cells (H4.out.1.imap (h, b) (mget_mem HV.out.1)) (by rw [← e]; exact hk)
      have H5 := hide (And.intro hs5 (And.intro (show Blk w5 w.heap.size 23 (bv h).toArray from (t5.2.1 _ (hne H4.out.2.1)).trans H4.out.2.1) (And.intro (show Blk w5 (w.heap.size + 1) 53 (pC p).toArray from (t5.2.1 _ (hne H4.out.2.2.1)).trans H4.out.2.2.1) ht5)))
      have HQ := hide hq5
      have HH5 := H5.out.2.1
      clear hs5 hq5 ht5 hne hg5 m5 t5 r5 hS2
      go_wp2_with (refine wpList_value (o := ⟨some 42, _, _, _, _, _⟩) rfl (.agg (bv h).toArray) w5 (exec_load_blk (o := ⟨some 42, _, _, _, _, _⟩) 23 (.tmp 5) rfl w.heap.size rfl 23 _ _ w5 HH5 Try.underlying23 rfl (hsz hh)) ?_)
      refine (conflicts_any h hh (by have := HQ.out.len; omega) H5.out.1).mono ?_
      rintro e w6 ⟨rfl, hb6⟩
      have H6 := hide (And.intro (H5.out.1.below hb6) (And.intro (H5.out.2.1.below hb6 H5.out.2.1.lt) (And.intro (H5.out.2.2.1.below hb6 H5.out.2.2.1.lt) (turned_below H5.out.2.2.2 hb6))))
      clear hb6 HH5
      have HBD := hide (show -1 ≤ S2.bad ∧ S2.bad ≤ 100000 from by rw [HQ.out.bad]; omega)
      obtain ⟨now, hnow⟩ : ∃ now, now = confB c.own h (hereL S2 h).length := ⟨_, rfl⟩
      rw [← hnow]
      have HWN := hide (And.intro HWAS.out (show confB c.own h (hk S2 h).length = now from by rw [hk_len, ← hnow]))
      clear hnow
      dsimp only
      cases was with
      | true =>
        cases now with
        | true =>
          go_wp2_with fail
          go_end0
          refine ⟨rfl, S2, ⟨H6.out.1, H6.out.2.2.2, HFT.out⟩, ?_⟩
          exact HQ.out.fin S2.bad (by rw [HWN.out.1, HWN.out.2]; simp [one])
        | false =>
          have c27 := H6.out.1.cells.2.2.2.2.2.2.2.2.1
          have f27 := H6.out.1.blk.frozen 27
          have hlt := H6.out.1.blk.lt
          have b0 := HBD.out.1
          have b1 := HBD.out.2
          go_wp2_with fail
          have hset := H6.out.1.set (S' := { S2 with bad := S2.bad - 1 }) (i := 27) (srch_set c cb tb hb S2 H6.out.1.own (S2.bad - 1)).1 rfl rfl rfl rfl rfl
          go_end0
          refine ⟨rfl, _, SLeft.trans ⟨H6.out.1, H6.out.2.2.2, HFT.out⟩ hset, ?_⟩
          exact HQ.out.fin (S2.bad - 1) (by rw [HWN.out.1, HWN.out.2]; simp [one])
      | false =>
        cases now with
        | true =>
          have c27 := H6.out.1.cells.2.2.2.2.2.2.2.2.1
          have f27 := H6.out.1.blk.frozen 27
          have hlt := H6.out.1.blk.lt
          have b0 := HBD.out.1
          have b1 := HBD.out.2
          go_wp2_with fail
          have hset := H6.out.1.set (S' := { S2 with bad := S2.bad + 1 }) (i := 27) (srch_set c cb tb hb S2 H6.out.1.own (S2.bad + 1)).1 rfl rfl rfl rfl rfl
          go_end0
          refine ⟨rfl, _, SLeft.trans ⟨H6.out.1, H6.out.2.2.2, HFT.out⟩ hset, ?_⟩
          exact HQ.out.fin (S2.bad + 1) (by rw [HWN.out.1, HWN.out.2]; simp [one])
        | false =>
          go_wp2_with fail
          go_end0
          refine ⟨rfl, S2, ⟨H6.out.1, H6.out.2.2.2, HFT.out⟩, ?_⟩
          exact HQ.out.fin S2.bad (by rw [HWN.out.1, HWN.out.2]; simp [one])
    | false =>
      go_wp2_with fail
      refine Fre.wp_made (X := Blw) 7 [] (by kernel_rfl) (by kernel_rfl) (by simp) (by simp) (by simp) ?_
      simp only [List.take_succ_cons, List.take_zero, List.drop_succ_cons, List.drop_zero]
      refine Fre.made_val (.pointer (some ⟨s, 0, none⟩)) (by kernel_rfl) (by kernel_rfl) (by kernel_rfl) (fun _ _ => by kernel_rfl) ?_
      simp only [Act.put, List.setIfInBounds_toArray, List.set_cons_zero, List.set_cons_succ]
      refine Fre.made_val (.pointer (some ⟨s, 0, none⟩)) (by kernel_rfl) (by kernel_rfl) (by kernel_rfl) (fun _ _ => by kernel_rfl) ?_
      simp only [Act.put, List.setIfInBounds_toArray, List.set_cons_zero, List.set_cons_succ]
      refine Fre.made_val (.pointer (some ⟨s, 26, none⟩)) (by kernel_rfl) (by kernel_rfl) (by kernel_rfl) (fun _ _ => by kernel_rfl) ?_
      simp only [Act.put, List.setIfInBounds_toArray, List.set_cons_zero, List.set_cons_succ]
      refine Fre.made_val (.map (some hb)) (by kernel_rfl) (by kernel_rfl) (by kernel_rfl) (fun W9 hW9 => exec_load_cell (o := ⟨some 37, _, _, _, _, _⟩) 102 (.tmp 36) rfl ⟨s, 26, none⟩ rfl _ _ W9 Try.underlying102 rfl (H3.out.1.below (blw hW9)).cells.2.2.2.2.2.2.2.1) ?_
      simp only [Act.put, List.setIfInBounds_toArray, List.set_cons_zero, List.set_cons_succ]
      refine Fre.made_val (.agg (bv h).toArray) (by kernel_rfl) (by kernel_rfl) (by kernel_rfl) (fun W9 hW9 => exec_load_blk (o := ⟨some 38, _, _, _, _, _⟩) 23 (.tmp 5) rfl w.heap.size rfl 23 _ _ W9 (H3.out.2.1.below (blw hW9) H3.out.2.1.lt) Try.underlying23 rfl (hsz hh)) ?_
      simp only [Act.put, List.setIfInBounds_toArray, List.set_cons_zero, List.set_cons_succ]
      refine Fre.made_val (.map (some b)) (by kernel_rfl) (by kernel_rfl) (by kernel_rfl) (fun W9 hW9 => exec_lookup (o := ⟨some 39, _, _, _, _, _⟩) 102 (.tmp 37) (.tmp 38) false rfl (.map (some hb)) (.agg (bv h).toArray) _ rfl rfl (by have := (H3.out.1.below (blw hW9)).look hh; rw [HV.out.2] at this; exact this)) ?_
      simp only [Act.put, List.setIfInBounds_toArray, List.set_cons_zero, List.set_cons_succ]
      refine Fre.made_val (.agg (pC p).toArray) (by kernel_rfl) (by kernel_rfl) (by kernel_rfl) (fun W9 hW9 => exec_load_blk (o := ⟨some 40, _, _, _, _, _⟩) 53 (.tmp 6) rfl (w.heap.size + 1) rfl 53 _ _ W9 (H3.out.2.2.1.below (blw hW9) H3.out.2.2.1.lt) Try.underlying53 rfl (psz hp)) ?_
      simp only [Act.put, List.setIfInBounds_toArray, List.set_cons_zero, List.set_cons_succ]
      show ∀ w', _ → _
      intro w4 hb4
      simp only [Fre.ended]
      have hb4 : Below w3.heap.size w3 w4 := hb4
      have H4 := hide (And.intro (H3.out.1.below hb4) (And.intro (H3.out.2.1.below hb4 H3.out.2.1.lt) (And.intro (H3.out.2.2.1.below hb4 H3.out.2.2.1.lt) (turned_below H3.out.2.2.2 hb4))))
      clear hb4
      obtain ⟨w5, r5, m5, t5⟩ := (H4.out.1.imap (h, b) (mget_mem HV.out.1)).drop path_enc hp (t := 101) Try.underlying101 4
      refine wpList_value (o := ⟨none, _, _, _, _, _⟩) rfl (.tuple #[]) w5 (exec_delete (o := ⟨none, _, _, _, _, _⟩) (.tmp 39) (.tmp 40) 101 53 rfl _ _ rfl rfl (show (Builtin.delete_ #[101, 53] _ #[.map (some b), .agg (pC p).toArray]).run Try.prog w4 = _ from r5)) ?_
      obtain ⟨hs5, hg5⟩ := H4.out.1.turned HV.out.1 m5 t5
      have hq5 := TurnR.of HP.out H4.out.1 HV.out.1 hs5 (is := false) (by rw [keys_del]; rfl)
      obtain ⟨S2, hS2⟩ : ∃ S2, S2 = { S with im := fun k => if k = b then mdel (S.im b) p else S.im k } := ⟨_, rfl⟩
      rw [← hS2] at hs5 hq5
      have hfb : S.foot s cb tb hb b ∨ w.heap.size ≤ b := HFT1.out b (.inr (.inr (.inr (.inr (.inl ⟨(h, b), mget_mem HV.out.1, rfl⟩)))))
      have HFT := hide (show ∀ k, S2.foot s cb tb hb k → S.foot s cb tb hb k ∨ w.heap.size ≤ k from fun k hk => HFT1.out k (by rw [hS2] at hk; exact hk))
      have ht5 := turned_grown H4.out.2.2.2 hg5 hfb
      have hne : ∀ {k : Nat} {t : TypeId} {cs : Array Value}, Blk w4 k t cs → k ≠ b := fun hk e => map_not_cells (H4.out.1.imap (h, b) (mget_mem HV.out.1)) (by rw [← e]; exact hk)
      have H5 := hide (And.intro hs5 (And.intro (show Blk w5 w.heap.size 23 (bv h).toArray from (t5.2.1 _ (hne H4.out.2.1)).trans H4.out.2.1) (And.intro (show Blk w5 (w.heap.size + 1) 53 (pC p).toArray from (t5.2.1 _ (hne H4.out.2.2.1)).trans H4.out.2.2.1) ht5)))
      have HQ := hide hq5
      have HH5 := H5.out.2.1
      clear hs5 hq5 ht5 hne hg5 m5 t5 r5 hS2
      go_wp2_with (refine wpList_value (o := ⟨some 42, _, _, _, _, _⟩) rfl (.agg (bv h).toArray) w5 (exec_load_blk (o := ⟨some 42, _, _, _, _, _⟩) 23 (.tmp 5) rfl w.heap.size rfl 23 _ _ w5 HH5 Try.underlying23 rfl (hsz hh)) ?_)
      refine (conflicts_any h hh (by have := HQ.out.len; omega) H5.out.1).mono ?_
      rintro e w6 ⟨rfl, hb6⟩
      have H6 := hide (And.intro (H5.out.1.below hb6) (And.intro (H5.out.2.1.below hb6 H5.out.2.1.lt) (And.intro (H5.out.2.2.1.below hb6 H5.out.2.2.1.lt) (turned_below H5.out.2.2.2 hb6))))
      clear hb6 HH5
      have HBD := hide (show -1 ≤ S2.bad ∧ S2.bad ≤ 100000 from by rw [HQ.out.bad]; omega)
      obtain ⟨now, hnow⟩ : ∃ now, now = confB c.own h (hereL S2 h).length := ⟨_, rfl⟩
      rw [← hnow]
      have HWN := hide (And.intro HWAS.out (show confB c.own h (hk S2 h).length = now from by rw [hk_len, ← hnow]))
      clear hnow
      dsimp only
      cases was with
      | true =>
        cases now with
        | true =>
          go_wp2_with fail
          go_end0
          refine ⟨rfl, S2, ⟨H6.out.1, H6.out.2.2.2, HFT.out⟩, ?_⟩
          exact HQ.out.fin S2.bad (by rw [HWN.out.1, HWN.out.2]; simp [one])
        | false =>
          have c27 := H6.out.1.cells.2.2.2.2.2.2.2.2.1
          have f27 := H6.out.1.blk.frozen 27
          have hlt := H6.out.1.blk.lt
          have b0 := HBD.out.1
          have b1 := HBD.out.2
          go_wp2_with fail
          have hset := H6.out.1.set (S' := { S2 with bad := S2.bad - 1 }) (i := 27) (srch_set c cb tb hb S2 H6.out.1.own (S2.bad - 1)).1 rfl rfl rfl rfl rfl
          go_end0
          refine ⟨rfl, _, SLeft.trans ⟨H6.out.1, H6.out.2.2.2, HFT.out⟩ hset, ?_⟩
          exact HQ.out.fin (S2.bad - 1) (by rw [HWN.out.1, HWN.out.2]; simp [one])
      | false =>
        cases now with
        | true =>
          have c27 := H6.out.1.cells.2.2.2.2.2.2.2.2.1
          have f27 := H6.out.1.blk.frozen 27
          have hlt := H6.out.1.blk.lt
          have b0 := HBD.out.1
          have b1 := HBD.out.2
          go_wp2_with fail
          have hset := H6.out.1.set (S' := { S2 with bad := S2.bad + 1 }) (i := 27) (srch_set c cb tb hb S2 H6.out.1.own (S2.bad + 1)).1 rfl rfl rfl rfl rfl
          go_end0
          refine ⟨rfl, _, SLeft.trans ⟨H6.out.1, H6.out.2.2.2, HFT.out⟩ hset, ?_⟩
          exact HQ.out.fin (S2.bad + 1) (by rw [HWN.out.1, HWN.out.2]; simp [one])
        | false =>
          go_wp2_with fail
          go_end0
          refine ⟨rfl, S2, ⟨H6.out.1, H6.out.2.2.2, HFT.out⟩, ?_⟩
          exact HQ.out.fin S2.bad (by rw [HWN.out.1, HWN.out.2]; simp [one])
end Go.Proofs.Ytfppddnfdinipaa
