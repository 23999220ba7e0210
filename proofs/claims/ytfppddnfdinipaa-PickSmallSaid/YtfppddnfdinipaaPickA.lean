/- package pick: does a class conflict? -/
import Derived.Test.YtfppddnfdinipaaPickS
import Derived.Test.YtfppddnfdinipaaFre2
namespace Go.Proofs.Ytfppddnfdinipaa
open Go Go.RowKit Go.Maps
set_option maxRecDepth 100000
/-- only memory is made -/
def Blw (w w' : World) : Prop := Below w.heap.size w w'
instance : Fre.RelOk Blw where
  refl := fun w => Below.refl _ w
  trans := fun _ _ _ h k => Below.trans h (Below.mono k h.size)
  drew := fun w => (Below.refl _ w).drew
theorem blw {w w' : World} (h : Fre.Ext Blw w w') : Below w.heap.size w w' := h
theorem z_map (w : World) : (zeroValue 101).run Try.prog w = .ok (.map none) w := by kernel_rfl
theorem z_int (w : World) : (zeroValue 3).run Try.prog w = .ok (.int .i64 0) w := by kernel_rfl
theorem z_sl (w : World) : (zeroValue 25).run Try.prog w = .ok (.slice none 0 0) w := by kernel_rfl
theorem sz_hash : (Try.prog.info? 23).map (·.size) = some 20 := by kernel_rfl
theorem sz_path : (Try.prog.info? 53).map (·.size) = some 21 := by kernel_rfl
theorem hsz {h : Hsh} (hh : okH h) : (Try.prog.info? 23).map (·.size) = some (bv h).toArray.size := by
  rw [sz_hash]
  simp [bvL]
  exact hh.symm
theorem psz {p : Pth} (hp : okP p) : (Try.prog.info? 53).map (·.size) = some (pC p).toArray.size := by
  rw [sz_path]
  simp [pC_len hp]
/-- what of a class is there -/
def hereL (S : Sst) (h : Hsh) : List (Pth × Int) := match mget S.hm h with | none => [] | some b => S.im b
def hereV (S : Sst) (h : Hsh) : Value := match mget S.hm h with | none => .map none | some b => .map (some b)
theorem hereV_look (S : Sst) (h : Hsh) : ((mget S.hm h).map mapV).getD (.map none) = hereV S h := by
  unfold hereV
  cases mget S.hm h <;> rfl
def confB (own h : Hsh) (n : Nat) : Bool := decide (1 < n) || (decide (n = 1) && decide (h = own))
section
variable {B : Nat} {w w' : World} {s cb tb hb : Nat} {c : Cvs} {S : Sst}
theorem SAt.look (hS : SAt B w s cb tb hb c S) {h : Hsh} (hh : okH h) : (Instr.lookup 102 (.map (some hb)) (.agg (bv h).toArray) false).run Try.prog w = .ok (hereV S h) w := by
  have := hS.hmap.look hash_enc hh (t := 102) Try.underlying102 (z_map w)
  rw [hereV_look] at this
  exact this
theorem SAt.here_len (hS : SAt B w s cb tb hb c S) (h : Hsh) (ty : TypeId) : (Builtin.len_ #[101] ty #[hereV S h]).run Try.prog w = .ok (.int .i64 ((hereL S h).length : Int)) w := by
  unfold hereV hereL
  cases hg : mget S.hm h with
  | none => exact Maps.len_nil (t := 101) Try.underlying101 ty
  | some b => exact (hS.imap (h, b) (mget_mem hg)).len Try.underlying101 ty
end
theorem exec_len {P : Program} {ρ : Operand → Value} {o : Oper} {w : World} (x : Operand) (t : TypeId) (ho : o.op = .call { callee := .builtin .len, args := #[x], argTypes := #[t] }) (v : Value) (hx : ρ x = v) (n : Value) (hr : (Builtin.len_ #[t] o.type #[v]).run P w = .ok n w) : (execOp ρ o).run P w = .ok (.value n) w := by
  unfold execOp
  simp only [ho, resolve, invoke, builtin, Sem.run_bind, Sem.run_pure, Result.andThen_ok, List.map_toArray, List.map_cons, List.map_nil, hx, hr]
set_option maxHeartbeats 1000000 in
theorem conflicts_any {B : Nat} {w : World} {s cb tb hb : Nat} {c : Cvs} {S : Sst} (h : Hsh) (hh : okH h) (hn : (hereL S h).length ≤ 1000000) (hS : SAt B w s cb tb hb c S) :
    Calls Try.prog 169 #[.pointer (some ⟨s, 0, none⟩), .agg (bv h).toArray] w fun e w' => e = .returned (.bool (confB c.own h (hereL S h).length)) ∧ Below w.heap.size w w' := by
  obtain ⟨w1, hw1⟩ : ∃ w1, w1 = w.alloc (.cells (bv h).toArray 23) := ⟨_, rfl⟩
  have hb1 : Below w.heap.size w w1 := by rw [hw1]; exact (Below.refl _ w).alloc (Nat.le_refl _) _
  have hh1 : Blk w1 w.heap.size 23 (bv h).toArray := by rw [hw1]; exact Blk.new _ _ _
  have H1 := hide (And.intro (hS.below hb1) (And.intro hh1 hb1))
  clear hS hb1 hh1
  go_enter Try.func169, Try.ntmps169
  go_wp2_with fail
  rw [← hw1]
  clear hw1
  refine Fre.wp_made (X := Blw) 7 [] (by kernel_rfl) (by kernel_rfl) (by simp) (by simp) (by simp) ?_
  simp only [List.take_succ_cons, List.take_zero, List.drop_succ_cons, List.drop_zero]
  refine Fre.made_val (.pointer (some ⟨s, 0, none⟩)) (by kernel_rfl) (by kernel_rfl) (by kernel_rfl) (fun _ _ => by kernel_rfl) ?_
  simp only [Act.put, List.setIfInBounds_toArray, List.set_cons_zero, List.set_cons_succ]
  refine Fre.made_val (.pointer (some ⟨s, 0, none⟩)) (by kernel_rfl) (by kernel_rfl) (by kernel_rfl) (fun _ _ => by kernel_rfl) ?_
  simp only [Act.put, List.setIfInBounds_toArray, List.set_cons_zero, List.set_cons_succ]
  refine Fre.made_val (.pointer (some ⟨s, 26, none⟩)) (by kernel_rfl) (by kernel_rfl) (by kernel_rfl) (fun _ _ => by kernel_rfl) ?_
  simp only [Act.put, List.setIfInBounds_toArray, List.set_cons_zero, List.set_cons_succ]
  refine Fre.made_val (.map (some hb)) (by kernel_rfl) (by kernel_rfl) (by kernel_rfl) (fun W9 hW9 => exec_load_cell (o := ⟨some 9, _, _, _, _, _⟩) 102 (.tmp 8) rfl ⟨s, 26, none⟩ rfl _ _ W9 Try.underlying102 rfl ((H1.out.1.below (blw hW9)).cells.2.2.2.2.2.2.2.1)) ?_
  simp only [Act.put, List.setIfInBounds_toArray, List.set_cons_zero, List.set_cons_succ]
  refine Fre.made_val (.agg (bv h).toArray) (by kernel_rfl) (by kernel_rfl) (by kernel_rfl) (fun W9 hW9 => exec_load_blk (o := ⟨some 10, _, _, _, _, _⟩) 23 (.tmp 3) rfl w.heap.size rfl 23 _ _ W9 (H1.out.2.1.below (blw hW9) H1.out.2.1.lt) Try.underlying23 rfl (hsz hh)) ?_
  simp only [Act.put, List.setIfInBounds_toArray, List.set_cons_zero, List.set_cons_succ]
  refine Fre.made_val (hereV S h) (by kernel_rfl) (by kernel_rfl) (by kernel_rfl) (fun W9 hW9 => exec_lookup (o := ⟨some 11, _, _, _, _, _⟩) 102 (.tmp 9) (.tmp 10) false rfl (.map (some hb)) (.agg (bv h).toArray) _ rfl rfl ((H1.out.1.below (blw hW9)).look hh)) ?_
  simp only [Act.put, List.setIfInBounds_toArray, List.set_cons_zero, List.set_cons_succ]
  refine Fre.made_val (.int .i64 ((hereL S h).length : Int)) (by kernel_rfl) (by kernel_rfl) (by kernel_rfl) (fun W9 hW9 => exec_len (o := ⟨some 12, _, _, _, _, _⟩) (.tmp 11) 101 rfl _ rfl _ ((H1.out.1.below (blw hW9)).here_len h _)) ?_
  simp only [Act.put, List.setIfInBounds_toArray, List.set_cons_zero, List.set_cons_succ]
  show ∀ w', _ → _
  intro w2 hb2
  simp only [Fre.ended]
  have hb2 : Below w1.heap.size w1 w2 := hb2
  have H2 := hide (And.intro (H1.out.1.below hb2) (And.intro (H1.out.2.1.below hb2 H1.out.2.1.lt) (H1.out.2.2.trans (Below.mono hb2 H1.out.2.2.size))))
  clear hb2
  go_wp2_with fail
  by_cases h1 : 1 < (hereL S h).length
  · have n1 : (1 : Int) < ((hereL S h).length : Int) := by omega
    refine Fre.wp_made (X := Blw) 14 [] (by kernel_rfl) (by kernel_rfl) (by simp) (by simp) (by simp) ?_
    simp only [List.take_succ_cons, List.take_zero, List.drop_succ_cons, List.drop_zero]
    refine Fre.made_val (.int .i64 ((hereL S h).length : Int)) (by kernel_rfl) (by kernel_rfl) (by kernel_rfl) (fun _ _ => by kernel_rfl) ?_
    simp only [Act.put, List.setIfInBounds_toArray, List.set_cons_zero, List.set_cons_succ]
    refine Fre.made_val (.bool true) (by kernel_rfl) (by kernel_rfl) (by kernel_rfl) (fun W9 hW9 => ?hs1) ?_
    case hs1 =>
      go_simp
    simp only [Act.put, List.setIfInBounds_toArray, List.set_cons_zero, List.set_cons_succ]
    refine Fre.made_val (.bool true) (by kernel_rfl) (by kernel_rfl) (by kernel_rfl) (fun _ _ => by kernel_rfl) ?_
    simp only [Act.put, List.setIfInBounds_toArray, List.set_cons_zero, List.set_cons_succ]
    refine Fre.made_skip (by kernel_rfl) (by kernel_rfl) (by kernel_rfl) ?_
    refine Fre.made_skip (by kernel_rfl) (by kernel_rfl) (by kernel_rfl) ?_
    refine Fre.made_skip (by kernel_rfl) (by kernel_rfl) (by kernel_rfl) ?_
    refine Fre.made_skip (by kernel_rfl) (by kernel_rfl) (by kernel_rfl) ?_
    refine Fre.made_skip (by kernel_rfl) (by kernel_rfl) (by kernel_rfl) ?_
    refine Fre.made_skip (by kernel_rfl) (by kernel_rfl) (by kernel_rfl) ?_
    refine Fre.made_skip (by kernel_rfl) (by kernel_rfl) (by kernel_rfl) ?_
    refine Fre.made_skip (by kernel_rfl) (by kernel_rfl) (by kernel_rfl) ?_
    refine Fre.made_skip (by kernel_rfl) (by kernel_rfl) (by kernel_rfl) ?_
    refine Fre.made_skip (by kernel_rfl) (by kernel_rfl) (by kernel_rfl) ?_
    refine Fre.made_skip (by kernel_rfl) (by kernel_rfl) (by kernel_rfl) ?_
    show ∀ w', _ → _
    intro w3 hb3
    simp only [Fre.ended]
    have hb3 : Below w2.heap.size w2 w3 := hb3
    have H3 := hide (H2.out.2.2.trans (Below.mono hb3 H2.out.2.2.size))
    clear hb3
    go_wp2_with fail
    go_ret
    refine ⟨?_, H3.out⟩
    unfold confB
    simp [h1]
  · have n1 : ¬ (1 : Int) < ((hereL S h).length : Int) := by omega
    by_cases h2 : (hereL S h).length = 1
    · have n2 : ((hereL S h).length : Int) = 1 := by omega
      refine Fre.wp_made (X := Blw) 14 [] (by kernel_rfl) (by kernel_rfl) (by simp) (by simp) (by simp) ?_
      simp only [List.take_succ_cons, List.take_zero, List.drop_succ_cons, List.drop_zero]
      refine Fre.made_val (.int .i64 ((hereL S h).length : Int)) (by kernel_rfl) (by kernel_rfl) (by kernel_rfl) (fun _ _ => by kernel_rfl) ?_
      simp only [Act.put, List.setIfInBounds_toArray, List.set_cons_zero, List.set_cons_succ]
      refine Fre.made_val (.bool false) (by kernel_rfl) (by kernel_rfl) (by kernel_rfl) (fun W9 hW9 => ?hs2) ?_
      case hs2 =>
        go_simp
      simp only [Act.put, List.setIfInBounds_toArray, List.set_cons_zero, List.set_cons_succ]
      refine Fre.made_val (.bool false) (by kernel_rfl) (by kernel_rfl) (by kernel_rfl) (fun _ _ => by kernel_rfl) ?_
      simp only [Act.put, List.setIfInBounds_toArray, List.set_cons_zero, List.set_cons_succ]
      refine Fre.made_val (.int .i64 ((hereL S h).length : Int)) (by kernel_rfl) (by kernel_rfl) (by kernel_rfl) (fun _ _ => by kernel_rfl) ?_
      simp only [Act.put, List.setIfInBounds_toArray, List.set_cons_zero, List.set_cons_succ]
      refine Fre.made_val (.bool true) (by kernel_rfl) (by kernel_rfl) (by kernel_rfl) (fun W9 hW9 => ?hs3) ?_
      case hs3 =>
        go_simp
      simp only [Act.put, List.setIfInBounds_toArray, List.set_cons_zero, List.set_cons_succ]
      refine Fre.made_val (.bool true) (by kernel_rfl) (by kernel_rfl) (by kernel_rfl) (fun _ _ => by kernel_rfl) ?_
      simp only [Act.put, List.setIfInBounds_toArray, List.set_cons_zero, List.set_cons_succ]
      refine Fre.made_val (.agg (bv h).toArray) (by kernel_rfl) (by kernel_rfl) (by kernel_rfl) (fun W9 hW9 => exec_load_blk (o := ⟨some 19, _, _, _, _, _⟩) 23 (.tmp 3) rfl w.heap.size rfl 23 _ _ W9 (H2.out.2.1.below (blw hW9) H2.out.2.1.lt) Try.underlying23 rfl (hsz hh)) ?_
      simp only [Act.put, List.setIfInBounds_toArray, List.set_cons_zero, List.set_cons_succ]
      refine Fre.made_val (.pointer (some ⟨s, 0, none⟩)) (by kernel_rfl) (by kernel_rfl) (by kernel_rfl) (fun _ _ => by kernel_rfl) ?_
      simp only [Act.put, List.setIfInBounds_toArray, List.set_cons_zero, List.set_cons_succ]
      refine Fre.made_val (.pointer (some ⟨s, 0, none⟩)) (by kernel_rfl) (by kernel_rfl) (by kernel_rfl) (fun _ _ => by kernel_rfl) ?_
      simp only [Act.put, List.setIfInBounds_toArray, List.set_cons_zero, List.set_cons_succ]
      refine Fre.made_val (.pointer (some ⟨s, 0, none⟩)) (by kernel_rfl) (by kernel_rfl) (by kernel_rfl) (fun _ _ => by kernel_rfl) ?_
      simp only [Act.put, List.setIfInBounds_toArray, List.set_cons_zero, List.set_cons_succ]
      refine Fre.made_val (.pointer (some ⟨s, 0, none⟩)) (by kernel_rfl) (by kernel_rfl) (by kernel_rfl) (fun _ _ => by kernel_rfl) ?_
      simp only [Act.put, List.setIfInBounds_toArray, List.set_cons_zero, List.set_cons_succ]
      refine Fre.made_val (.agg (bv c.own).toArray) (by kernel_rfl) (by kernel_rfl) (by kernel_rfl) (fun W9 hW9 => exec_load_mid (o := ⟨some 24, _, _, _, _, _⟩) 23 (.tmp 23) rfl s 0 rfl (bv c.own) _ W9 (H2.out.1.below (blw hW9)).cells.1 Try.underlying23 rfl (by have := hsz H2.out.1.own; simpa using this)) ?_
      simp only [Act.put, List.setIfInBounds_toArray, List.set_cons_zero, List.set_cons_succ]
      refine Fre.made_val (.bool (decide (h = c.own))) (by kernel_rfl) (by kernel_rfl) (by kernel_rfl) (fun W9 hW9 => exec_binop_agg (o := ⟨some 25, _, _, _, _, _⟩) .eql 23 (.tmp 19) (.tmp 24) 23 rfl (bv h).toArray (bv c.own).toArray rfl rfl (by kernel_rfl) _ (fun W => bin_eq_hash h c.own hh H2.out.1.own W) W9) ?_
      simp only [Act.put, List.setIfInBounds_toArray, List.set_cons_zero, List.set_cons_succ]
      refine Fre.made_val (.bool (decide (h = c.own))) (by kernel_rfl) (by kernel_rfl) (by kernel_rfl) (fun _ _ => by kernel_rfl) ?_
      simp only [Act.put, List.setIfInBounds_toArray, List.set_cons_zero, List.set_cons_succ]
      show ∀ w', _ → _
      intro w3 hb3
      simp only [Fre.ended]
      have hb3 : Below w2.heap.size w2 w3 := hb3
      have H3 := hide (H2.out.2.2.trans (Below.mono hb3 H2.out.2.2.size))
      clear hb3
      go_wp2_with fail
      go_ret
      refine ⟨?_, H3.out⟩
      unfold confB
      simp
    · have n2 : ¬ ((hereL S h).length : Int) = 1 := by omega
      refine Fre.wp_made (X := Blw) 14 [] (by kernel_rfl) (by kernel_rfl) (by simp) (by simp) (by simp) ?_
      simp only [List.take_succ_cons, List.take_zero, List.drop_succ_cons, List.drop_zero]
      refine Fre.made_val (.int .i64 ((hereL S h).length : Int)) (by kernel_rfl) (by kernel_rfl) (by kernel_rfl) (fun _ _ => by kernel_rfl) ?_
      simp only [Act.put, List.setIfInBounds_toArray, List.set_cons_zero, List.set_cons_succ]
      refine Fre.made_val (.bool false) (by kernel_rfl) (by kernel_rfl) (by kernel_rfl) (fun W9 hW9 => ?hs4) ?_
      case hs4 =>
        go_simp
      simp only [Act.put, List.setIfInBounds_toArray, List.set_cons_zero, List.set_cons_succ]
      refine Fre.made_val (.bool false) (by kernel_rfl) (by kernel_rfl) (by kernel_rfl) (fun _ _ => by kernel_rfl) ?_
      simp only [Act.put, List.setIfInBounds_toArray, List.set_cons_zero, List.set_cons_succ]
      refine Fre.made_val (.int .i64 ((hereL S h).length : Int)) (by kernel_rfl) (by kernel_rfl) (by kernel_rfl) (fun _ _ => by kernel_rfl) ?_
      simp only [Act.put, List.setIfInBounds_toArray, List.set_cons_zero, List.set_cons_succ]
      refine Fre.made_val (.bool false) (by kernel_rfl) (by kernel_rfl) (by kernel_rfl) (fun W9 hW9 => ?hs5) ?_
      case hs5 =>
        go_simp
      simp only [Act.put, List.setIfInBounds_toArray, List.set_cons_zero, List.set_cons_succ]
      refine Fre.made_val (.bool false) (by kernel_rfl) (by kernel_rfl) (by kernel_rfl) (fun _ _ => by kernel_rfl) ?_
      simp only [Act.put, List.setIfInBounds_toArray, List.set_cons_zero, List.set_cons_succ]
      refine Fre.made_skip (by kernel_rfl) (by kernel_rfl) (by kernel_rfl) ?_
      refine Fre.made_skip (by kernel_rfl) (by kernel_rfl) (by kernel_rfl) ?_
      refine Fre.made_skip (by kernel_rfl) (by kernel_rfl) (by kernel_rfl) ?_
      refine Fre.made_skip (by kernel_rfl) (by kernel_rfl) (by kernel_rfl) ?_
      refine Fre.made_skip (by kernel_rfl) (by kernel_rfl) (by kernel_rfl) ?_
      refine Fre.made_skip (by kernel_rfl) (by kernel_rfl) (by kernel_rfl) ?_
      refine Fre.made_skip (by kernel_rfl) (by kernel_rfl) (by kernel_rfl) ?_
      refine Fre.made_val (.bool false) (by kernel_rfl) (by kernel_rfl) (by kernel_rfl) (fun _ _ => by kernel_rfl) ?_
      simp only [Act.put, List.setIfInBounds_toArray, List.set_cons_zero, List.set_cons_succ]
      show ∀ w', _ → _
      intro w3 hb3
      simp only [Fre.ended]
      have hb3 : Below w2.heap.size w2 w3 := hb3
      have H3 := hide (H2.out.2.2.trans (Below.mono hb3 H2.out.2.2.size))
      clear hb3
      go_wp2_with fail
      go_ret
      refine ⟨?_, H3.out⟩
      unfold confB
      simp [h1, h2]
end Go.Proofs.Ytfppddnfdinipaa
