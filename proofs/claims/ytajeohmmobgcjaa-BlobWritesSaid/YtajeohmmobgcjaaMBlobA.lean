/- package blob: suits. -/
import Derived.Test.YtajeohmmobgcjaaMDevJ
import Derived.Test.YtajeohmmobgcjaaMDevDo
import Derived.Test.YtajeohmmobgcjaaMFindLaw
import Derived.Test.YtajeohmmobgcjaaMMade
namespace Go.Proofs.Ytajeohmmobgcjaa
open Go Go.RowKit
set_option maxRecDepth 100000
theorem field_stat (a b c : Int) (d : Bool) (w : World) : (Instr.field 58 (.agg #[.int .i64 a, .int .i64 b, .int .i64 c, .bool d]) 0).run Try.prog w = .ok (.int .i64 a) w := by kernel_rfl
/-- what suits tells: K: the device's sectors -/
def suitsE (K : Nat) (l a d n : Int) (rs : List Run) : Int := if apartP l a d rs ∧ 0 ≤ n ∧ ((pos rs).length : Int) = needP n ∧ secs l a d ≤ (K : Int) then 0 else 2
set_option maxHeartbeats 2000000 in
theorem suits_any {D : Dv} {F : Nat → Prop} {q : Nat} (l a d : Int) (h64 : rightP l a d → d ≤ 64) (n : Int) (hn : -9223372036854775808 ≤ n ∧ n ≤ 9223372036854775807) (v : Value) (rs : List Run) (hlen : rs.length ≤ 1000000) (w : World) (hrs : RunsM w w.heap.size v rs) (hd : DevAt w F q D) :
    Calls Try.prog 72 #[.pointer (some ⟨q, 0, none⟩), .agg #[.int .i64 l, .int .i64 a, .int .i64 d], .int .i64 n, v] w fun e w' => e = .returned (.int .i64 (suitsE D.kept.length l a d n rs)) ∧ Below w.heap.size w w' := by
  have hk1 : 1 ≤ D.kept.length := by obtain ⟨_, _, _, _, _, _, _, hok⟩ := hd; exact hok.n1
  have hk2 : D.kept.length ≤ 8192 := by obtain ⟨_, _, _, _, _, _, _, hok⟩ := hd; exact hok.n2
  obtain ⟨S, hS⟩ : ∃ S, S = w.heap.size := ⟨_, rfl⟩
  have hb0 : Below w.heap.size w (w.alloc (.cells #[.int .i64 l, .int .i64 a, .int .i64 d] 23)) := (Below.refl _ w).alloc (Nat.le_refl _) _
  have H0 := hide (And.intro hrs (hd.keep fun k hk _ => hb0.block k hk))
  have HN := hide hn
  have h64' := hide h64
  clear hrs hd hn h64 hb0
  go_enter Try.func72, Try.ntmps72
  go_wp2_with fail
  refine (statDev_any _ H0.out.2).mono ?_
  rintro e w1 ⟨rfl, hb1⟩
  have hbw : Below w.heap.size w w1 := ((Below.refl _ w).alloc (Nat.le_refl _) (.cells #[.int .i64 l, .int .i64 a, .int .i64 d] 23)).next hb1
  have hsh : Blk w1 w.heap.size 23 #[.int .i64 l, .int .i64 a, .int .i64 d] := (Blk.new w _ _).below hb1 (by rw [size_alloc]; omega)
  rw [← hS] at hsh ⊢
  have c0 := hsh.cell 0
  have c1 := hsh.cell 1
  have c2 := hsh.cell 2
  have hlt := hsh.lt
  have H1 := hide (And.intro hsh (And.intro hbw (H0.out.1.below hbw)))
  have HSS := hide hS
  clear hb1 hbw hsh H0 hS
  have hfs := field_stat (D.kept.length : Int) (D.pend.length : Int) D.de D.dn
  generalize hK : D.kept.length = K at hk1 hk2 hfs ⊢
  have HK := hide hK
  clear hK
  have q1 : ¬ (K : Int) = 0 := by omega
  have q2 : (0 : Int) < (K : Int) := by omega
  dsimp only
  go_wp2_with fail
  refine (made_all l a d h64'.out v rs hlen _ H1.out.2.2).mono ?_
  rintro e w2 ⟨hb2, h⟩
  have HB : Hid (Below w.heap.size w w2) := hide (H1.out.2.1.next hb2)
  have hsh2 := H1.out.1.below hb2 H1.out.1.lt
  clear hb2 c0 c1 c2 hlt H1
  rcases h with ⟨g, b, m, rfl, _, _, hF, _, hap⟩ | ⟨rfl, hap⟩
  · have HS := hide (And.intro hF hsh2)
    have c2 := hF.blk.cell 2
    have hlt := hF.blk.lt
    clear hF hsh2
    dsimp only
    by_cases hn0 : 0 ≤ n
    · have n1 : ¬ n < 0 := by omega
      by_cases hne : needP n = ((pos rs).length : Int)
      · go_wp2_with fail
        by_cases hsec : secs l a d ≤ (K : Int)
        · have n2 : ¬ (K : Int) < secs l a d := by omega
          have hE : suitsE K l a d n rs = 0 := if_pos ⟨hap, hn0, hne.symm, hsec⟩
          clear hap
          refine wp_made 20 [] (by kernel_rfl) (by kernel_rfl) (by intro p hp; cases hp) List.nodup_nil (by intro t ht; cases ht) ?_
          simp only [List.take_succ_cons, List.take_zero, List.drop_succ_cons, List.drop_zero]
          refine made_val (.pointer (some ⟨g, 0, none⟩)) (by kernel_rfl) (by kernel_rfl) (by kernel_rfl) (fun _ _ => by kernel_rfl) ?_
          simp only [Act.put, List.setIfInBounds_toArray, List.set_cons_zero, List.set_cons_succ]
          refine made_val (.bool false) (by kernel_rfl) (by kernel_rfl) (by kernel_rfl) (fun _ _ => by kernel_rfl) ?_
          simp only [Act.put, List.setIfInBounds_toArray, List.set_cons_zero, List.set_cons_succ]
          refine made_val (.bool false) (by kernel_rfl) (by kernel_rfl) (by kernel_rfl) (fun _ _ => by kernel_rfl) ?_
          simp only [Act.put, List.setIfInBounds_toArray, List.set_cons_zero, List.set_cons_succ]
          refine made_val (.int .i64 n) (by kernel_rfl) (by kernel_rfl) (by kernel_rfl) (fun _ _ => by kernel_rfl) ?_
          simp only [Act.put, List.setIfInBounds_toArray, List.set_cons_zero, List.set_cons_succ]
          refine made_val (.bool false) (by kernel_rfl) (by kernel_rfl) (by kernel_rfl) (fun W hW => ?hs1) ?_
          case hs1 => go_simp
          simp only [Act.put, List.setIfInBounds_toArray, List.set_cons_zero, List.set_cons_succ]
          refine made_val (.bool false) (by kernel_rfl) (by kernel_rfl) (by kernel_rfl) (fun _ _ => by kernel_rfl) ?_
          simp only [Act.put, List.setIfInBounds_toArray, List.set_cons_zero, List.set_cons_succ]
          refine made_val (.bool false) (by kernel_rfl) (by kernel_rfl) (by kernel_rfl) (fun _ _ => by kernel_rfl) ?_
          simp only [Act.put, List.setIfInBounds_toArray, List.set_cons_zero, List.set_cons_succ]
          refine made_val (.pointer (some ⟨g, 0, none⟩)) (by kernel_rfl) (by kernel_rfl) (by kernel_rfl) (fun _ _ => by kernel_rfl) ?_
          simp only [Act.put, List.setIfInBounds_toArray, List.set_cons_zero, List.set_cons_succ]
          refine made_val (.pointer (some ⟨g, 0, none⟩)) (by kernel_rfl) (by kernel_rfl) (by kernel_rfl) (fun _ _ => by kernel_rfl) ?_
          simp only [Act.put, List.setIfInBounds_toArray, List.set_cons_zero, List.set_cons_succ]
          refine made_val (.pointer (some ⟨g, 2, none⟩)) (by kernel_rfl) (by kernel_rfl) (by kernel_rfl) (fun _ _ => by kernel_rfl) ?_
          simp only [Act.put, List.setIfInBounds_toArray, List.set_cons_zero, List.set_cons_succ]
          refine made_val (.int .i64 ((pos rs).length : Int)) (by kernel_rfl) (by kernel_rfl) (by kernel_rfl) (fun W hW => exec_load_cell (o := ⟨some 29, _, _, _, _, _⟩) 3 (.tmp 28) rfl ⟨g, 2, none⟩ rfl _ _ W Try.underlying3 rfl ((HS.out.1.blk.below hW HS.out.1.blk.lt).cell 2)) ?_
          simp only [Act.put, List.setIfInBounds_toArray, List.set_cons_zero, List.set_cons_succ]
          refine made_val (.int .i64 n) (by kernel_rfl) (by kernel_rfl) (by kernel_rfl) (fun _ _ => by kernel_rfl) ?_
          simp only [Act.put, List.setIfInBounds_toArray, List.set_cons_zero, List.set_cons_succ]
          refine made_call (.int .i64 ((pos rs).length : Int)) 18 #[.int .i64 n] (by kernel_rfl) (by kernel_rfl) (by kernel_rfl) (fun W => by kernel_rfl) (fun W hW => (need_any n HN.out W).mono fun e w' ⟨h1, h2⟩ => ⟨by rw [h1, hne], by rw [h2]; exact Below.refl _ _⟩) ?_
          simp only [Act.put, List.setIfInBounds_toArray, List.set_cons_zero, List.set_cons_succ]
          refine made_val (.bool false) (by kernel_rfl) (by kernel_rfl) (by kernel_rfl) (fun W hW => ?hs2) ?_
          case hs2 => go_simp
          simp only [Act.put, List.setIfInBounds_toArray, List.set_cons_zero, List.set_cons_succ]
          refine made_val (.bool false) (by kernel_rfl) (by kernel_rfl) (by kernel_rfl) (fun _ _ => by kernel_rfl) ?_
          simp only [Act.put, List.setIfInBounds_toArray, List.set_cons_zero, List.set_cons_succ]
          refine made_val (.bool false) (by kernel_rfl) (by kernel_rfl) (by kernel_rfl) (fun _ _ => by kernel_rfl) ?_
          simp only [Act.put, List.setIfInBounds_toArray, List.set_cons_zero, List.set_cons_succ]
          refine made_val (.int .i64 (K : Int)) (by kernel_rfl) (by kernel_rfl) (by kernel_rfl) (fun _ _ => by kernel_rfl) ?_
          simp only [Act.put, List.setIfInBounds_toArray, List.set_cons_zero, List.set_cons_succ]
          refine made_val (.agg #[.int .i64 l, .int .i64 a, .int .i64 d]) (by kernel_rfl) (by kernel_rfl) (by kernel_rfl) (fun W hW => exec_load_blk (o := ⟨some 36, _, _, _, _, _⟩) 23 (.tmp 5) rfl S rfl 23 _ _ W (HS.out.2.below hW HS.out.2.lt) Try.underlying23 rfl (by kernel_rfl)) ?_
          simp only [Act.put, List.setIfInBounds_toArray, List.set_cons_zero, List.set_cons_succ]
          refine made_call (.int .i64 (secs l a d)) 23 #[.agg #[.int .i64 l, .int .i64 a, .int .i64 d]] (by kernel_rfl) (by kernel_rfl) (by kernel_rfl) (fun W => by kernel_rfl) (fun W hW => lsecs_any l a d W) ?_
          simp only [Act.put, List.setIfInBounds_toArray, List.set_cons_zero, List.set_cons_succ]
          refine made_val (.bool false) (by kernel_rfl) (by kernel_rfl) (by kernel_rfl) (fun W hW => ?hs3) ?_
          case hs3 => go_simp
          simp only [Act.put, List.setIfInBounds_toArray, List.set_cons_zero, List.set_cons_succ]
          show ∀ w', _ → _
          intro w5 hb5
          simp only [ended]
          have H5 := hide (HB.out.next hb5)
          clear hb5
          go_wp2_with fail
          go_ret
          rw [HK.out, hE]
          exact ⟨rfl, H5.out⟩
        · have n2 : (K : Int) < secs l a d := by omega
          have hE : suitsE K l a d n rs = 2 := if_neg fun h => hsec h.2.2.2
          clear hap
          refine wp_made 20 [] (by kernel_rfl) (by kernel_rfl) (by intro p hp; cases hp) List.nodup_nil (by intro t ht; cases ht) ?_
          simp only [List.take_succ_cons, List.take_zero, List.drop_succ_cons, List.drop_zero]
          refine made_val (.pointer (some ⟨g, 0, none⟩)) (by kernel_rfl) (by kernel_rfl) (by kernel_rfl) (fun _ _ => by kernel_rfl) ?_
          simp only [Act.put, List.setIfInBounds_toArray, List.set_cons_zero, List.set_cons_succ]
          refine made_val (.bool false) (by kernel_rfl) (by kernel_rfl) (by kernel_rfl) (fun _ _ => by kernel_rfl) ?_
          simp only [Act.put, List.setIfInBounds_toArray, List.set_cons_zero, List.set_cons_succ]
          refine made_val (.bool false) (by kernel_rfl) (by kernel_rfl) (by kernel_rfl) (fun _ _ => by kernel_rfl) ?_
          simp only [Act.put, List.setIfInBounds_toArray, List.set_cons_zero, List.set_cons_succ]
          refine made_val (.int .i64 n) (by kernel_rfl) (by kernel_rfl) (by kernel_rfl) (fun _ _ => by kernel_rfl) ?_
          simp only [Act.put, List.setIfInBounds_toArray, List.set_cons_zero, List.set_cons_succ]
          refine made_val (.bool false) (by kernel_rfl) (by kernel_rfl) (by kernel_rfl) (fun W hW => ?hs1) ?_
          case hs1 => go_simp
          simp only [Act.put, List.setIfInBounds_toArray, List.set_cons_zero, List.set_cons_succ]
          refine made_val (.bool false) (by kernel_rfl) (by kernel_rfl) (by kernel_rfl) (fun _ _ => by kernel_rfl) ?_
          simp only [Act.put, List.setIfInBounds_toArray, List.set_cons_zero, List.set_cons_succ]
          refine made_val (.bool false) (by kernel_rfl) (by kernel_rfl) (by kernel_rfl) (fun _ _ => by kernel_rfl) ?_
          simp only [Act.put, List.setIfInBounds_toArray, List.set_cons_zero, List.set_cons_succ]
          refine made_val (.pointer (some ⟨g, 0, none⟩)) (by kernel_rfl) (by kernel_rfl) (by kernel_rfl) (fun _ _ => by kernel_rfl) ?_
          simp only [Act.put, List.setIfInBounds_toArray, List.set_cons_zero, List.set_cons_succ]
          refine made_val (.pointer (some ⟨g, 0, none⟩)) (by kernel_rfl) (by kernel_rfl) (by kernel_rfl) (fun _ _ => by kernel_rfl) ?_
          simp only [Act.put, List.setIfInBounds_toArray, List.set_cons_zero, List.set_cons_succ]
          refine made_val (.pointer (some ⟨g, 2, none⟩)) (by kernel_rfl) (by kernel_rfl) (by kernel_rfl) (fun _ _ => by kernel_rfl) ?_
          simp only [Act.put, List.setIfInBounds_toArray, List.set_cons_zero, List.set_cons_succ]
          refine made_val (.int .i64 ((pos rs).length : Int)) (by kernel_rfl) (by kernel_rfl) (by kernel_rfl) (fun W hW => exec_load_cell (o := ⟨some 29, _, _, _, _, _⟩) 3 (.tmp 28) rfl ⟨g, 2, none⟩ rfl _ _ W Try.underlying3 rfl ((HS.out.1.blk.below hW HS.out.1.blk.lt).cell 2)) ?_
          simp only [Act.put, List.setIfInBounds_toArray, List.set_cons_zero, List.set_cons_succ]
          refine made_val (.int .i64 n) (by kernel_rfl) (by kernel_rfl) (by kernel_rfl) (fun _ _ => by kernel_rfl) ?_
          simp only [Act.put, List.setIfInBounds_toArray, List.set_cons_zero, List.set_cons_succ]
          refine made_call (.int .i64 ((pos rs).length : Int)) 18 #[.int .i64 n] (by kernel_rfl) (by kernel_rfl) (by kernel_rfl) (fun W => by kernel_rfl) (fun W hW => (need_any n HN.out W).mono fun e w' ⟨h1, h2⟩ => ⟨by rw [h1, hne], by rw [h2]; exact Below.refl _ _⟩) ?_
          simp only [Act.put, List.setIfInBounds_toArray, List.set_cons_zero, List.set_cons_succ]
          refine made_val (.bool false) (by kernel_rfl) (by kernel_rfl) (by kernel_rfl) (fun W hW => ?hs2) ?_
          case hs2 => go_simp
          simp only [Act.put, List.setIfInBounds_toArray, List.set_cons_zero, List.set_cons_succ]
          refine made_val (.bool false) (by kernel_rfl) (by kernel_rfl) (by kernel_rfl) (fun _ _ => by kernel_rfl) ?_
          simp only [Act.put, List.setIfInBounds_toArray, List.set_cons_zero, List.set_cons_succ]
          refine made_val (.bool false) (by kernel_rfl) (by kernel_rfl) (by kernel_rfl) (fun _ _ => by kernel_rfl) ?_
          simp only [Act.put, List.setIfInBounds_toArray, List.set_cons_zero, List.set_cons_succ]
          refine made_val (.int .i64 (K : Int)) (by kernel_rfl) (by kernel_rfl) (by kernel_rfl) (fun _ _ => by kernel_rfl) ?_
          simp only [Act.put, List.setIfInBounds_toArray, List.set_cons_zero, List.set_cons_succ]
          refine made_val (.agg #[.int .i64 l, .int .i64 a, .int .i64 d]) (by kernel_rfl) (by kernel_rfl) (by kernel_rfl) (fun W hW => exec_load_blk (o := ⟨some 36, _, _, _, _, _⟩) 23 (.tmp 5) rfl S rfl 23 _ _ W (HS.out.2.below hW HS.out.2.lt) Try.underlying23 rfl (by kernel_rfl)) ?_
          simp only [Act.put, List.setIfInBounds_toArray, List.set_cons_zero, List.set_cons_succ]
          refine made_call (.int .i64 (secs l a d)) 23 #[.agg #[.int .i64 l, .int .i64 a, .int .i64 d]] (by kernel_rfl) (by kernel_rfl) (by kernel_rfl) (fun W => by kernel_rfl) (fun W hW => lsecs_any l a d W) ?_
          simp only [Act.put, List.setIfInBounds_toArray, List.set_cons_zero, List.set_cons_succ]
          refine made_val (.bool true) (by kernel_rfl) (by kernel_rfl) (by kernel_rfl) (fun W hW => ?hs3) ?_
          case hs3 => go_simp
          simp only [Act.put, List.setIfInBounds_toArray, List.set_cons_zero, List.set_cons_succ]
          show ∀ w', _ → _
          intro w5 hb5
          simp only [ended]
          have H5 := hide (HB.out.next hb5)
          clear hb5
          go_wp2_with fail
          go_ret
          rw [HK.out, hE]
          exact ⟨rfl, H5.out⟩
      · have hE : suitsE K l a d n rs = 2 := if_neg fun h => hne h.2.2.1.symm
        have n2 : ¬ ((pos rs).length : Int) = needP n := fun h => hne h.symm
        clear hap
        go_wp2_with fail
        go_quiet ((go_at_call 18; exact Calls.quiet_of_same (need_any n HN.out _)))
        go_wp2_with fail
        go_ret
        rw [HK.out, hE]
        exact ⟨rfl, below_drewN HB.out _⟩
    · have hE : suitsE K l a d n rs = 2 := if_neg fun h => hn0 h.2.1
      have n1 : n < 0 := by omega
      clear hap
      go_wp2_with fail
      go_quiet (fail)
      go_wp2_with fail
      go_ret
      rw [HK.out, hE]
      exact ⟨rfl, below_drewN HB.out _⟩
  · have hE : suitsE K l a d n rs = 2 := if_neg fun h => hap h.1
    clear hap hsh2
    dsimp only
    go_wp2_with fail
    go_quiet (fail)
    go_wp2_with fail
    go_ret
    rw [HK.out, hE]
    exact ⟨rfl, below_drewN HB.out _⟩
end Go.Proofs.Ytajeohmmobgcjaa
