/- spencelaw07: BlobWrites tells true of whatever puts. -/
import Derived.Test.YtajeohmmobgcjaaMBlobWrites
namespace Go.Proofs.Ytajeohmmobgcjaa
open Go Go.RowKit
set_option maxRecDepth 100000
theorem secs_ge (l a d : Int) : 0 ≤ secs l a d := by
  unfold secs
  split
  · rename_i h
    have h1 := h.1
    have h2 := h.2.1
    have h3 := h.2.2
    unfold inW at h1 h2 h3
    omega
  · omega
theorem load_leC (ls : List Put) (C : Nat) (h : ∀ p ∈ ls, p.b.length + 10 * p.rs.length ≤ C) : ∀ k, load (ls.take k) ≤ k * C
  | 0 => by simp [load]
  | k + 1 => by
    have h1 := load_leC ls C h k
    rw [Nat.succ_mul]
    cases hp : ls[k]? with
    | none =>
      have h2 : ls.length ≤ k := List.getElem?_eq_none_iff.1 hp
      rw [List.take_of_length_le (by omega)] at h1
      rw [List.take_of_length_le (by omega)]
      omega
    | some p =>
      have h3 := load_take ls k p hp
      have h4 := h p (List.mem_of_getElem? hp)
      omega
theorem load_le (ls : List Put) (h : ∀ p ∈ ls, p.b.length ≤ 140737488355328 ∧ p.rs.length ≤ 140737488355328) (k : Nat) : load (ls.take k) ≤ k * 1548112371908608 :=
  load_leC ls _ (fun p hp => by have := h p hp; omega) k
set_option maxHeartbeats 4000000 in
theorem writes_out (l a d more : Int) (hmr : -9223372036854775808 ≤ more ∧ more ≤ 9223372036854775807) (ls : List Put) (hln : ls.length ≤ 140737488355328) (hps : ∀ p ∈ ls, p.b.length ≤ 140737488355328 ∧ p.rs.length ≤ 140737488355328)
    (hbad : ls.length ≤ 60 → load ls ≤ 4000 → secs l a d ≤ 60 → -1 ≤ more ∧ more ≤ 3 → secs l a d + more < 1) (v : Value) (w : World) (hv : PutsM w w.heap.size v ls) :
    Calls Try.prog 10 #[.agg #[.int .i64 l, .int .i64 a, .int .i64 d], .int .i64 more, v] w fun e w' => e = .returned (.bool true) ∧ Below w.heap.size w w' := by
  obtain ⟨Ap, cp, rfl, hrest⟩ := id hv
  obtain ⟨w0, hw0⟩ : ∃ w0, w0 = w.alloc (.cells #[.int .i64 l, .int .i64 a, .int .i64 d] 23) := ⟨_, rfl⟩
  have hb0 : Below w.heap.size w w0 := by rw [hw0]; exact (Below.refl _ w).alloc (Nat.le_refl _) _
  have hsh : Blk w0 w.heap.size 23 #[.int .i64 l, .int .i64 a, .int .i64 d] := by rw [hw0]; exact Blk.new _ _ _
  have hs0 : w0.heap.size = w.heap.size + 1 := by rw [hw0, size_alloc]
  have HV := hide (And.intro hv (And.intro hb0 (And.intro hsh hs0)))
  have HLD := hide (load_le ls hps)
  clear hrest hv hb0 hsh hs0 hps
  go_enter Try.func10, Try.ntmps10
  go_wp2_with fail
  rw [← hw0]
  have HW0 := hide hw0
  clear hw0
  go_loopw [7, 8] (fun m x wr => ∃ k : Nat, k ≤ ls.length ∧ k ≤ 60 ∧ x = .int .i64 (k : Int) ∧ m = .int .i64 ((load (ls.take k) : Nat) : Int) ∧ Below w0.heap.size w0 wr) (fun _ x _ => ls.length - (intOf x).toNat)
  case atStart => exact ⟨0, by omega, by omega, rfl, rfl, Below.refl _ _⟩
  case round =>
    obtain ⟨k, hk, hk60, rfl, rfl, hb⟩ := hrel
    have HB := hide hb
    have n2 : (0 : Int) ≤ (k : Int) := by omega
    have n5 : (k : Int) ≤ 60 := by omega
    have hml := HLD.out k
    have p0 : (0 : Int) ≤ ((load (ls.take k) : Nat) : Int) := by omega
    have p1 : ((load (ls.take k) : Nat) : Int) ≤ 92886742314516480 := by omega
    clear hb hml
    by_cases hk2 : k < ls.length
    · have n1 : (k : Int) < (ls.length : Int) := by omega
      by_cases hk3 : k < 60
      · have n3 : (k : Int) < 60 := by omega
        obtain ⟨p, hp⟩ : ∃ p, ls[k]? = some p := ⟨_, List.getElem?_eq_getElem hk2⟩
        obtain ⟨A', c', hvv, _, hA⟩ := HV.out.1
        injection hvv with e1 _ e2
        subst e1 e2
        obtain ⟨bb, off, rfl, hbb, hcs⟩ := hA (by omega)
        have hpc := (hcs k p hp).alike hbb fun j hj => ((HB.out.block j (by have := HV.out.2.2.2; omega)).trans (HV.out.2.1.block j hj))
        obtain ⟨Ab, cb, q0, _, _⟩ := hpc.c0
        obtain ⟨Ar, cr, q1, _⟩ := hpc.c1
        have hbl : bb < wr.heap.size := World.block_lt_of_cell? wr _ q0
        have hlt2 := load_take ls k p hp
        have hlg := HLD.out (k + 1)
        rw [hlt2] at hlg
        have p2 : (0 : Int) ≤ (p.b.length : Int) := by omega
        have p3 : (p.b.length : Int) ≤ 94434854686425088 := by omega
        have p4 : (0 : Int) ≤ (p.rs.length : Int) := by omega
        have p5 : (p.rs.length : Int) ≤ 94434854686425088 := by omega
        have HL := hide hlt2
        generalize load (ls.take k) = M at p0 p1 HL ⊢
        clear hpc hcs hA hp hlt2 hlg
        go_wp2_with fail
        go_quiet (fail)
        go_wp2_with fail
        refine ⟨⟨k + 1, by omega, by omega, by go_num, ?_, below_drewN HB.out _⟩, by simp [intOf]; omega⟩
        rw [HL.out]
        congr 1
        omega
      · obtain rfl : k = 60 := by omega
        have n4 : (60 : Int) < (ls.length : Int) := by omega
        generalize load (ls.take 60) = M at p0 p1
        go_wp2_with fail
        refine (awake7_any _).mono ?_
        rintro e w9 ⟨rfl, hb9⟩
        have H9 := hide (HB.out.next hb9)
        clear hb9
        dsimp only
        go_wp2_with fail
        go_ret
        exact ⟨rfl, HV.out.2.1.trans (Below.mono H9.out (by have := HV.out.2.2.2; omega))⟩
    · obtain rfl : k = ls.length := by omega
      have n1 : ¬ ((ls.length : Nat) : Int) < (ls.length : Int) := by omega
      have p7 : ¬ (60 : Int) < (ls.length : Int) := by omega
      rw [List.take_length] at p0 p1 ⊢
      generalize load ls = M at p0 p1 hbad ⊢
      by_cases hM : 4000 < M
      · have q0 : (4000 : Int) < (M : Int) := by omega
        go_wp2_with fail
        refine (awake7_any _).mono ?_
        rintro e w9 ⟨rfl, hb9⟩
        have H9 := hide (HB.out.next hb9)
        clear hb9
        dsimp only
        go_wp2_with fail
        go_ret
        exact ⟨rfl, HV.out.2.1.trans (Below.mono H9.out (by have := HV.out.2.2.2; omega))⟩
      · have q0 : ¬ (4000 : Int) < (M : Int) := by omega
        have hsh := HV.out.2.2.1.below HB.out HV.out.2.2.1.lt
        have c0 := hsh.cell 0
        have c1 := hsh.cell 1
        have c2 := hsh.cell 2
        have hlt := hsh.lt
        clear hsh
        go_wp2_with fail
        refine (rsecs_any l a d _).mono ?_
        rintro e w1 ⟨rfl, hb1⟩
        have H1 := hide (HB.out.next hb1)
        clear hb1
        clear c0 c1 c2 hlt
        dsimp only
        by_cases hs1 : 60 < secs l a d
        · go_wp2_with fail
          refine (awake7_any _).mono ?_
          rintro e w9 ⟨rfl, hb9⟩
          have H9 := hide (H1.out.next hb9)
          clear hb9
          dsimp only
          go_wp2_with fail
          go_ret
          exact ⟨rfl, HV.out.2.1.trans (Below.mono H9.out (by have := HV.out.2.2.2; omega))⟩
        · by_cases hs2 : more < -1
          · go_wp2_with fail
            refine (awake7_any _).mono ?_
            rintro e w9 ⟨rfl, hb9⟩
            have H9 := hide (H1.out.next hb9)
            clear hb9
            dsimp only
            go_wp2_with fail
            go_ret
            exact ⟨rfl, HV.out.2.1.trans (Below.mono H9.out (by have := HV.out.2.2.2; omega))⟩
          · by_cases hs3 : 3 < more
            · go_wp2_with fail
              refine (awake7_any _).mono ?_
              rintro e w9 ⟨rfl, hb9⟩
              have H9 := hide (H1.out.next hb9)
              clear hb9
              dsimp only
              go_wp2_with fail
              go_ret
              exact ⟨rfl, HV.out.2.1.trans (Below.mono H9.out (by have := HV.out.2.2.2; omega))⟩
            · have HBAD := hide (hbad (by omega) (by omega) (by omega) ⟨by omega, by omega⟩)
              have hs4 := secs_ge l a d
              have hs5 : -9223372036854775808 ≤ secs l a d + more ∧ secs l a d + more ≤ 9223372036854775807 := by omega
              have hsh := HV.out.2.2.1.below H1.out HV.out.2.2.1.lt
              have c0 := hsh.cell 0
              have c1 := hsh.cell 1
              have c2 := hsh.cell 2
              have hlt := hsh.lt
              clear hsh
              go_wp2_with fail
              refine (rsecs_any l a d _).mono ?_
              rintro e w2 ⟨rfl, hb2⟩
              have H2 := hide (H1.out.next hb2)
              clear hb2
              clear c0 c1 c2 hlt
              dsimp only
              go_wp2_with fail
              refine (new_bad (secs l a d + more) (by have := HBAD.out; omega) w2).mono ?_
              rintro e w3 ⟨rfl, rfl⟩
              have hsh := HV.out.2.2.1.below H2.out HV.out.2.2.1.lt
              have c0 := hsh.cell 0
              have c1 := hsh.cell 1
              have c2 := hsh.cell 2
              have hlt := hsh.lt
              clear hsh
              dsimp only
              go_wp2_with fail
              refine (rsecs_any l a d _).mono ?_
              rintro e w4 ⟨rfl, hb4⟩
              have H4 := hide (H2.out.next hb4)
              clear hb4
              clear c0 c1 c2 hlt
              dsimp only
              go_wp2_with fail
              refine (rnew_bad (secs l a d + more) (by have := HBAD.out; omega) w4).mono ?_
              rintro e w5 ⟨rfl, rfl⟩
              dsimp only
              go_wp2_with fail
              refine (awake7_any _).mono ?_
              rintro e w9 ⟨rfl, hb9⟩
              have H9 := hide (H4.out.next hb9)
              clear hb9
              dsimp only
              go_wp2_with fail
              go_ret
              exact ⟨rfl, HV.out.2.1.trans (Below.mono H9.out (by have := HV.out.2.2.2; omega))⟩
theorem writes_any (l a d more : Int) (hmr : -9223372036854775808 ≤ more ∧ more ≤ 9223372036854775807) (ls : List Put) (hln : ls.length ≤ 140737488355328) (hps : ∀ p ∈ ls, p.b.length ≤ 140737488355328 ∧ p.rs.length ≤ 140737488355328) (v : Value) (w : World) (hv : PutsM w w.heap.size v ls) :
    Calls Try.prog 10 #[.agg #[.int .i64 l, .int .i64 a, .int .i64 d], .int .i64 more, v] w fun e w' => e = .returned (.bool true) ∧ Below w.heap.size w w' := by
  by_cases h : ls.length ≤ 60 ∧ load ls ≤ 4000 ∧ secs l a d ≤ 60 ∧ (-1 ≤ more ∧ more ≤ 3) ∧ 1 ≤ secs l a d + more
  · exact writes_in l a d more h.2.2.2.1 ls h.1 h.2.1 h.2.2.1 h.2.2.2.2 v w hv
  · exact writes_out l a d more hmr ls hln hps (fun h1 h2 h3 h4 => by
      by_cases h5 : 1 ≤ secs l a d + more
      · exact absurd ⟨h1, h2, h3, h4, h5⟩ h
      · omega) v w hv
end Go.Proofs.Ytajeohmmobgcjaa
