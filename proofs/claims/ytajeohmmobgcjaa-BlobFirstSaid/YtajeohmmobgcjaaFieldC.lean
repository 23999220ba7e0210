/- package blob: Need, Apart, Free. -/
import Derived.Test.YtajeohmmobgcjaaFieldB
import Derived.Test.YtajeohmmobgcjaaFindLaw
namespace Go.Proofs.Ytajeohmmobgcjaa
open Go Go.RowKit
set_option maxRecDepth 100000
def needP (n : Int) : Int := if n ≤ 0 then 0 else (n - 1) / 64 + 1
theorem need_any (n : Int) (hn : -9223372036854775808 ≤ n ∧ n ≤ 9223372036854775807) (w : World) : Calls Try.prog 18 #[.int .i64 n] w fun e w' => e = .returned (.int .i64 (needP n)) ∧ w' = w := by
  by_cases h : n ≤ 0
  · rw [needP, if_pos h]
    go_enter Try.func18, Try.ntmps18
    go_wp2
    go_ret
    exact ⟨rfl, rfl⟩
  · rw [needP, if_neg h]
    have u := u64_pos (n - 1) (by omega) (by omega)
    have q1 : 0 ≤ (n - 1) / 64 := by omega
    have q2 : (n - 1) / 64 < 9223372036854775807 := by omega
    go_enter Try.func18, Try.ntmps18
    go_wp2
    go_ret
    exact ⟨rfl, rfl⟩
theorem RunsM.below {w w' : World} {v : Value} {l : List Run} (h : RunsM w w.heap.size v l) (hb : Below w.heap.size w w') : RunsM w' w'.heap.size v l := (h.alike fun k hk => hb.block k hk).widen hb.size
theorem lapart_any (l a d : Int) (h64 : rightP l a d → d ≤ 64) (v : Value) (rs : List Run) (hlen : rs.length ≤ 1000000) (w : World) (hrs : RunsM w w.heap.size v rs) :
    Calls Try.prog 20 #[.agg #[.int .i64 l, .int .i64 a, .int .i64 d], v] w fun e w' => e = .returned (.bool (decide (apartP l a d rs))) ∧ Below w.heap.size w w' := by
  have hal := hrs.below ((Below.refl _ w).alloc (Nat.le_refl _) (.cells #[.int .i64 l, .int .i64 a, .int .i64 d] 23))
  clear hrs
  go_enter Try.func20, Try.ntmps20
  go_wp2_with fail
  refine (made_all l a d h64 v rs hlen _ hal).mono ?_
  rintro e w1 ⟨hb, h⟩
  have hb' : Below w.heap.size w w1 := ((Below.refl _ w).alloc (Nat.le_refl _) _).next hb
  have HB := hide hb'
  clear hb hb'
  rcases h with ⟨g, b, m, rfl, _, _, _, _, hap⟩ | ⟨rfl, hap⟩
  · dsimp only
    go_wp2_with fail
    go_ret
    rw [decide_eq_true hap]
    exact ⟨rfl, HB.out⟩
  · dsimp only
    go_wp2_with fail
    go_ret
    rw [decide_eq_false hap]
    exact ⟨rfl, HB.out⟩
def freeN (l a d : Int) (rs : List Run) : Int := if apartP l a d rs then ((freeTo rs d.toNat).length : Int) else 0
def freeE (l a d : Int) (rs : List Run) : Int := if apartP l a d rs then 0 else 2
theorem apart_count {l a d : Int} {rs : List Run} (h : apartP l a d rs) : (freeTo rs d.toNat).length + (pos rs).length = d.toNat :=
  free_count h.2.2 fun x hx => by have := pos_lt h.2.1 x hx; omega
theorem apart_d {l a d : Int} {rs : List Run} (h : apartP l a d rs) : 1 ≤ d ∧ d ≤ 8192 := h.1.2.2.1
theorem lfree_any (l a d : Int) (h64 : rightP l a d → d ≤ 64) (v : Value) (rs : List Run) (hlen : rs.length ≤ 1000000) (w : World) (hrs : RunsM w w.heap.size v rs) :
    Calls Try.prog 16 #[.agg #[.int .i64 l, .int .i64 a, .int .i64 d], v] w fun e w' => e = .returned (.tuple #[.int .i64 (freeN l a d rs), .int .i64 (freeE l a d rs)]) ∧ Below w.heap.size w w' := by
  have hal := hrs.below ((Below.refl _ w).alloc (Nat.le_refl _) (.cells #[.int .i64 l, .int .i64 a, .int .i64 d] 23))
  clear hrs
  go_enter Try.func16, Try.ntmps16
  go_wp2_with fail
  refine (made_all l a d h64 v rs hlen _ hal).mono ?_
  rintro e w1 ⟨hb, h⟩
  have hb' : Below w.heap.size w w1 := ((Below.refl _ w).alloc (Nat.le_refl _) _).next hb
  have HB := hide hb'
  clear hb hb'
  rcases h with ⟨g, b, m, rfl, _, _, hF, _, hap⟩ | ⟨rfl, hap⟩
  · have hN : freeN l a d rs = (d.toNat : Int) - ((pos rs).length : Int) := by
      have := apart_count hap
      rw [freeN, if_pos hap]
      omega
    have hE : freeE l a d rs = 0 := if_pos hap
    have c1 := hF.blk.cell 1
    have c2 := hF.blk.cell 2
    have hlt := hF.blk.lt
    have hc := apart_count hap
    have hd := apart_d hap
    have n1 : (0 : Int) ≤ (d.toNat : Int) := by omega
    have n2 : (d.toNat : Int) ≤ 8192 := by omega
    have n3 : (0 : Int) ≤ ((pos rs).length : Int) := by omega
    have n4 : ((pos rs).length : Int) ≤ 8192 := by omega
    clear hF hap hc hd
    dsimp only
    go_wp2_with fail
    go_quiet (fail)
    go_wp2_with fail
    refine bodyPost_ret (v := .tuple #[.int .i64 ((d.toNat : Int) - ((pos rs).length : Int)), .int .i64 0]) (by simp [results, Try.f16, go_sem]) rfl ?_
    rw [hN, hE]
    exact ⟨rfl, below_drewN HB.out _⟩
  · have hN : freeN l a d rs = 0 := if_neg hap
    have hE : freeE l a d rs = 2 := if_neg hap
    dsimp only
    go_wp2_with fail
    refine bodyPost_ret (v := .tuple #[.int .i64 0, .int .i64 2]) (by simp [results, Try.f16, go_sem]) rfl ?_
    rw [hN, hE]
    exact ⟨rfl, HB.out⟩
end Go.Proofs.Ytajeohmmobgcjaa
