/- spencelaw01: parts in memory; how many bytes they have, about. -/
import Derived.Test.YtjmenaplgndnnaaShaF
import Derived.Test.YtjmenaplgndnnaaBase3
namespace Go.Proofs.Ytjmenaplgndnnaa
open Go.RowKit
structure Part where
  what : Int
  n : Int
  most : Int
  b : List UInt8
def i64 (z : Int) : Prop := -9223372036854775808 ≤ z ∧ z ≤ 9223372036854775807
/-- a part's four cells -/
structure PartAt (w : World) (B b o : Nat) (p : Part) : Prop where
  c0 : w.cell? ⟨b, o, none⟩ = some (.int .i64 p.what)
  c1 : w.cell? ⟨b, o + 1, none⟩ = some (.int .i64 p.n)
  c2 : w.cell? ⟨b, o + 2, none⟩ = some (.int .i64 p.most)
  c3 : ∃ A c, w.cell? ⟨b, o + 3, none⟩ = some (.slice A p.b.length c) ∧ BytesAt w B (.slice A p.b.length c) p.b ∧ (A = none → c = 0)
  k0 : i64 p.what
  k1 : i64 p.n
  k2 : i64 p.most
def PartsM (w : World) (B : Nat) (v : Value) (ls : List Part) : Prop :=
  ∃ A cap, v = .slice A ls.length cap ∧ ls.length ≤ cap ∧ (0 < ls.length → ∃ b off, A = some ⟨b, off, none⟩ ∧ b < B ∧ ∀ j, j < ls.length → PartAt w B b (off + j * 4) (ls.getD j ⟨0, 0, 0, []⟩))
theorem PartAt.alike {w w' : World} {B b o : Nat} {p : Part} (h : PartAt w B b o p) (hb : b < B) (ha : Alike B w w') : PartAt w' B b o p := by
  obtain ⟨A, c, h1, h2, h3⟩ := h.c3
  have e : ∀ q, w'.cell? ⟨b, q, none⟩ = w.cell? ⟨b, q, none⟩ := fun q => ha.cell (p := ⟨b, q, none⟩) hb
  exact ⟨(e _).trans h.c0, (e _).trans h.c1, (e _).trans h.c2, ⟨A, c, (e _).trans h1, h2.alike ha, h3⟩, h.k0, h.k1, h.k2⟩
theorem PartsM.alike {w w' : World} {B : Nat} {v : Value} {ls : List Part} (h : PartsM w B v ls) (ha : Alike B w w') : PartsM w' B v ls := by
  obtain ⟨A, cap, hv, hc, hA⟩ := h
  exact ⟨A, cap, hv, hc, fun h0 => by
    obtain ⟨b, off, h1, h2, h3⟩ := hA h0
    exact ⟨b, off, h1, h2, fun j hj => (h3 j hj).alike h2 ha⟩⟩
/-- how many bytes some parts have -/
def many (ls : List Part) : Nat := (ls.map fun p => p.b.length).sum
theorem many_take (ls : List Part) (k : Nat) (h : k < ls.length) : many (ls.take (k + 1)) = many (ls.take k) + (ls.getD k ⟨0, 0, 0, []⟩).b.length := by
  unfold many
  rw [List.take_succ_eq_append_getElem h, List.map_append, List.sum_append]
  simp [List.getD, h]
theorem many_take_le (ls : List Part) (k : Nat) : many (ls.take k) ≤ many ls := by
  have h : many ls = many (ls.take k) + many (ls.drop k) := by
    unfold many
    rw [← List.sum_append, ← List.map_append, List.take_append_drop]
  omega
theorem many_get (ls : List Part) (k : Nat) (h : k < ls.length) : (ls.getD k ⟨0, 0, 0, []⟩).b.length ≤ many ls := by
  have h1 := many_take ls k h
  have h2 := many_take_le ls (k + 1)
  omega
set_option maxRecDepth 100000 in
set_option maxHeartbeats 1000000 in
theorem size1_any (ls : List Part) (hl : ls.length ≤ 140737488355328) (hb : ∀ p ∈ ls, p.b.length ≤ 140737488355328) (v : Value) (B : Nat) (w : World) (hv : PartsM w B v ls) :
    Calls Try.prog 7 #[v] w fun e w' => ∃ r : Nat, e = .returned (.int .i64 (r : Int)) ∧ w = w' ∧ r ≤ 281474976720000 ∧ (r = ls.length + many ls ∨ 4000 < r ∧ 4000 < ls.length + many ls) := by
  obtain ⟨A, cap, rfl, hcap, hA⟩ := hv
  have HA := hide hA
  have HB := hide hb
  clear hA hb
  go_enter Try.func7, Try.ntmps7
  go_wp2_with fail
  go_loop [3, 4] (fun s i => ∃ k r : Nat, k ≤ ls.length ∧ i = .int .i64 (k : Int) ∧ s = .int .i64 (r : Int) ∧ r = ls.length + many (ls.take k) ∧ r ≤ 281474976720000) (fun _ i => ls.length - (intOf i).toNat)
  case atStart => exact ⟨0, ls.length, by omega, rfl, rfl, by simp [many], by omega⟩
  case round =>
    obtain ⟨k, r, hk, rfl, rfl, hr, hr2⟩ := hrel
    have HR := hide hr
    clear hr
    by_cases hlt : k < ls.length
    · by_cases hm : r ≤ 4000
      · obtain ⟨b, off, rfl, _, hp⟩ := HA.out (by omega)
        obtain ⟨A', c', c3, _, _⟩ := (hp k hlt).c3
        obtain ⟨n, hn⟩ : ∃ n, n = (ls.getD k ⟨0, 0, 0, []⟩).b.length := ⟨_, rfl⟩
        rw [← hn] at c3
        have hn2 : n ≤ 140737488355328 := by rw [hn]; exact HB.out _ (by simp [List.getD, hlt])
        have HN := hide hn
        have i1 : (0 : Int) ≤ (k : Int) := by omega
        have i2 : (k : Int) < (ls.length : Int) := by omega
        clear hp hn
        go_wp2_with fail
        go_round
        case rel => exact ⟨k + 1, r + n, by omega, by go_num, by go_num, by rw [many_take ls k hlt, ← HN.out, HR.out]; omega, by omega⟩
        case measure => simp [intOf]; omega
      · have hm2 : 4000 < r := by omega
        have i2 : (k : Int) < (ls.length : Int) := by omega
        go_wp2_with fail
        go_ret
        refine ⟨r, rfl, rfl, hr2, .inr ⟨hm2, ?_⟩⟩
        have := HR.out
        have := many_take_le ls k
        omega
    · obtain rfl : k = ls.length := by omega
      go_wp2_with fail
      go_ret
      refine ⟨r, rfl, rfl, hr2, .inl ?_⟩
      rw [HR.out, List.take_of_length_le (Nat.le_refl _)]
end Go.Proofs.Ytjmenaplgndnnaa
