/- a bit is spoilt: the device's, the document's. -/
import Derived.Test.YtajeohmmobgcjaaRDevE
namespace Go.Proofs.Ytajeohmmobgcjaa
open Go Go.RowKit
theorem wrap8 (z : Int) : 0 ≤ IntKind.u8.wrap z ∧ IntKind.u8.wrap z < 256 := by
  simp [IntKind.wrap, IntKind.signed, IntKind.bits]
  omega
def flip (v : UInt8) (k : Nat) : UInt8 := UInt8.ofNat (bits .xor .u8 (v.toNat : Int) ((2 : Int) ^ k % 256)).toNat
theorem flip_int (v : UInt8) (k : Nat) : ((flip v k).toNat : Int) = bits .xor .u8 (v.toNat : Int) ((2 : Int) ^ k % 256) := by
  have h : 0 ≤ bits .xor .u8 (v.toNat : Int) ((2 : Int) ^ k % 256) ∧ bits .xor .u8 (v.toNat : Int) ((2 : Int) ^ k % 256) < 256 := wrap8 _
  unfold flip
  rw [UInt8.toNat_ofNat']
  omega
theorem bits_and7 (b : Nat) : bits .and .i64 (b : Int) 7 = ((b % 8 : Nat) : Int) := by
  have h1 : (BitVec.ofInt 64 (b : Int) &&& BitVec.ofInt 64 7).toNat = b % 8 := by
    rw [BitVec.toNat_and, BitVec.toNat_ofInt, show (BitVec.ofInt 64 7).toNat = 2 ^ 3 - 1 by decide, Nat.and_two_pow_sub_one_eq_mod, show ((2 ^ 64 : Nat) : Int) = 18446744073709551616 by decide]
    omega
  show IntKind.i64.wrap ((BitVec.ofInt 64 (b : Int) &&& BitVec.ofInt 64 7).toNat : Int) = _
  rw [h1]
  simp [IntKind.wrap, IntKind.signed, IntKind.bits]
  omega
def spoilB (b : List UInt8) (bit : Nat) : List UInt8 := b.set (bit / 8) (flip (b.getD (bit / 8) 0) (bit % 8))
def Dv.spoil (D : Dv) (x bit : Int) : Int × Dv := if (decide (0 ≤ x ∧ x < (D.kept.length : Int)) && decide (0 ≤ bit ∧ bit < 512)) = true then (0, { D with kept := D.kept.set x.toNat (spoilB (D.kept.getD x.toNat []) bit.toNat) }) else (2, D)
theorem flat_set1 {α : Type} {s : Nat} (v : α) : ∀ (l : List (List α)) (k j : Nat) (b : List α), (∀ b ∈ l, b.length = s) → l[k]? = some b → j < s → (l.set k (b.set j v)).flatten = l.flatten.set (k * s + j) v
  | [], _, _, _, _, h, _ => by simp at h
  | b :: l, 0, j, c, hs, h, hj => by
    have h1 := hs b (by simp)
    simp at h
    subst h
    simp only [List.set_cons_zero, List.flatten_cons, Nat.zero_mul, Nat.zero_add]
    rw [List.set_append_left _ _ (by omega)]
  | b :: l, k + 1, j, c, hs, h, hj => by
    have h1 := hs b (by simp)
    simp only [List.set_cons_succ, List.flatten_cons]
    rw [flat_set1 v l k j c (fun d hd => hs d (by simp [hd])) (by simpa using h) hj, List.set_append_right _ _ (by rw [Nat.add_mul]; omega)]
    congr 2
    rw [Nat.add_mul]
    omega
theorem kept_spoil (K : List (List UInt8)) (k bit : Nat) (b : List UInt8) (h : ∀ b ∈ K, b.length = 64) (hk : K[k]? = some b) (hb : bit < 512) : keptCells (K.set k (spoilB b bit)) = (keptCells K).set (k * 64 + bit / 8) (.int .u8 (bits .xor .u8 (((b.getD (bit / 8) 0).toNat : Nat) : Int) ((2 : Int) ^ (bit % 8) % 256))) := by
  rw [kept_bv, kept_bv, spoilB, flat_set1 (s := 64) _ K k (bit / 8) b h hk (by omega)]
  unfold bv
  rw [List.map_set]
  congr 2
  rw [flip_int]
theorem kept_cell (K : List (List UInt8)) (k bit : Nat) (b : List UInt8) (h : ∀ b ∈ K, b.length = 64) (hk : K[k]? = some b) (hb : bit < 512) : (keptCells K)[k * 64 + bit / 8]? = some (.int .u8 ((b.getD (bit / 8) 0).toNat : Int)) := by
  have h1 := kept_at K k b h hk
  have h2 : ((keptCells K).drop (k * 64))[bit / 8]? = (bv b)[bit / 8]? := by
    rw [← h1, List.getElem?_take_of_lt (by omega)]
  rw [List.getElem?_drop] at h2
  rw [h2]
  have hb64 := h b (List.mem_of_getElem? hk)
  simp [bv, List.getD, show bit / 8 < b.length by omega]
/-- one cell of a row of one's own is turned -/
theorem own_set1 {w : World} {base g n cap s : Nat} {e : TypeId} {xs : List Value} (h : w.ownsRow base e s (.slice (some ⟨g, 0, none⟩) n cap) n xs) (o : Nat) (v : Value) (ho : o < n * s) : (w.setCell ⟨g, o, none⟩ v).ownsRow base e s (.slice (some ⟨g, 0, none⟩) n cap) n (xs.set o v) := by
  have h2 := own_setCells h o [v] (by simp; omega)
  have e : xs.take o ++ ([v] ++ xs.drop (o + [v].length)) = xs.set o v := by
    rw [List.set_eq_take_append_cons_drop, if_pos (by have := h.1; omega)]
    simp
  rw [e] at h2
  exact h2
section
variable {D : Dv} {F : Nat → Prop} {g : Nat}
set_option maxRecDepth 100000
set_option maxHeartbeats 1000000 in
theorem spoil_ok (x bit : Nat) (w : World) (h : DevAt w F g D) (hx : x < D.kept.length) (hbit : bit < 512) : Calls Try.prog 69 #[.pointer (some ⟨g, 0, none⟩), .int .i64 (x : Int), .int .i64 (bit : Int)] w fun e w' => e = .returned (.int .i64 0) ∧ Left w F g { D with kept := D.kept.set x (spoilB (D.kept.getD x []) bit) } w' := by
  obtain ⟨rk, c, vp, rfl, hb, hk, hp, hok⟩ := h
  obtain ⟨b0, hkb⟩ : ∃ b, D.kept[x]? = some b := ⟨D.kept[x]'hx, List.getElem?_eq_getElem _⟩
  have c3 := (hb.cell 3).trans (dv3 ..)
  have hlt := hb.lt
  have hnk := hok.n2
  have hrk := (owned_ltN hk (g := rk) rfl).2
  obtain ⟨v0, hv0⟩ : ∃ v, v = b0.getD (bit / 8) 0 := ⟨_, rfl⟩
  have hcell : w.cell? ⟨rk, x * 64 + bit / 8, none⟩ = some (.int .u8 (v0.toNat : Int)) := by
    have hr := own_range hk (x * 64 + bit / 8) 1 [.int .u8 (v0.toNat : Int)] (by
      have h1 := kept_cell D.kept x bit b0 hok.k64 hkb hbit
      rw [← hv0] at h1
      obtain ⟨h2, h3⟩ := List.getElem?_eq_some_iff.1 h1
      rw [List.drop_eq_getElem_cons h2, h3]
      rfl)
    exact hr 0 _ rfl
  have hfr : w.frozen? ⟨rk, x * 64 + bit / 8, none⟩ = false := (own_there hk (x * 64 + bit / 8) 1 (by omega) 0 (by omega)).2
  have i0 : (0 : Int) ≤ (x : Int) := by omega
  have i1 : (x : Int) < (D.kept.length : Int) := by omega
  have j0 : (0 : Int) ≤ (bit : Int) := by omega
  have j1 : (bit : Int) < 512 := by omega
  have hd : decide (0 ≤ (x : Int) ∧ (x : Int) < (D.kept.length : Int)) = true := decide_eq_true ⟨i0, i1⟩
  have HH := hide (And.intro hb (And.intro hk (And.intro hp (And.intro hok (And.intro hkb hv0)))))
  clear hb hk hp hok hkb hv0
  go_enter Try.func69, Try.ntmps69
  go_wp2_with fail
  refine (dnone_any _ HH.out.1).mono ?_
  rintro e w' ⟨rfl, rfl⟩
  dsimp only
  go_wp2_with fail
  refine (has_any _ hnk (x : Int) (by omega) HH.out.1).mono ?_
  rintro e w' ⟨rfl, rfl⟩
  rw [hd]
  dsimp only
  go_wp2_with fail
  refine wp_quiet_tail_drewN 16 (by kernel_rfl) (by kernel_rfl) ?_
  simp only [List.take_succ_cons, List.take_zero, List.drop_succ_cons, List.drop_zero]
  have hand := bits_and7 bit
  have hm8 : bit % 8 < 8 := Nat.mod_lt _ (by omega)
  repeat (go_big_quiet_step (fail))
  refine wpQuiet_nil ?_
  intro nq
  go_wp2_with fail
  go_ret
  obtain ⟨hb, hk, hp, hok, hkb, hv0⟩ := HH.out
  have hkg : rk ≠ g := fun e => owned_neN hk hb (by decide) (by rw [← e]; rfl)
  have hpr : vp.ownBlock ≠ some rk := fun e => owned_ne2 hp hk (by decide) e rfl rfl
  have hset := own_set1 (owned_keepN hk fun k _ _ => rfl : (w'.drewN nq).ownsRow 0 109 64 (.slice (some ⟨rk, 0, none⟩) D.kept.length c) D.kept.length (keptCells D.kept)) (x * 64 + bit / 8) (.int .u8 (bits .xor .u8 (v0.toNat : Int) ((2 : Int) ^ (bit % 8) % 256))) (by omega)
  have hks := kept_spoil D.kept x bit b0 hok.k64 hkb hbit
  rw [← hv0] at hks
  rw [← hks] at hset
  have hget : D.kept.getD x [] = b0 := by simp [List.getD, hkb]
  have hb064 : b0.length = 64 := hok.k64 b0 (List.mem_of_getElem? hkb)
  refine ⟨rfl, Foot g rk vp, ⟨rk, c, vp, rfl, ?_, ?_, ?_, ?_⟩, ?_, fun _ h => .inl h⟩
  · show Blk _ g 107 (dv D.de D.fu D.dn (.slice (some ⟨rk, 0, none⟩) (D.kept.set x (spoilB (D.kept.getD x []) bit)).length c) vp)
    rw [List.length_set]
    exact (Below.heap_setCell (w'.drewN nq) ⟨rk, x * 64 + bit / 8, none⟩ _ g (fun e => hkg (e.symm))).trans hb
  · show World.ownsRow _ 0 109 64 (.slice (some ⟨rk, 0, none⟩) (D.kept.set x (spoilB (D.kept.getD x []) bit)).length c) (D.kept.set x (spoilB (D.kept.getD x []) bit)).length (keptCells (D.kept.set x (spoilB (D.kept.getD x []) bit)))
    rw [List.length_set, hget]
    exact hset
  · refine owned_keepN hp fun k hk2 _ => Below.heap_setCell (w'.drewN nq) ⟨rk, x * 64 + bit / 8, none⟩ _ k (fun e => ?_)
    have e : k = rk := e
    exact hpr (by rw [hk2, e])
  · refine ⟨by rw [List.length_set]; exact hok.n1, by rw [List.length_set]; exact hok.n2, fun b hbm => ?_, fun p hp2 => by rw [List.length_set]; exact hok.p64 p hp2, hok.de, hok.fu⟩
    rw [hget] at hbm
    rcases List.mem_or_eq_of_mem_set hbm with h | h
    · exact hok.k64 b h
    · rw [h, spoilB, List.length_set]
      exact hb064
  · exact ((Turned.refl (S := Foot g rk vp) w').drewN nq).setCell (fun _ => .inr (.inl rfl)) _
theorem spoilDev_any (x bit : Int) (w : World) (h : DevAt w F g D) (hx : -9223372036854775808 ≤ x ∧ x ≤ 9223372036854775807) (hbit : -9223372036854775808 ≤ bit ∧ bit ≤ 9223372036854775807) : Calls Try.prog 69 #[.pointer (some ⟨g, 0, none⟩), .int .i64 x, .int .i64 bit] w fun e w' => e = .returned (.int .i64 (D.spoil x bit).1) ∧ Left w F g (D.spoil x bit).2 w' := by
  by_cases hin : 0 ≤ x ∧ x < (D.kept.length : Int)
  · by_cases hb : 0 ≤ bit ∧ bit < 512
    · rw [show D.spoil x bit = (0, { D with kept := D.kept.set x.toNat (spoilB (D.kept.getD x.toNat []) bit.toNat) }) by simp [Dv.spoil, hin, hb]]
      have h2 := spoil_ok x.toNat bit.toNat w h (by omega) (by omega)
      rw [Int.toNat_of_nonneg hin.1, Int.toNat_of_nonneg hb.1] at h2
      exact h2
    · rw [show D.spoil x bit = (2, D) by simp [Dv.spoil, hb]]
      have h0 := h
      obtain ⟨rk, c, vp, rfl, hbk, hk, hp, hok⟩ := h
      have hnk := hok.n2
      have HH := hide (And.intro hbk h0)
      have hd : decide (0 ≤ x ∧ x < (D.kept.length : Int)) = true := decide_eq_true hin
      have hx1 := hx.1
      have hx2 := hx.2
      have hb1 := hbit.1
      have hb2 := hbit.2
      have hwr : 512 ≤ IntKind.u64.wrap bit := by
        simp [IntKind.wrap, IntKind.signed, IntKind.bits]
        omega
      clear hbk h0 hk hp hok hin hx hbit hb
      go_enter Try.func69, Try.ntmps69
      go_wp2_with fail
      refine (dnone_any _ HH.out.1).mono ?_
      rintro e w' ⟨rfl, rfl⟩
      dsimp only
      go_wp2_with fail
      refine (has_any _ hnk x (by omega) HH.out.1).mono ?_
      rintro e w' ⟨rfl, rfl⟩
      rw [hd]
      dsimp only
      go_wp2_with fail
      go_ret
      exact ⟨rfl, .same HH.out.2⟩
  · rw [show D.spoil x bit = (2, D) by simp [Dv.spoil, hin]]
    have h0 := h
    obtain ⟨rk, c, vp, rfl, hbk, hk, hp, hok⟩ := h
    have hnk := hok.n2
    have HH := hide (And.intro hbk h0)
    have hd : decide (0 ≤ x ∧ x < (D.kept.length : Int)) = false := decide_eq_false hin
    clear hbk h0 hk hp hok hin
    go_enter Try.func69, Try.ntmps69
    go_wp2_with fail
    refine (dnone_any _ HH.out.1).mono ?_
    rintro e w' ⟨rfl, rfl⟩
    dsimp only
    go_wp2_with fail
    refine (has_any _ hnk x hx HH.out.1).mono ?_
    rintro e w' ⟨rfl, rfl⟩
    rw [hd]
    dsimp only
    go_wp2_with fail
    go_ret
    exact ⟨rfl, .same HH.out.2⟩
end
end Go.Proofs.Ytajeohmmobgcjaa
