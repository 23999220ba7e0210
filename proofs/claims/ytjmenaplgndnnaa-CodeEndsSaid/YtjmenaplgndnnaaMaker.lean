/- The walks of code.Maker: numbers, bytes, texts are put one behind the other. -/
import Derived.Test.YtjmenaplgndnnaaApp
import Derived.Test.YtjmenaplgndnnaaNum
import Derived.Test.YtjmenaplgndnnaaFold
namespace Go.Proofs.Ytjmenaplgndnnaa
open Go.RowKit
theorem info_u8 : (Try.prog.info? 5).map (fun i => (i.zero, i.size, i.bytes)) = some (some (.int .u8 0), 1, 1) := by kernel_rfl
theorem bvA (a b : List UInt8) : bv (a ++ b) = bv a ++ bv b := by simp [bv]
theorem bvL (a : List UInt8) : (bv a).length = a.length := by simp [bv]
theorem bv1 (a : List UInt8) : ∀ u ∈ bv a, u.oneCell' = true := by
  intro u hu
  obtain ⟨_, _, rfl⟩ := List.mem_map.1 hu
  rfl
theorem or128 (m : Nat) : bits .or .u8 ((m : Int) % 256) 128 = ((UInt8.ofNat (m % 128 + 128)).toNat : Int) := by
  have h1 : (m : Int) % 256 = ((m % 256 : Nat) : Int) := by omega
  have h2 : bits .or .u8 ((m % 256 : Nat) : Int) ((128 : Nat) : Int) = ((m % 256 ||| 128 : Nat) : Int) := by
    have := u8_or_nat (m % 256) 128 (by omega) (by omega)
    exact this
  rw [h1]
  refine h2.trans ?_
  rw [UInt8.toNat_ofNat']
  have h3 : m % 256 ||| 128 = m % 128 + 128 := by
    have h4 : m % 256 < 256 := Nat.mod_lt _ (by omega)
    have h5 : m % 128 = (m % 256) % 128 := by omega
    rw [h5]
    generalize m % 256 = q at h4
    clear h1 h2 h5
    revert h4
    revert q
    decide +kernel
  rw [h3]
  congr 1
  omega
/-- the row that a maker has, and its mark -/
structure MkAt (w : World) (base g T : Nat) (l : List UInt8) (bad : Bool) (v : Value) : Prop where
  blk : Blk w g T #[v, .bool bad]
  own : w.ownsRow base 5 1 v l.length (bv l)
/-- where a maker's row lies behind some steps -/
def Moved (w : World) (v v' : Value) : Prop := v'.ownBlock = v.ownBlock ∨ ∃ r, v'.ownBlock = some r ∧ w.heap.size ≤ r
theorem Moved.refl (w : World) (v : Value) : Moved w v v := .inl rfl
theorem Moved.trans {w w' : World} {a b c : Value} (h : Moved w a b) (k : Moved w' b c) (hw : w.heap.size ≤ w'.heap.size) : Moved w a c := by
  rcases k with k | ⟨r, k, hr⟩
  · rcases h with h | ⟨q, h, hq⟩
    · exact .inl (k.trans h)
    · exact .inr ⟨q, k.trans h, hq⟩
  · exact .inr ⟨r, k, by omega⟩
/-- a maker's own blocks -/
def MkS (g : Nat) (v : Value) (k : Nat) : Prop := k = g ∨ v.ownBlock = some k

set_option maxRecDepth 100000 in
set_option maxHeartbeats 1000000 in
theorem number_any (n : Nat) (hn : n < 18446744073709551616) (l : List UInt8) (hl : l.length ≤ 1099511627776) (bad : Bool) (base g T : Nat) (hT : 5 ≠ T) (v : Value) (w : World) (hbase : base ≤ w.heap.size) (hm : MkAt w base g T l bad v) :
    Calls Try.prog 43 #[.pointer (some ⟨g, 0, none⟩), .int .u64 (n : Int)] w fun e w' => e = .returned (.tuple #[]) ∧ ∃ v', MkAt w' base g T (l ++ num n) bad v' ∧ Turned (MkS g v) w w' ∧ Moved w v v' := by
  obtain ⟨i, hi, hz0, hz1, hz2⟩ := info_parts info_u8
  have hN := num_len n hn
  have HM := hide hm
  have HT := hide hT
  clear hm hT
  go_enter Try.func43, Try.ntmps43
  go_wp2_with fail
  go_loopw [1] (fun s wr => ∃ (m : Nat) (dn : List UInt8) (v' : Value), s = .int .u64 (m : Int) ∧ m < 18446744073709551616 ∧ dn ++ num m = num n ∧ MkAt wr base g T (l ++ dn) bad v' ∧ Turned (MkS g v) w wr ∧ Moved w v v') (fun s _ => (intOf s).toNat)
  case atStart => exact ⟨n, [], v, rfl, hn, rfl, by simpa using HM.out, Turned.refl _ _, Moved.refl _ _⟩
  case round =>
    obtain ⟨m, dn, v', rfl, hm, hdn, ⟨hb, ho⟩, ht, hmv⟩ := hrel
    have hlen : dn.length + (num m).length ≤ 10 := by rw [← List.length_append, hdn]; exact hN
    have c0 := hb.cell 0
    have f0 := hb.frozen 0
    simp only [List.getElem?_toArray, List.getElem?_cons_zero] at c0
    have hlt := hb.lt
    have hne := owned_ne ho hb HT.out
    have hsz := ht.size
    have HD := hide hdn
    have HB := hide hb
    have HO := hide ho
    have HTU := hide (And.intro ht hmv)
    have HL := hide hlen
    have HNE := hide hne
    clear hdn hb ho ht hmv hlen hne
    by_cases hge : 128 ≤ m
    · have hor := or128 m
      obtain ⟨x, hx⟩ : ∃ x, x = UInt8.ofNat (m % 128 + 128) := ⟨_, rfl⟩
      rw [← hx] at hor
      have HX := hide hx
      clear hx
      obtain ⟨X, hX⟩ : ∃ X, X = wr.heap.size := ⟨_, rfl⟩
      have hsrc := src_one wr (.int .u8 (x.toNat : Int)) 5 rfl
      rw [← hX] at hsrc
      have HSR := hide hsrc
      have HXX := hide hX
      clear hsrc hX
      go_wp2_with (at_builtin; (refine wpList_app rfl _ _ 26 rfl base 5 i (.int .u8 0) 1 Try.underlying26 hi hz0 hz1 hz2 rfl v' (l ++ dn).length (bv (l ++ dn)) (HO.out.alloc _) _ 1 1 [.int .u8 (x.toNat : Int)] (src_one _ _ _ rfl) ?h1 ?h2 ?h3 rfl rfl ?_))
      case h1 => have := HL.out; simp only [List.length_append, maxLen]; omega
      case h2 => have := HL.out; simp only [List.length_append]; omega
      case h3 => rw [size_alloc]; omega
      intro v2 w2 own2 gr2 mv2 _
      have hb2 := (HB.out.alloc _).grown gr2 (fun e => HNE.out e.symm)
      have c2 := hb2.cell 0
      have f2 := hb2.frozen 0
      simp only [List.getElem?_toArray, List.getElem?_cons_zero] at c2
      have hlt2 := hb2.lt
      have hT2 : Turned (MkS g v) w w2 := by
        refine (HTU.out.1.alloc _).then_ (Turned.of_grown (S := fun k => v'.ownBlock = some k) gr2 (fun k h _ => h)) ?_
        intro k hk hv
        rcases HTU.out.2 with h | ⟨r, h, hr⟩
        · exact .inr (h ▸ hv)
        · rw [h] at hv; injection hv with hv; omega
      have hM2 : Moved w v v2 := HTU.out.2.trans (w' := wr.alloc (.cells #[.int .u8 (x.toNat : Int)] 5)) (by rcases mv2 with h | h; exact .inl h; exact .inr ⟨_, h, by rw [size_alloc]; omega⟩) (by rw [size_alloc]; omega)
      have hd2 : (dn ++ [x]) ++ num (m / 128) = num n := by rw [← HD.out, num_hi (n := m) (by omega), HX.out]; simp
      obtain ⟨A2, k2, rfl⟩ := owned_slice own2
      have hq : l.length + dn.length + 1 = (l ++ (dn ++ [x])).length := by simp; omega
      have HB2 := hide hb2
      have HT2 := hide (And.intro hT2 hM2)
      have HO2 := hide own2
      have HD2 := hide hd2
      clear hb2 own2 gr2 mv2 hT2 hM2 hd2 c0 f0
      go_wp2_with fail
      go_roundw
      case rel =>
        refine ⟨m / 128, dn ++ [x], .slice A2 (l.length + dn.length + 1) k2, by go_num, by omega, HD2.out, ⟨?_, ?_⟩, HT2.out.1.setCell (fun _ => .inl rfl) _, HT2.out.2⟩
        · exact HB2.out.set_ 0 _
        · rw [← hq]
          have h := owned_keep (w' := w2.setCell ⟨g, 0, none⟩ (.slice A2 (l.length + dn.length + 1) k2)) HO2.out (fun q hqv hql => Below.heap_setCell w2 _ _ q (by rintro rfl; exact owned_ne HO2.out HB2.out HT.out hqv))
          rw [← List.append_assoc, bvA]
          exact h
      case measure => simp [intOf]; omega
    · have hdn2 : dn ++ [UInt8.ofNat m] = num n := by rw [← HD.out, num_lo (n := m) (by omega)]
      obtain ⟨x, hx⟩ : ∃ x, x = UInt8.ofNat m := ⟨_, rfl⟩
      have hxm : (m : Int) % 256 = (x.toNat : Int) := by rw [hx, UInt8.toNat_ofNat']; omega
      have hxm2 : (m : Int) = (x.toNat : Int) := by rw [← hxm]; omega
      rw [← hx] at hdn2
      have HD2 := hide hdn2
      clear hdn2 hx
      go_wp2_with (at_builtin; (refine wpList_app rfl _ _ 26 rfl base 5 i (.int .u8 0) 1 Try.underlying26 hi hz0 hz1 hz2 rfl v' (l ++ dn).length (bv (l ++ dn)) (HO.out.alloc _) _ 1 1 [.int .u8 (x.toNat : Int)] (src_one _ _ _ rfl) ?h1 ?h2 ?h3 rfl rfl ?_))
      case h1 => have := HL.out; simp only [List.length_append, maxLen]; omega
      case h2 => have := HL.out; simp only [List.length_append]; omega
      case h3 => rw [size_alloc]; omega
      intro v2 w2 own2 gr2 mv2 _
      have hb2 := (HB.out.alloc _).grown gr2 (fun e => HNE.out e.symm)
      have c2 := hb2.cell 0
      have f2 := hb2.frozen 0
      simp only [List.getElem?_toArray, List.getElem?_cons_zero] at c2
      have hlt2 := hb2.lt
      have hT2 : Turned (MkS g v) w w2 := by
        refine (HTU.out.1.alloc _).then_ (Turned.of_grown (S := fun k => v'.ownBlock = some k) gr2 (fun k h _ => h)) ?_
        intro k hk hv
        rcases HTU.out.2 with h | ⟨r, h, hr⟩
        · exact .inr (h ▸ hv)
        · rw [h] at hv; injection hv with hv; omega
      have hM2 : Moved w v v2 := HTU.out.2.trans (w' := wr.alloc (.cells #[.int .u8 (x.toNat : Int)] 5)) (by rcases mv2 with h | h; exact .inl h; exact .inr ⟨_, h, by rw [size_alloc]; omega⟩) (by rw [size_alloc]; omega)
      obtain ⟨A2, k2, rfl⟩ := owned_slice own2
      have hq : l.length + dn.length + 1 = (l ++ (dn ++ [x])).length := by simp; omega
      have HB2 := hide hb2
      have HT2 := hide (And.intro hT2 hM2)
      have HO2 := hide own2
      clear hb2 own2 gr2 mv2 hT2 hM2 c0 f0
      go_wp2_with fail
      go_end0
      refine ⟨rfl, .slice A2 (l.length + dn.length + 1) k2, ⟨?_, ?_⟩, HT2.out.1.setCell (fun _ => .inl rfl) _, HT2.out.2⟩
      · exact HB2.out.set_ 0 _
      · rw [← HD2.out, ← hq]
        have h := owned_keep (w' := w2.setCell ⟨g, 0, none⟩ (.slice A2 (l.length + dn.length + 1) k2)) HO2.out (fun q hqv hql => Below.heap_setCell w2 _ _ q (by rintro rfl; exact owned_ne HO2.out HB2.out HT.out hqv))
        rw [← List.append_assoc, bvA]
        exact h
end Go.Proofs.Ytjmenaplgndnnaa
