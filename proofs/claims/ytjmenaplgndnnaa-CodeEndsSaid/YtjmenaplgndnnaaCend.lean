/- spencelaw01.CodeEnds is true, and leaves all as it was. No condition. -/
import Derived.Test.YtjmenaplgndnnaaCendB
import Derived.Test.YtjmenaplgndnnaaRowParts
namespace Go.Proofs.Ytjmenaplgndnnaa
open Go Go.RowKit
section
variable {P : Program} {w : World} {ops : Array Oper} {rest : List Oper} {o : Oper} {a : Act} {Q : Exit → Act → World → Prop}
theorem wpList_app2_w (hw : Region.wanted o (yielded ops a.tmps) = true) (s x : Operand) (t : TypeId)
    (ho : o.op = .call { callee := .builtin .append, args := #[s, x], argTypes := #[t, t] })
    (base : Nat) (e : TypeId) (i : TypeInfo) (z : Value) (bytes : Nat) (ht : P.underlying t = some (.slice e)) (hi : P.info? e = some i) (hz : i.zero = some z)
    (hsize : i.size = 1) (hby : i.bytes = bytes) (hzs : z.cells.size = 1) (v : Value) (n : Nat) (xs : List Value) (hown : w.ownsRow base e 1 v n xs)
    (A : Option Addr) (m c : Nat) (news : List Value) (hsrc : Src w A m c news) (hm : 0 < m) (h63 : n + m ≤ maxLen) (hbytes : (n + m) * bytes ≤ 140737488355328) (hbase : base ≤ w.heap.size)
    (hs : a.eval s = v) (hx : a.eval x = .slice A m c)
    (h : ∀ v' w', w'.ownsRow base e 1 v' (n + m) (xs ++ news) → w.grownBy w' v.ownBlock → Grew w w' v v' n m → wpList P ops Q rest (a.put o.dst v') w') :
    wpList P ops Q (o :: rest) a w := by
  refine wpList_wanted hw fun K hK => ?_
  obtain ⟨v', w', hr, h2, h3, h4⟩ := run_app2 (P := P) (w := w) base t o.type e i z bytes ht hi hz hsize hby hzs v n xs hown A m c news hsrc hm h63 hbytes hbase
  unfold Oper.wp execOp
  simp only [ho, resolve, invoke, builtin, Sem.run_bind, Sem.run_pure, Result.andThen_ok, List.map_toArray, List.map_cons, List.map_nil, hs, hx, hr]
  exact hK _ _ (h v' w' h2 h3 h4)
end
theorem all1 {α : Type} {P : α → Prop} {a : α} (ha : P a) : ∀ p ∈ [a], P p := fun p hp => by rw [List.mem_singleton.1 hp]; exact ha
theorem all2 {α : Type} {P : α → Prop} {a b : α} (ha : P a) (hb : P b) : ∀ p ∈ [a, b], P p := fun p hp => by
  rcases List.mem_cons.1 hp with rfl | hp
  · exact ha
  · exact all1 hb p hp
theorem all3 {α : Type} {P : α → Prop} {a b c : α} (ha : P a) (hb : P b) (hc : P c) : ∀ p ∈ [a, b, c], P p := fun p hp => by
  rcases List.mem_cons.1 hp with rfl | hp
  · exact ha
  · exact all2 hb hc p hp
theorem bytes_made {W : World} {g n : Nat} {cells : Array Value} {l : List UInt8} (hb : Blk W g 5 cells) (hc : cells = (bv l).toArray) (hn : n = l.length) : BytesAt W W.heap.size (.slice (some ⟨g, 0, none⟩) n n) l := by
  subst hn hc
  refine ⟨_, l.length, rfl, Nat.le_refl _, fun _ => ⟨g, 0, rfl, hb.lt, fun j hj => ?_⟩⟩
  rw [Nat.zero_add, hb.cell]
  simp [bv, hj]
/-- parts are got of bytes that have just been made -/
theorem gets_made (w : World) (l : List UInt8) (n : Nat) (bytes : Array Value) (hb : bytes = (bv l).toArray) (hn : n = l.length) (ps : List (Part × Value)) (h : ∀ w, ∀ p ∈ ps, PV w p) (hsm : ps.length + many (ps.map (·.1)) + l.length ≤ 4000) (cells : Array Value) (hc : cells = (ps.map pc).flatten.toArray) (m : Nat) (hm : m = ps.length) :
    Calls Try.prog 23 #[.slice (some ⟨w.heap.size, 0, none⟩) n n, .slice (some ⟨w.heap.size + 1, 0, none⟩) m m] ((w.alloc (.cells bytes 5)).alloc (.cells cells 36)) fun e w' => e = .returned (.bool true) ∧ Below w.heap.size w w' := by
  have hal : Below w.heap.size w (w.alloc (.cells bytes 5)) := (Below.refl _ _).alloc (Nat.le_refl _) _
  have h1 := gets_new (w.alloc (.cells bytes 5)) l (some ⟨w.heap.size, 0, none⟩) n n hn (bytes_made (Blk.new w _ _) hb hn) (by intro h; cases h) ps (h _) hsm cells hc m hm
  rw [size_alloc] at h1
  exact h1.mono fun e w' ⟨a, b⟩ => ⟨a, hal.trans (b.mono (by omega))⟩
theorem or_byte (x : UInt8) : ∃ y : UInt8, bits .or .u8 (x.toNat : Int) 128 = (y.toNat : Int) := by
  refine ⟨UInt8.ofNat (x.toNat ||| 128), ?_⟩
  have h := u8_or_nat x.toNat 128 x.toNat_lt (by omega)
  rw [UInt8.toNat_ofNat']
  have h2 : x.toNat ||| 128 < 256 := Nat.or_lt_two_pow (n := 8) x.toNat_lt (by omega)
  rw [Nat.mod_eq_of_lt h2]
  exact h
/-- a row is as it was, when another one has grown out of it -/
theorem own_stays {w w5 : World} {base n m : Nat} {e : TypeId} {v v5 : Value} {xs ns : List Value} (h : w.ownsRow base e 1 v n xs) (h5 : w5.ownsRow base e 1 v5 (n + m) (xs ++ ns)) (g : Grew w w5 v v5 n m) : w5.ownsRow base e 1 v n xs := by
  rcases g with ⟨q, cap, rfl, rfl⟩ | ⟨_, hb⟩
  · have h1 := own_cut h5 (k := n) (by omega)
    have hl : xs.length = n := by have := h.1; omega
    rwa [List.take_append_of_le_length (by omega), List.take_of_length_le (by omega)] at h1
  · exact owned_keep h fun q _ hlt => hb.block q hlt
set_option maxRecDepth 100000 in
set_option maxHeartbeats 4000000 in
theorem codeEnds_any (w : World) : Calls Try.prog 4 #[] w fun e w' => e = .returned (.bool true) ∧ Below w.heap.size w w' := by
  obtain ⟨i8, hi, hz0, hz1, hz2⟩ := info_parts info_u8
  obtain ⟨R, hR⟩ : ∃ R, R = w.heap.size := ⟨_, rfl⟩
  have HR := hide hR
  rw [← hR]
  clear hR
  go_enter Try.func4, Try.ntmps4
  go_wp2_with fail
  go_loopw [1] (fun v wr => ∃ k : Nat, k ≤ 63 ∧ v = .int .i64 (k : Int) ∧ Below R w wr) (fun v _ => 63 - (intOf v).toNat)
  case atStart => exact ⟨0, by omega, rfl, Below.refl _ _⟩
  case round =>
    obtain ⟨k, hk, rfl, hb⟩ := hrel
    have H1 := hide hb
    clear hb
    by_cases hk63 : k < 63
    · have i1 : (0 : Int) ≤ (k : Int) := by omega
      have i2 : (k : Int) < 63 := by omega
      go_wp2_with fail
      go_loopw [2] (fun v wr => ∃ d : Int, -1 ≤ d ∧ d ≤ 2 ∧ v = .int .i64 d ∧ Below R w wr) (fun v _ => (2 - intOf v).toNat)
      case atStart => exact ⟨-1, by omega, by omega, rfl, H1.out⟩
      case round =>
        obtain ⟨d, hd1, hd2, rfl, hb⟩ := hrel
        have H2 := hide hb
        clear hb
        by_cases hd : d < 2
        · obtain ⟨P, hP⟩ : ∃ P : Nat, P = 2 ^ k := ⟨_, rfl⟩
          have hP1 : 1 ≤ P := by rw [hP]; exact Nat.one_le_two_pow
          have hP2 : P ≤ 4611686018427387904 := by rw [hP]; exact Nat.pow_le_pow_right (n := 2) (by omega) (show k ≤ 62 by omega)
          have hPi : (2 : Int) ^ k = (P : Int) := by rw [hP]; push_cast; rfl
          obtain ⟨N, hN⟩ : ∃ N : Nat, (N : Int) = (P : Int) + d := ⟨((P : Int) + d).toNat, by omega⟩
          have hNb : N ≤ 4611686018427387905 := by omega
          have hPd : (P : Int) + d = (N : Int) := hN.symm
          have hR1 : R ≤ wr.heap.size := by have := H2.out.size; have := HR.out; omega
          have hnl := num_len N (by omega)
          have hnp := num_pos N
          obtain ⟨L, hL⟩ : ∃ L, L = num N := ⟨_, rfl⟩
          rw [← hL] at hnl hnp
          have HL := hide hL
          clear hP hL hN
          go_wp2_with fail
          refine (rnumber_big N (by omega) _).mono ?_
          rintro e w1 ⟨v1, rfl, own1, hb1⟩
          rw [← HL.out] at own1
          obtain ⟨A, c, rfl⟩ := owned_slice own1
          have hbt : ∀ W, Below w1.heap.size w1 W → BytesAt W W.heap.size (.slice A L.length c) L := fun W h => bytes_mono0 ((bytesAt_owned own1).alike (alike_of_below h)) h.size
          have hnil := own_nil0 own1
          have hlc : L.length ≤ c := by obtain ⟨_, _, e, h, _⟩ := bytesAt_owned own1; injection e with _ _ e; omega
          have H3 := hide (And.intro hbt (And.intro hnil (H2.out.trans (hb1.mono hR1))))
          have hs1 := hb1.size
          clear own1 hb1 hbt hnil
          dsimp only
          go_wp2_with fail
          refine (makes_new w1 [(⟨0, N, 0, []⟩, .slice none 0 0), (⟨0, -(N : Int), 0, []⟩, .slice none 0 0), (⟨2, 0, 0, L⟩, .slice A L.length c)] (all3 (pv_nil _ _ _ _ (i64_lit _ (by omega)) (i64_lit _ (by omega)) (i64_lit _ (by omega))) (pv_nil _ _ _ _ (i64_lit _ (by omega)) (i64_lit _ (by omega)) (i64_lit _ (by omega))) ⟨⟨A, c, rfl, H3.out.1 _ (Below.refl _ _), H3.out.2.1⟩, i64_lit 2 (by omega), i64_lit 0 (by omega), i64_lit 0 (by omega)⟩) (by simp [many]; omega) _ rfl 3 rfl).mono ?_
          rintro e w2 ⟨rfl, hb2⟩
          have H4 := hide hb2
          clear hb2
          dsimp only
          go_wp2_with fail
          refine (makes_new w2 [(⟨0, N, 0, []⟩, .slice none 0 0)] (all1 (pv_nil _ _ _ _ (i64_lit _ (by omega)) (i64_lit _ (by omega)) (i64_lit _ (by omega)))) (by simp [many]) _ rfl 1 rfl).mono ?_
          rintro e w3 ⟨rfl, hb3⟩
          have H5 := hide (H4.out.trans (hb3.mono H4.out.size))
          clear hb3
          dsimp only
          go_wp2_with fail
          refine (gets_new w3 L A c _ rfl (H3.out.1 _ H5.out) H3.out.2.1 [(⟨0, 0, N, []⟩, .slice none 0 0), (⟨0, 0, 0, []⟩, .slice none 0 0)] (all2 (pv_nil _ _ _ _ (i64_lit _ (by omega)) (i64_lit _ (by omega)) (i64_lit _ (by omega))) (pv_nil _ _ _ _ (i64_lit _ (by omega)) (i64_lit _ (by omega)) (i64_lit _ (by omega)))) (by simp [many]; omega) _ rfl 2 rfl).mono ?_
          rintro e w4 ⟨rfl, hb4⟩
          have H6 := hide (H5.out.trans (hb4.mono H5.out.size))
          clear hb4
          dsimp only
          go_wp2_with fail
          refine (gets_new w4 L A c _ rfl (H3.out.1 _ H6.out) H3.out.2.1 [(⟨0, 0, (N : Int) - 1, []⟩, .slice none 0 0)] (all1 (pv_nil _ _ _ _ (i64_lit _ (by omega)) (i64_lit _ (by omega)) (i64_lit _ (by omega)))) (by simp [many]; omega) _ rfl 1 rfl).mono ?_
          rintro e w5 ⟨rfl, hb5⟩
          have H7 := hide (H6.out.trans (hb5.mono H6.out.size))
          clear hb5
          dsimp only
          obtain ⟨m, hm⟩ : ∃ m, m + 1 = L.length := ⟨L.length - 1, by omega⟩
          have hmi : (L.length : Int) - 1 = (m : Int) := by omega
          have hm0 : (0 : Int) ≤ (m : Int) := by omega
          have hm1 : (m : Int) < (L.length : Int) := by omega
          have hk1 := run_slice_to (P := Try.prog) 26 5 Try.underlying26 size5 A L.length c m (by omega)
          go_wp2_with fail
          refine (gets_new w5 (L.take m) A c m (by rw [List.length_take]; omega) ((H3.out.1 _ H7.out).take m (by omega)) H3.out.2.1 [(⟨0, 0, 1099511627776, []⟩, .slice none 0 0)] (all1 (pv_nil _ _ _ _ (i64_lit _ (by omega)) (i64_lit _ (by omega)) (i64_lit _ (by omega)))) (by simp [many]; omega) _ rfl 1 rfl).mono ?_
          rintro e w6 ⟨rfl, hb6⟩
          have H8 := hide (H7.out.trans (hb6.mono H7.out.size))
          clear hb6 hk1
          dsimp only
          have hown := owned_new w6 5
          have hsrc := bv_src (H3.out.1 _ H8.out) H3.out.2.1
          have HO := hide (And.intro hown hsrc)
          clear hown hsrc H4 H5 H6 H7
          go_wp2_with (at_builtin; (refine wpList_app (o := ⟨some 71, _, _, _, _, _⟩) rfl (.tmp 69) (.tmp 70) 26 rfl w6.heap.size 5 i8 (.int .u8 0) 1 Try.underlying26 hi hz0 hz1 hz2 rfl _ 0 [] HO.out.1 A L.length c (bv L) (HO.out.2.alloc _) ?h1 ?h2 ?h3 rfl rfl ?_))
          case h1 => simp only [maxLen]; omega
          case h2 => omega
          case h3 => rw [size_alloc]; omega
          intro v7 w7 own7 gr7 _ _
          obtain ⟨g, cp, rfl, hg⟩ := own_place own7 hnp
          have hb7 : Below w6.heap.size w6 w7 := ((Below.refl _ _).alloc (Nat.le_refl _) _).grown gr7 (by rw [size_alloc]; omega) (by
            intro k hk
            injection hk with hk
            change w6.heap.size = k at hk
            omega)
          have hg6 : w6.heap.size ≤ g := (owned_lt own7 hg).1
          obtain ⟨x, hx⟩ : ∃ x : UInt8, (bv L)[m]? = some (.int .u8 (x.toNat : Int)) := ⟨L.getD m 0, by simp [bv, List.getD, show m < L.length by omega]⟩
          obtain ⟨y, hy⟩ := or_byte x
          obtain ⟨cg, fg⟩ := own_cell own7 m (by omega)
          rw [hx] at cg
          have hlg := (owned_lt own7 hg).2
          obtain ⟨w8, hw8⟩ : ∃ w8, w8 = w7.setCell ⟨g, m, none⟩ (.int .u8 (y.toNat : Int)) := ⟨_, rfl⟩
          have hs8 : w8.heap.size = w7.heap.size := by rw [hw8]; simp [World.setCell]
          obtain ⟨K, hK⟩ : ∃ K, K = L.set m y := ⟨_, rfl⟩
          have hKl : K.length = L.length := by rw [hK, List.length_set]
          have own8 : w8.ownsRow w6.heap.size 5 1 (.slice (some ⟨g, 0, none⟩) L.length cp) L.length (bv K) := by
            rw [hw8, hK, ← bv_set']
            exact own_set own7
          have hb8 : Below w6.heap.size w6 w8 := by rw [hw8]; exact hb7.setCell hg6 _
          have hLR := (H3.out.2.2.trans (H8.out.mono (by have := H2.out.size; have := HR.out; omega))).trans (hb8.mono (by have := H8.out.size; omega))
          have H9 := hide (And.intro own8 hLR)
          have HR6 := hide (show R ≤ w6.heap.size by have := H8.out.size; omega)
          have HW8 := hide hw8
          have HS8 := hide hs8
          clear own7 gr7 hb7 hx hw8 hs8 own8 hb8 hLR HO H8 hK
          go_wp2_with fail
          rw [← HW8.out, ← HS8.out]
          have hby8 : BytesAt w8 w8.heap.size (.slice (some ⟨g, 0, none⟩) L.length cp) K := by
            have h1 := H9.out.1
            rw [← hKl] at h1 ⊢
            exact bytesAt_owned h1
          refine (gets_new w8 K (some ⟨g, 0, none⟩) cp _ hKl.symm hby8 (by intro h; cases h) [(⟨0, 0, N, []⟩, .slice none 0 0)] (all1 (pv_nil _ _ _ _ (i64_lit _ (by omega)) (i64_lit _ (by omega)) (i64_lit _ (by omega)))) (by simp [many]; omega) _ rfl 1 rfl).mono ?_
          rintro e w9 ⟨rfl, hb9⟩
          have own9 := owned_keep H9.out.1 (w' := w9) fun q _ hlt => hb9.block q hlt
          have hR8 : R ≤ w8.heap.size := by have := H9.out.2.size; have := HR.out; omega
          have hs9 := hb9.size
          have H10 := hide (And.intro own9 (H9.out.2.trans (hb9.mono hR8)))
          have h68 : w6.heap.size ≤ w9.heap.size := by have h : g < w8.heap.size := (owned_lt H9.out.1 rfl).2; omega
          clear own9 hb9 hby8
          dsimp only
          go_wp2_with (at_builtin; (refine wpList_app2_w (o := ⟨some 93, _, _, _, _, _⟩) ?hw (.tmp 91) (.tmp 92) 26 rfl w6.heap.size 5 i8 (.int .u8 0) 1 Try.underlying26 hi hz0 hz1 hz2 rfl (.slice (some ⟨g, 0, none⟩) L.length cp) L.length (bv K) (H10.out.1.alloc _) _ 1 1 [.int .u8 0] (src_one _ _ _ rfl) ?h0 ?h1 ?h2 ?h3 rfl rfl ?_))
          case h0 => omega
          case h1 => simp only [maxLen]; omega
          case h2 => omega
          case h3 => rw [size_alloc]; omega
          intro v10 w10 own10 gr10 grew10
          have own10s := own_stays (H10.out.1.alloc _) own10 grew10
          have hR9 : R ≤ w9.heap.size := by omega
          have hb10 : Below R w w10 := (H10.out.2.alloc hR9 _).grown gr10 (by rw [size_alloc]; omega) (fun q hq => by have := (owned_lt H10.out.1 hq).1; have h : R ≤ w6.heap.size := HR6.out; omega)
          obtain ⟨A10, c10, rfl⟩ := owned_slice own10
          have hnil10 := own_nil0 own10
          have hby10 : BytesAt w10 w10.heap.size (.slice A10 (L.length + 1) c10) (K ++ [0]) := by
            have e : (K ++ [0]).length = L.length + 1 := by rw [List.length_append, hKl]; rfl
            have h1 : w10.ownsRow w6.heap.size 5 1 (.slice A10 (L.length + 1) c10) (L.length + 1) (bv (K ++ [0])) := by rw [bvA]; exact own10
            rw [← e] at h1 ⊢
            exact bytesAt_owned h1
          have hs10 := gr10.size
          rw [size_alloc] at hs10
          have H11 := hide (And.intro own10s (And.intro hb10 (And.intro hby10 hnil10)))
          clear own10 gr10 grew10 own10s hb10 hby10 hnil10
          go_wp2_with fail
          refine (gets_new w10 (K ++ [0]) A10 c10 _ (by rw [List.length_append, hKl]; rfl) H11.out.2.2.1 H11.out.2.2.2 [(⟨0, 0, 1099511627776, []⟩, .slice none 0 0)] (all1 (pv_nil _ _ _ _ (i64_lit _ (by omega)) (i64_lit _ (by omega)) (i64_lit _ (by omega)))) (by simp [many]; omega) _ rfl 1 rfl).mono ?_
          rintro e w11 ⟨rfl, hb11⟩
          have own11 := owned_keep H11.out.1 (w' := w11) fun q _ hlt => hb11.block q hlt
          have hs11 := hb11.size
          have H12 := hide (And.intro own11 (H11.out.2.1.trans (hb11.mono (by omega))))
          clear own11 hb11
          dsimp only
          go_wp2_with (at_builtin; (refine wpList_app2_w (o := ⟨some 102, _, _, _, _, _⟩) ?hw2 (.tmp 100) (.tmp 101) 26 rfl w6.heap.size 5 i8 (.int .u8 0) 1 Try.underlying26 hi hz0 hz1 hz2 rfl (.slice (some ⟨g, 0, none⟩) L.length cp) L.length (bv K) (H12.out.1.alloc _) _ 1 1 [.int .u8 1] (src_one _ _ _ rfl) ?h0 ?h1 ?h2 ?h3 rfl rfl ?_))
          case h0 => omega
          case h1 => simp only [maxLen]; omega
          case h2 => omega
          case h3 => rw [size_alloc]; omega
          intro v12 w12 own12 gr12 _
          have hb12 : Below R w w12 := (H12.out.2.alloc (by omega) _).grown gr12 (by rw [size_alloc]; omega) (fun q hq => by have := (owned_lt H12.out.1 hq).1; have h : R ≤ w6.heap.size := HR6.out; omega)
          obtain ⟨A12, c12, rfl⟩ := owned_slice own12
          have hnil12 := own_nil0 own12
          have hby12 : BytesAt w12 w12.heap.size (.slice A12 (L.length + 1) c12) (K ++ [1]) := by
            have e : (K ++ [1]).length = L.length + 1 := by rw [List.length_append, hKl]; rfl
            have h1 : w12.ownsRow w6.heap.size 5 1 (.slice A12 (L.length + 1) c12) (L.length + 1) (bv (K ++ [1])) := by rw [bvA]; exact own12
            rw [← e] at h1 ⊢
            exact bytesAt_owned h1
          have hs12 := gr12.size
          rw [size_alloc] at hs12
          have H13 := hide (And.intro hb12 (And.intro hby12 hnil12))
          clear own12 gr12 hb12 hby12 hnil12
          go_wp2_with fail
          refine (gets_new w12 (K ++ [1]) A12 c12 _ (by rw [List.length_append, hKl]; rfl) H13.out.2.1 H13.out.2.2 [(⟨0, 0, 1099511627776, []⟩, .slice none 0 0)] (all1 (pv_nil _ _ _ _ (i64_lit _ (by omega)) (i64_lit _ (by omega)) (i64_lit _ (by omega)))) (by simp [many]; omega) _ rfl 1 rfl).mono ?_
          rintro e w13 ⟨rfl, hb13⟩
          have H14 := hide (H13.out.1.trans (hb13.mono (by omega)))
          clear hb13
          dsimp only
          go_wp2_with fail
          go_roundw
          case rel => exact ⟨d + 1, by omega, by omega, by go_num, H14.out⟩
          case measure => simp [intOf]; omega
        · obtain rfl : d = 2 := by omega
          go_wp2_with fail
          go_roundw
          case rel => exact ⟨k + 1, by omega, by go_num, H2.out⟩
          case measure => simp [intOf]; omega
    · clear hk
      go_wp2_with fail
      go_loopw [6] (fun v wr => ∃ x : Nat, x ≤ 256 ∧ v = .int .i64 (x : Int) ∧ Below R w wr) (fun v _ => 256 - (intOf v).toNat)
      case atStart => exact ⟨0, by omega, rfl, H1.out⟩
      case round =>
        obtain ⟨x, hx, rfl, hb⟩ := hrel
        have H2 := hide hb
        clear hb
        by_cases hx6 : x < 256
        · have i1 : (0 : Int) ≤ (x : Int) := by omega
          have i2 : (x : Int) < 256 := by omega
          go_wp2_with fail
          go_loopw [7] (fun v wr => ∃ y : Nat, y ≤ 300 ∧ v = .int .i64 (y : Int) ∧ Below R w wr) (fun v _ => 256 - (intOf v).toNat)
          case atStart => exact ⟨0, by omega, rfl, H2.out⟩
          case round =>
            obtain ⟨y, hy, rfl, hb⟩ := hrel
            have H3 := hide hb
            clear hb
            by_cases hy6 : y < 256
            · have j1 : (0 : Int) ≤ (y : Int) := by omega
              have j2 : (y : Int) < 256 := by omega
              have hR1 : R ≤ wr.heap.size := by have := H3.out.size; have := HR.out; omega
              obtain ⟨bx, hbx⟩ : ∃ bx : UInt8, x = bx.toNat := ⟨UInt8.ofNat x, by rw [UInt8.toNat_ofNat']; omega⟩
              obtain ⟨b, hb⟩ : ∃ b : UInt8, y = b.toNat := ⟨UInt8.ofNat y, by rw [UInt8.toNat_ofNat']; omega⟩
              have HB := hide (And.intro hbx hb)
              clear hbx hb
              go_wp2_with fail
              refine (gets_made wr [bx, b, 1] 3 _ (by rw [HB.out.1, HB.out.2]; rfl) rfl [(⟨(x : Int) % 3, 0, (y : Int) % 4 + (x : Int) % 2 * 300, []⟩, .slice none 0 0), (⟨(y : Int) % 3, 0, 2, []⟩, .slice none 0 0)] (fun w => all2 (pv_nil _ _ _ _ (i64_lit _ (by omega)) (i64_lit _ (by omega)) (i64_lit _ (by omega))) (pv_nil _ _ _ _ (i64_lit _ (by omega)) (i64_lit _ (by omega)) (i64_lit _ (by omega)))) (by simp [many]) _ rfl 2 rfl).mono ?_
              rintro e w1 ⟨rfl, hb1⟩
              have H4 := hide (H3.out.trans (hb1.mono hR1))
              clear hb1
              dsimp only
              go_wp2_with fail
              go_roundw
              case rel => exact ⟨y + 1 + x % 3 * 5, by omega, by go_num, H4.out⟩
              case measure => simp [intOf]; omega
            · clear hy
              go_wp2_with fail
              go_roundw
              case rel => exact ⟨x + 1, by omega, by go_num, H3.out⟩
              case measure => simp [intOf]; omega
        · clear hx
          go_wp2_with fail
          refine (long_any _).mono ?_
          rintro e w1 ⟨rfl, hb1⟩
          have hR2 : R ≤ wr.heap.size := by have := H2.out.size; have := HR.out; omega
          have H3 := hide (H2.out.trans (hb1.mono hR2))
          have hs1 := hb1.size
          clear hb1
          dsimp only
          go_wp2_with fail
          refine (none_any _).mono ?_
          rintro e w2 ⟨rfl, hb2⟩
          have H4 := hide (H3.out.trans (hb2.mono (by omega)))
          have hs2 := hb2.size
          clear hb2
          dsimp only
          go_wp2_with fail
          refine (gets_made w2 [5] 1 _ rfl rfl [(⟨1, 0, -1, []⟩, .slice none 0 0)] (fun w => all1 (pv_nil _ _ _ _ (i64_lit _ (by omega)) (i64_lit _ (by omega)) (i64_lit _ (by omega)))) (by simp [many]) _ rfl 1 rfl).mono ?_
          rintro e w3 ⟨rfl, hb⟩
          have H5 := hide (H4.out.trans (hb.mono (by omega)))
          have hsw3 := hb.size
          clear hb
          dsimp only
          go_wp2_with fail
          refine (gets_made w3 [5, 1] 2 _ rfl rfl [(⟨2, 0, -1, []⟩, .slice none 0 0)] (fun w => all1 (pv_nil _ _ _ _ (i64_lit _ (by omega)) (i64_lit _ (by omega)) (i64_lit _ (by omega)))) (by simp [many]) _ rfl 1 rfl).mono ?_
          rintro e w4 ⟨rfl, hb⟩
          have H6 := hide (H5.out.trans (hb.mono (by omega)))
          have hsw4 := hb.size
          clear hb
          dsimp only
          go_wp2_with fail
          refine (gets_made w4 [0] 1 _ rfl rfl [(⟨0, 0, -1, []⟩, .slice none 0 0)] (fun w => all1 (pv_nil _ _ _ _ (i64_lit _ (by omega)) (i64_lit _ (by omega)) (i64_lit _ (by omega)))) (by simp [many]) _ rfl 1 rfl).mono ?_
          rintro e w5 ⟨rfl, hb⟩
          have H7 := hide (H6.out.trans (hb.mono (by omega)))
          have hsw5 := hb.size
          clear hb
          dsimp only
          go_wp2_with fail
          refine (awake1_any _).mono ?_
          rintro e w6 ⟨rfl, hb⟩
          have H8 := hide (H7.out.trans (hb.mono (by omega)))
          clear hb
          dsimp only
          go_wp2_with fail
          go_ret
          exact ⟨rfl, H8.out⟩
end Go.Proofs.Ytjmenaplgndnnaa
namespace Go.Proofs.Ytjmenaplgndnnaa
open Go.ChangeShapes Go.WideShapes Go.ChangeAt Go.RowKit
theorem Try.ownKC : ownKnob Try.prog.godebug = none := by kernel_rfl
set_option maxRecDepth 100000 in
theorem codeEnds_lifted (os : Os) (started : os.Started) (H : Type) (enc : TypeId × Value → H) :
    ReturnsInHanded {} Try.checked os 4 .any (Rows.codeEndsSpec.pre6 enc Try.prog Try.f4 Rows.codeEndsRow.domain false) (Rows.codeEndsSpec.post enc Try.prog Try.f4 false true false false) := by
  refine returnsInHanded_of_change_sized (C := Try.checked) Try.ownKC started (by kernel_rfl) Try.func4
    (ChangeSpec.witness6 (enc := enc) (C := Try.checked) false ⟨#[], #[], []⟩ 8 (by kernel_rfl) (by kernel_rfl) (by kernel_rfl) (by kernel_rfl)) ?_
  intro W base args ds gs before _ hW _ _ _
  have hW' := hW
  obtain ⟨p, q, hA0, hV, rfl, hfz, hnd⟩ := hW
  have hA : DataW.TrodAll enc Try.prog W 0 (fun _ => true) true Try.f4.params.toList args.toList ds p := hA0
  rw [Try.params4] at hA
  obtain ⟨rfl, rfl, rfl⟩ := trodAll_none hA
  obtain ⟨rfl, rfl⟩ := trodVars_none hV
  have fin : ∀ e W', e = Ending.returned (.bool true) ∧ Below W.heap.size W W' → ∃ v, e = .returned v ∧ Rows.codeEndsSpec.post enc Try.prog Try.f4 false true false false W #[] v W' := by
    rintro e W' ⟨rfl, hb⟩
    exact ⟨_, rfl, law_end laidOut hW' rfl rfl (by kernel_rfl) Try.underlying4 (by kernel_rfl) hb⟩
  exact (codeEnds_any W).mono fin

theorem codeEnds_holds : Rows.CodeEndsSaid :=
  OpenClaim.holds_of_wide 4 Try.f4 rfl rfl rfl rfl rfl rfl rfl ⟨rfl, rfl, rfl, rfl, rfl⟩ rfl rfl rfl rfl rfl (by kernel_rfl) Try.func4 (by kernel_rfl)
    (of_decide_eq_true (by kernel_rfl)) (by unfold Func.isWrapper; first | (rw [if_pos (by decide +kernel)]; kernel_rfl) | (rw [if_neg (by decide +kernel)]; exact ⟨rfl, rfl⟩))
    (fun os started H enc _ => codeEnds_lifted os started H enc)
end Go.Proofs.Ytjmenaplgndnnaa
