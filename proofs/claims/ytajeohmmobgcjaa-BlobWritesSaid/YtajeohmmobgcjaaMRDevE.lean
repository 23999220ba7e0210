/- spenceref04: what is read of a sector. a bit is spoilt: the device's, the document's. spenceref04: a bit is spoilt; deeds of the document's device as one's own. -/
import Derived.Test.YtajeohmmobgcjaaMRDevC
section
namespace Go.Proofs.Ytajeohmmobgcjaa
open Go Go.RowKit
theorem last_fold (x : Int) : ∀ (L : List (Int × List UInt8)) (a : List UInt8), L.foldl (fun a p => if p.1 == x then p.2 else a) a = (lastL L x).getD a
  | [], _ => rfl
  | p :: L, a => by
    rw [List.foldl_cons, last_fold x L]
    simp only [lastL, List.reverse_cons, List.find?_append]
    cases hf : L.reverse.find? fun p => p.1 == x with
    | some q => simp
    | none =>
      cases hp : p.1 == x with
      | true => simp [hp]
      | false => simp [hp]
def seenL (L : List (Int × List UInt8)) (x : Int) (a : List UInt8) : List UInt8 := L.foldl (fun a p => if p.1 == x then p.2 else a) a
theorem seen_take (L : List (Int × List UInt8)) (x : Int) (a : List UInt8) (i : Nat) (p : Int × List UInt8) (h : L[i]? = some p) : seenL (L.take (i + 1)) x a = if p.1 == x then p.2 else seenL (L.take i) x a := by
  rw [List.take_add_one, h]
  simp [seenL, List.foldl_append]
theorem seen_len (x : Int) : ∀ (L : List (Int × List UInt8)) (a : List UInt8), (∀ p ∈ L, p.2.length = 64) → a.length = 64 → (seenL L x a).length = 64
  | [], _, _, h => h
  | p :: L, a, hp, h => by
    rw [seenL, List.foldl_cons]
    refine seen_len x L _ (fun q hq => hp q (by simp [hq])) ?_
    split
    · exact hp p (by simp)
    · exact h
set_option maxRecDepth 100000
set_option maxHeartbeats 1000000 in
theorem rread_ok {D : Dv} {F : Nat → Prop} {g : Nat} (x : Nat) (hx : x < D.kept.length) (w : World) (h : RefAt w F g D) (hdn : D.dn = false) (hm : D.pend.length ≤ 100000) :
    Calls Try.prog 65 #[.pointer (some ⟨g, 0, none⟩), .int .i64 (x : Int)] w fun e w' => ∃ v, e = .returned (.tuple #[v, .int .i64 0]) ∧ w'.ownsRow w.heap.size 5 1 v 64 (bv (D.read x)) ∧ Below w.heap.size w w' := by
  obtain ⟨ra, c, vw, us, hr⟩ := h
  obtain ⟨A, cp, rfl⟩ := hr.slice
  obtain ⟨i8, hi8, hz80, hz81, hz82⟩ := info_parts info_1
  have hb := hr.blk
  rw [hdn] at hb
  have c4 := (hb.cell 4).trans (rdv4 ..)
  have c0 := (hb.cell 0).trans (rdv0 ..)
  have hlt := hb.lt
  have hnk := hr.ok.n2
  have i0 : (0 : Int) ≤ (x : Int) := by omega
  have i1 : (x : Int) < (D.kept.length : Int) := by omega
  have i2 : (x : Int) ≤ 8192 := by omega
  obtain ⟨_, _, _, hcc, _⟩ := own_upd hr.all
  have i3 : (x : Int) * 64 + 64 ≤ (c : Int) := by omega
  obtain ⟨b0, hkb⟩ : ∃ b, D.kept[x]? = some b := ⟨D.kept[x]'hx, List.getElem?_eq_getElem _⟩
  have hb064 : b0.length = 64 := hr.ok.k64 b0 (List.mem_of_getElem? hkb)
  have hread : D.read x = seenL D.pend (x : Int) b0 := by
    unfold Dv.read readL seenL
    rw [last_fold]
    simp [List.getD, hkb]
  have HR := hide (And.intro hr (And.intro hb (And.intro hread hkb)))
  clear hb hr hread hkb
  go_enter Try.func65, Try.ntmps65
  go_wp2_with fail
  refine (rsectors_any _ hnk HR.out.2.1).mono ?_
  rintro e w' ⟨rfl, rfl⟩
  have hown0 := owned_new w' 5
  have hB0 : Below w'.heap.size w' (w'.alloc (.cells #[] 5)) := (Below.refl _ _).alloc (Nat.le_refl _) _
  have hsrc0 : Src (w'.alloc (.cells #[] 5)) (some ⟨ra, x * 64, none⟩) 64 (c - x * 64) (bv b0) := ⟨by rw [bvL, hb064], (fun h => (by cases h)), bv1 b0, fun ad had j u hu => by
    injection had with had
    subst had
    rw [Addr.add_mid]
    refine own_range (owned_keepN HR.out.1.all fun k _ hl => hB0.block k hl) (x * 64) 64 (bv b0) ?_ j u hu
    have h := kept_at D.kept x b0 HR.out.1.ok.k64 HR.out.2.2.2
    exact h⟩
  have H0 := hide (And.intro hown0 (And.intro hB0 hsrc0))
  clear hown0 hB0 hsrc0
  dsimp only
  go_wp2_with (at_builtin; (refine wpList_app (o := ⟨some 31, _, _, _, _, _⟩) rfl _ _ 48 rfl w'.heap.size 5 i8 (.int .u8 0) 1 Try.underlying48 hi8 hz80 hz81 hz82 rfl _ 0 [] H0.out.1 (some ⟨ra, x * 64, none⟩) (x * 64 + 64 - x * 64) (c - x * 64) (bv b0) ?h0 ?h1 ?h2 ?h3 rfl rfl ?_))
  case h0 => rw [Nat.add_sub_cancel_left]; exact H0.out.2.2
  case h1 => simp only [maxLen]; omega
  case h2 => omega
  case h3 => rw [size_alloc]; omega
  intro v1 w1 own1 gr1 _ _
  have own1 : w1.ownsRow w'.heap.size 5 1 v1 64 (bv b0) := by simpa using own1
  have hb1 : Below w'.heap.size w' w1 := H0.out.2.1.grown gr1 (by rw [size_alloc]; omega) (fun k hk => by
    injection hk with hk
    change w'.heap.size = k at hk
    omega)
  have H1 := hide (And.intro own1 hb1)
  clear own1 hb1 gr1
  go_wp2_with fail
  go_loopw [6, 7] (fun v iv wr => ∃ i : Nat, i ≤ D.pend.length ∧ iv = .int .i64 (i : Int) ∧ wr.ownsRow w'.heap.size 5 1 v 64 (bv (seenL (D.pend.take i) (x : Int) b0)) ∧ Below w'.heap.size w' wr) (fun _ iv _ => D.pend.length - (intOf iv).toNat)
  case atStart => exact ⟨0, by omega, rfl, H1.out.1, H1.out.2⟩
  case round =>
    obtain ⟨i, hi, rfl, ho, hbel⟩ := hrel
    have hdv := HR.out.2.1.below hbel hlt
    have c1r := (hdv.cell 1).trans (rdv1 ..)
    have hltr := hdv.lt
    have HW := hide (And.intro ho (And.intro hbel hdv))
    clear ho hbel hdv
    by_cases hil : i < D.pend.length
    · have j1 : (i : Int) < (D.pend.length : Int) := by omega
      have j0 : (0 : Int) ≤ (i : Int) := by omega
      obtain ⟨rw_, cap', hvp⟩ := owned_placeN HR.out.1.row (by omega)
      injection hvp with e1 _ e2
      subst e1 e2
      obtain ⟨⟨x0, b⟩, hpj⟩ : ∃ p, D.pend[i]? = some p := ⟨D.pend[i]'hil, List.getElem?_eq_getElem _⟩
      have hb64 : b.length = 64 := (HR.out.1.ok.p64 _ (List.mem_of_getElem? hpj)).1
      obtain ⟨q, c2, hu, _, _, hqo⟩ := HR.out.1.wts.2 i _ hpj
      have hwr : wr.ownsRow 0 126 2 (.slice (some ⟨rw_, 0, none⟩) D.pend.length cp) D.pend.length (waitCells us) := owned_keepN HR.out.1.row fun k _ hl => HW.out.2.1.block k hl
      have hrange : wr.rangeAt rw_ (i * 2) [.int .i64 x0, .slice (some ⟨q, 0, none⟩) 64 c2] := own_range hwr (i * 2) 2 _ (wait_at us i _ hu)
      have cw0 : wr.cell? ⟨rw_, i * 2, none⟩ = some (.int .i64 x0) := hrange 0 _ rfl
      have cw1 : wr.cell? ⟨rw_, i * 2 + 1, none⟩ = some (.slice (some ⟨q, 0, none⟩) 64 c2) := hrange 1 _ rfl
      have hqw : wr.ownsRow 0 5 1 (.slice (some ⟨q, 0, none⟩) 64 c2) 64 (bv b) := owned_keepN hqo fun k _ hl => HW.out.2.1.block k hl
      have hst := seen_take D.pend (x : Int) b0 i _ hpj
      have hown0 : (wr.alloc (.cells #[] 5)).ownsRow w'.heap.size 5 1 (.slice (some ⟨wr.heap.size, 0, none⟩) 0 0) 0 [] := owned_baseN (owned_new wr 5) (fun k hk => by
        have hk : some wr.heap.size = some k := hk
        injection hk with hk
        have := HW.out.2.1.size
        omega)
      have hB0 : Below wr.heap.size wr (wr.alloc (.cells #[] 5)) := (Below.refl _ _).alloc (Nat.le_refl _) _
      have hsrc0 : Src (wr.alloc (.cells #[] 5)) (some ⟨q, 0, none⟩) 64 c2 (bv b) := by
        have h : (wr.alloc (.cells #[] 5)).ownsRow 0 5 1 (.slice (some ⟨q, 0, none⟩) 64 c2) 64 (bv b) := owned_keepN hqw fun k _ hl => hB0.block k hl
        rw [show 64 = b.length from hb64.symm] at h ⊢
        exact owned_src0 h
      have HQ := hide (And.intro hown0 (And.intro hB0 hsrc0))
      have HS := hide hst
      have hwsz := HW.out.2.1.size
      have hrwlt : rw_ < wr.heap.size := World.block_lt_of_cell? wr _ cw0
      clear hown0 hB0 hsrc0 hst hqw hrange hwr hqo hu hpj
      by_cases hxx : x0 = (x : Int)
      · subst hxx
        go_wp2_with (at_builtin; (refine wpList_app (o := ⟨some 60, _, _, _, _, _⟩) rfl _ _ 48 rfl w'.heap.size 5 i8 (.int .u8 0) 1 Try.underlying48 hi8 hz80 hz81 hz82 rfl _ 0 [] HQ.out.1 (some ⟨q, 0, none⟩) 64 c2 (bv b) ?g0 ?g1 ?g2 ?g3 rfl rfl ?_))
        case g0 => exact HQ.out.2.2
        case g1 => simp only [maxLen]; omega
        case g3 => omega
        intro v2 w2 own2 gr2 _ _
        have own2 : w2.ownsRow w'.heap.size 5 1 v2 64 (bv b) := by simpa using own2
        have hb2 : Below w'.heap.size w' w2 := (HW.out.2.1.trans (Below.mono HQ.out.2.1 hwsz)).grown gr2 (by rw [size_alloc]; omega) (fun k hk => by
          have hk : some wr.heap.size = some k := hk
          injection hk with hk
          omega)
        have H2 := hide (And.intro own2 hb2)
        clear own2 hb2 gr2
        go_wp2_with fail
        go_roundw
        case rel =>
          refine ⟨i + 1, by omega, by go_num, ?_, H2.out.2⟩
          rw [HS.out, if_pos (by simp)]
          exact H2.out.1
        case measure => simp [intOf]; omega
      · go_wp2_with fail
        go_roundw
        case rel =>
          refine ⟨i + 1, by omega, by go_num, ?_, HW.out.2.1⟩
          rw [HS.out, if_neg (by simpa using hxx)]
          exact HW.out.1
        case measure => simp [intOf]; omega
    · obtain rfl : i = D.pend.length := by omega
      go_wp2_with fail
      go_ret2
      have h := HW.out
      rw [List.take_length, ← HR.out.2.2.1] at h
      exact ⟨_, rfl, h.1, h.2.1⟩
theorem rread_down {D : Dv} {F : Nat → Prop} {g : Nat} (x : Int) (w : World) (h : RefAt w F g D) (hdn : D.dn = true) : Calls Try.prog 65 #[.pointer (some ⟨g, 0, none⟩), .int .i64 x] w fun e w' => e = .returned (.tuple #[.slice none 0 0, .int .i64 10]) ∧ w' = w := by
  obtain ⟨ra, c, vw, us, hr⟩ := h
  have hb := hr.blk
  rw [hdn] at hb
  have c4 := (hb.cell 4).trans (rdv4 ..)
  have hlt := hb.lt
  clear hb hr
  go_enter Try.func65, Try.ntmps65
  go_wp2
  go_ret2
  exact ⟨rfl, rfl⟩
theorem rread_out {D : Dv} {F : Nat → Prop} {g : Nat} (x : Int) (hx : x < 0 ∨ (D.kept.length : Int) ≤ x) (w : World) (h : RefAt w F g D) (hdn : D.dn = false) : Calls Try.prog 65 #[.pointer (some ⟨g, 0, none⟩), .int .i64 x] w fun e w' => e = .returned (.tuple #[.slice none 0 0, .int .i64 2]) ∧ w' = w := by
  obtain ⟨ra, c, vw, us, hr⟩ := h
  have hb := hr.blk
  have hnk := hr.ok.n2
  rw [hdn] at hb
  have c4 := (hb.cell 4).trans (rdv4 ..)
  have hlt := hb.lt
  have HB := hide hb
  clear hb hr
  by_cases hneg : x < 0
  · clear hx
    go_enter Try.func65, Try.ntmps65
    go_wp2
    go_ret2
    exact ⟨rfl, rfl⟩
  · have i1 : 0 ≤ x := by omega
    have i2 : (D.kept.length : Int) ≤ x := by omega
    clear hx
    go_enter Try.func65, Try.ntmps65
    go_wp2_with fail
    refine (rsectors_any _ hnk HB.out).mono ?_
    rintro e w' ⟨rfl, rfl⟩
    dsimp only
    go_wp2_with fail
    go_ret2
    exact ⟨rfl, rfl⟩
end Go.Proofs.Ytajeohmmobgcjaa
end
section
namespace Go.Proofs.Ytajeohmmobgcjaa
open Go Go.RowKit
theorem wrap8 (z : Int) : 0 ≤ IntKind.u8.wrap z ∧ IntKind.u8.wrap z < 256 := by
  simp [IntKind.wrap, IntKind.signed, IntKind.bits]
  omega
def flip (v : UInt8) (k : Nat) : UInt8 := UInt8.ofNat (bits .xor .u8 (v.toNat : Int) ((2 : Int) ^ k % 256)).toNat
theorem flip_int (v : UInt8) (k : Nat) : ((flip v k).toNat : Int) = bits .xor .u8 (v.toNat : Int) ((2 : Int) ^ k % 256) := by
  have h : 0 ≤ bits .xor .u8 (v.toNat : Int) ((2 : Int) ^ k % 256) ∧ bits .xor .u8 (v.toNat : Int) ((2 : Int) ^ k % 256) < 256 := wrap8 _
  unfold flip
  rw [UInt8.toNat_ofNat']
  omega
theorem bits_and7 (b : Nat) : bits .and .i64 (b : Int) 7 = ((b % 8 : Nat) : Int) := by
  have h1 : (BitVec.ofInt 64 (b : Int) &&& BitVec.ofInt 64 7).toNat = b % 8 := by
    rw [BitVec.toNat_and, BitVec.toNat_ofInt, show (BitVec.ofInt 64 7).toNat = 2 ^ 3 - 1 by decide, Nat.and_two_pow_sub_one_eq_mod, show ((2 ^ 64 : Nat) : Int) = 18446744073709551616 by decide]
    omega
  show IntKind.i64.wrap ((BitVec.ofInt 64 (b : Int) &&& BitVec.ofInt 64 7).toNat : Int) = _
  rw [h1]
  simp [IntKind.wrap, IntKind.signed, IntKind.bits]
  omega
def spoilB (b : List UInt8) (bit : Nat) : List UInt8 := b.set (bit / 8) (flip (b.getD (bit / 8) 0) (bit % 8))
def Dv.spoil (D : Dv) (x bit : Int) : Int × Dv := if (decide (0 ≤ x ∧ x < (D.kept.length : Int)) && decide (0 ≤ bit ∧ bit < 512)) = true then (0, { D with kept := D.kept.set x.toNat (spoilB (D.kept.getD x.toNat []) bit.toNat) }) else (2, D)
theorem flat_set1 {α : Type} {s : Nat} (v : α) : ∀ (l : List (List α)) (k j : Nat) (b : List α), (∀ b ∈ l, b.length = s) → l[k]? = some b → j < s → (l.set k (b.set j v)).flatten = l.flatten.set (k * s + j) v
  | [], _, _, _, _, h, _ => by simp at h
  | b :: l, 0, j, c, hs, h, hj => by
    have h1 := hs b (by simp)
    simp at h
    subst h
    simp only [List.set_cons_zero, List.flatten_cons, Nat.zero_mul, Nat.zero_add]
    rw [List.set_append_left _ _ (by omega)]
  | b :: l, k + 1, j, c, hs, h, hj => by
    have h1 := hs b (by simp)
    simp only [List.set_cons_succ, List.flatten_cons]
    rw [flat_set1 v l k j c (fun d hd => hs d (by simp [hd])) (by simpa using h) hj, List.set_append_right _ _ (by rw [Nat.add_mul]; omega)]
    congr 2
    rw [Nat.add_mul]
    omega
theorem kept_spoil (K : List (List UInt8)) (k bit : Nat) (b : List UInt8) (h : ∀ b ∈ K, b.length = 64) (hk : K[k]? = some b) (hb : bit < 512) : keptCells (K.set k (spoilB b bit)) = (keptCells K).set (k * 64 + bit / 8) (.int .u8 (bits .xor .u8 (((b.getD (bit / 8) 0).toNat : Nat) : Int) ((2 : Int) ^ (bit % 8) % 256))) := by
  rw [kept_bv, kept_bv, spoilB, flat_set1 (s := 64) _ K k (bit / 8) b h hk (by omega)]
  unfold bv
  rw [List.map_set]
  congr 2
  rw [flip_int]
theorem kept_cell (K : List (List UInt8)) (k bit : Nat) (b : List UInt8) (h : ∀ b ∈ K, b.length = 64) (hk : K[k]? = some b) (hb : bit < 512) : (keptCells K)[k * 64 + bit / 8]? = some (.int .u8 ((b.getD (bit / 8) 0).toNat : Int)) := by
  have h1 := kept_at K k b h hk
  have h2 : ((keptCells K).drop (k * 64))[bit / 8]? = (bv b)[bit / 8]? := by
    rw [← h1, List.getElem?_take_of_lt (by omega)]
  rw [List.getElem?_drop] at h2
  rw [h2]
  have hb64 := h b (List.mem_of_getElem? hk)
  simp [bv, List.getD, show bit / 8 < b.length by omega]
/-- one cell of a row of one's own is turned -/
theorem own_set1 {w : World} {base g n cap s : Nat} {e : TypeId} {xs : List Value} (h : w.ownsRow base e s (.slice (some ⟨g, 0, none⟩) n cap) n xs) (o : Nat) (v : Value) (ho : o < n * s) : (w.setCell ⟨g, o, none⟩ v).ownsRow base e s (.slice (some ⟨g, 0, none⟩) n cap) n (xs.set o v) := by
  have h2 := own_setCells h o [v] (by simp; omega)
  have e : xs.take o ++ ([v] ++ xs.drop (o + [v].length)) = xs.set o v := by
    rw [List.set_eq_take_append_cons_drop, if_pos (by have := h.1; omega)]
    simp
  rw [e] at h2
  exact h2
section
variable {D : Dv} {F : Nat → Prop} {g : Nat}
set_option maxRecDepth 100000
set_option maxHeartbeats 1000000 in
theorem spoil_ok (x bit : Nat) (w : World) (h : DevAt w F g D) (hx : x < D.kept.length) (hbit : bit < 512) : Calls Try.prog 69 #[.pointer (some ⟨g, 0, none⟩), .int .i64 (x : Int), .int .i64 (bit : Int)] w fun e w' => e = .returned (.int .i64 0) ∧ Left w F g { D with kept := D.kept.set x (spoilB (D.kept.getD x []) bit) } w' := by
  obtain ⟨rk, c, vp, rfl, hb, hk, hp, hok⟩ := h
  obtain ⟨b0, hkb⟩ : ∃ b, D.kept[x]? = some b := ⟨D.kept[x]'hx, List.getElem?_eq_getElem _⟩
  have c3 := (hb.cell 3).trans (dv3 ..)
  have hlt := hb.lt
  have hnk := hok.n2
  have hrk := (owned_ltN hk (g := rk) rfl).2
  obtain ⟨v0, hv0⟩ : ∃ v, v = b0.getD (bit / 8) 0 := ⟨_, rfl⟩
  have hcell : w.cell? ⟨rk, x * 64 + bit / 8, none⟩ = some (.int .u8 (v0.toNat : Int)) := by
    have hr := own_range hk (x * 64 + bit / 8) 1 [.int .u8 (v0.toNat : Int)] (by
      have h1 := kept_cell D.kept x bit b0 hok.k64 hkb hbit
      rw [← hv0] at h1
      obtain ⟨h2, h3⟩ := List.getElem?_eq_some_iff.1 h1
      rw [List.drop_eq_getElem_cons h2, h3]
      rfl)
    exact hr 0 _ rfl
  have hfr : w.frozen? ⟨rk, x * 64 + bit / 8, none⟩ = false := (own_there hk (x * 64 + bit / 8) 1 (by omega) 0 (by omega)).2
  have i0 : (0 : Int) ≤ (x : Int) := by omega
  have i1 : (x : Int) < (D.kept.length : Int) := by omega
  have j0 : (0 : Int) ≤ (bit : Int) := by omega
  have j1 : (bit : Int) < 512 := by omega
  have hd : decide (0 ≤ (x : Int) ∧ (x : Int) < (D.kept.length : Int)) = true := decide_eq_true ⟨i0, i1⟩
  have HH := hide (And.intro hb (And.intro hk (And.intro hp (And.intro hok (And.intro hkb hv0)))))
  clear hb hk hp hok hkb hv0
  go_enter Try.func69, Try.ntmps69
  go_wp2_with fail
  refine (dnone_any _ HH.out.1).mono ?_
  rintro e w' ⟨rfl, rfl⟩
  dsimp only
  go_wp2_with fail
  refine (has_any _ hnk (x : Int) (by omega) HH.out.1).mono ?_
  rintro e w' ⟨rfl, rfl⟩
  rw [hd]
  dsimp only
  go_wp2_with fail
  refine wp_quiet_tail_drewN 16 (by kernel_rfl) (by kernel_rfl) ?_
  simp only [List.take_succ_cons, List.take_zero, List.drop_succ_cons, List.drop_zero]
  have hand := bits_and7 bit
  have hm8 : bit % 8 < 8 := Nat.mod_lt _ (by omega)
  repeat (go_big_quiet_step (fail))
  refine wpQuiet_nil ?_
  intro nq
  go_wp2_with fail
  go_ret
  obtain ⟨hb, hk, hp, hok, hkb, hv0⟩ := HH.out
  have hkg : rk ≠ g := fun e => owned_neN hk hb (by decide) (by rw [← e]; rfl)
  have hpr : vp.ownBlock ≠ some rk := fun e => owned_ne2 hp hk (by decide) e rfl rfl
  have hset := own_set1 (owned_keepN hk fun k _ _ => rfl : (w'.drewN nq).ownsRow 0 109 64 (.slice (some ⟨rk, 0, none⟩) D.kept.length c) D.kept.length (keptCells D.kept)) (x * 64 + bit / 8) (.int .u8 (bits .xor .u8 (v0.toNat : Int) ((2 : Int) ^ (bit % 8) % 256))) (by omega)
  have hks := kept_spoil D.kept x bit b0 hok.k64 hkb hbit
  rw [← hv0] at hks
  rw [← hks] at hset
  have hget : D.kept.getD x [] = b0 := by simp [List.getD, hkb]
  have hb064 : b0.length = 64 := hok.k64 b0 (List.mem_of_getElem? hkb)
  refine ⟨rfl, Foot g rk vp, ⟨rk, c, vp, rfl, ?_, ?_, ?_, ?_⟩, ?_, fun _ h => .inl h⟩
  · show Blk _ g 107 (dv D.de D.fu D.dn (.slice (some ⟨rk, 0, none⟩) (D.kept.set x (spoilB (D.kept.getD x []) bit)).length c) vp)
    rw [List.length_set]
    exact (Below.heap_setCell (w'.drewN nq) ⟨rk, x * 64 + bit / 8, none⟩ _ g (fun e => hkg (e.symm))).trans hb
  · show World.ownsRow _ 0 109 64 (.slice (some ⟨rk, 0, none⟩) (D.kept.set x (spoilB (D.kept.getD x []) bit)).length c) (D.kept.set x (spoilB (D.kept.getD x []) bit)).length (keptCells (D.kept.set x (spoilB (D.kept.getD x []) bit)))
    rw [List.length_set, hget]
    exact hset
  · refine owned_keepN hp fun k hk2 _ => Below.heap_setCell (w'.drewN nq) ⟨rk, x * 64 + bit / 8, none⟩ _ k (fun e => ?_)
    have e : k = rk := e
    exact hpr (by rw [hk2, e])
  · refine ⟨by rw [List.length_set]; exact hok.n1, by rw [List.length_set]; exact hok.n2, fun b hbm => ?_, fun p hp2 => by rw [List.length_set]; exact hok.p64 p hp2, hok.de, hok.fu⟩
    rw [hget] at hbm
    rcases List.mem_or_eq_of_mem_set hbm with h | h
    · exact hok.k64 b h
    · rw [h, spoilB, List.length_set]
      exact hb064
  · exact ((Turned.refl (S := Foot g rk vp) w').drewN nq).setCell (fun _ => .inr (.inl rfl)) _
theorem spoilDev_any (x bit : Int) (w : World) (h : DevAt w F g D) (hx : -9223372036854775808 ≤ x ∧ x ≤ 9223372036854775807) (hbit : -9223372036854775808 ≤ bit ∧ bit ≤ 9223372036854775807) : Calls Try.prog 69 #[.pointer (some ⟨g, 0, none⟩), .int .i64 x, .int .i64 bit] w fun e w' => e = .returned (.int .i64 (D.spoil x bit).1) ∧ Left w F g (D.spoil x bit).2 w' := by
  by_cases hin : 0 ≤ x ∧ x < (D.kept.length : Int)
  · by_cases hb : 0 ≤ bit ∧ bit < 512
    · rw [show D.spoil x bit = (0, { D with kept := D.kept.set x.toNat (spoilB (D.kept.getD x.toNat []) bit.toNat) }) by simp [Dv.spoil, hin, hb]]
      have h2 := spoil_ok x.toNat bit.toNat w h (by omega) (by omega)
      rw [Int.toNat_of_nonneg hin.1, Int.toNat_of_nonneg hb.1] at h2
      exact h2
    · rw [show D.spoil x bit = (2, D) by simp [Dv.spoil, hb]]
      have h0 := h
      obtain ⟨rk, c, vp, rfl, hbk, hk, hp, hok⟩ := h
      have hnk := hok.n2
      have HH := hide (And.intro hbk h0)
      have hd : decide (0 ≤ x ∧ x < (D.kept.length : Int)) = true := decide_eq_true hin
      have hx1 := hx.1
      have hx2 := hx.2
      have hb1 := hbit.1
      have hb2 := hbit.2
      have hwr : 512 ≤ IntKind.u64.wrap bit := by
        simp [IntKind.wrap, IntKind.signed, IntKind.bits]
        omega
      clear hbk h0 hk hp hok hin hx hbit hb
      go_enter Try.func69, Try.ntmps69
      go_wp2_with fail
      refine (dnone_any _ HH.out.1).mono ?_
      rintro e w' ⟨rfl, rfl⟩
      dsimp only
      go_wp2_with fail
      refine (has_any _ hnk x (by omega) HH.out.1).mono ?_
      rintro e w' ⟨rfl, rfl⟩
      rw [hd]
      dsimp only
      go_wp2_with fail
      go_ret
      exact ⟨rfl, .same HH.out.2⟩
  · rw [show D.spoil x bit = (2, D) by simp [Dv.spoil, hin]]
    have h0 := h
    obtain ⟨rk, c, vp, rfl, hbk, hk, hp, hok⟩ := h
    have hnk := hok.n2
    have HH := hide (And.intro hbk h0)
    have hd : decide (0 ≤ x ∧ x < (D.kept.length : Int)) = false := decide_eq_false hin
    clear hbk h0 hk hp hok hin
    go_enter Try.func69, Try.ntmps69
    go_wp2_with fail
    refine (dnone_any _ HH.out.1).mono ?_
    rintro e w' ⟨rfl, rfl⟩
    dsimp only
    go_wp2_with fail
    refine (has_any _ hnk x hx HH.out.1).mono ?_
    rintro e w' ⟨rfl, rfl⟩
    rw [hd]
    dsimp only
    go_wp2_with fail
    go_ret
    exact ⟨rfl, .same HH.out.2⟩
end
end Go.Proofs.Ytajeohmmobgcjaa
end
section
namespace Go.Proofs.Ytajeohmmobgcjaa
open Go Go.RowKit
section
variable {D : Dv} {F : Nat → Prop} {g : Nat}
set_option maxRecDepth 100000
set_option maxHeartbeats 1000000 in
theorem rspoil_ok (x bit : Nat) (w : World) (h : RefAt w F g D) (hx : x < D.kept.length) (hbit : bit < 512) : Calls Try.prog 70 #[.pointer (some ⟨g, 0, none⟩), .int .i64 (x : Int), .int .i64 (bit : Int)] w fun e w' => e = .returned (.int .i64 0) ∧ RLeft w F g { D with kept := D.kept.set x (spoilB (D.kept.getD x []) bit) } w' := by
  obtain ⟨ra, c, vw, us, hr⟩ := h
  have hb := hr.blk
  have hk := hr.all
  obtain ⟨b0, hkb⟩ : ∃ b, D.kept[x]? = some b := ⟨D.kept[x]'hx, List.getElem?_eq_getElem _⟩
  have c0 := (hb.cell 0).trans (rdv0 ..)
  have hlt := hb.lt
  have hnk := hr.ok.n2
  have hra := (owned_ltN hk (g := ra) rfl).2
  obtain ⟨v0, hv0⟩ : ∃ v, v = b0.getD (bit / 8) 0 := ⟨_, rfl⟩
  have hcell : w.cell? ⟨ra, x * 64 + bit / 8, none⟩ = some (.int .u8 (v0.toNat : Int)) := by
    have hr := own_range hk (x * 64 + bit / 8) 1 [.int .u8 (v0.toNat : Int)] (by
      have h1 := kept_cell D.kept x bit b0 hr.ok.k64 hkb hbit
      rw [← hv0] at h1
      obtain ⟨h2, h3⟩ := List.getElem?_eq_some_iff.1 h1
      rw [List.drop_eq_getElem_cons h2, h3]
      rfl)
    exact hr 0 _ rfl
  have hfr : w.frozen? ⟨ra, x * 64 + bit / 8, none⟩ = false := (own_there hk (x * 64 + bit / 8) 1 (by omega) 0 (by omega)).2
  have i0 : (0 : Int) ≤ (x : Int) := by omega
  have i1 : (x : Int) < (D.kept.length : Int) := by omega
  have j0 : (0 : Int) ≤ (bit : Int) := by omega
  have j1 : (bit : Int) < 512 := by omega
  have hxb : x * 64 + bit / 8 < D.kept.length * 64 := by omega
  have k0 : (0 : Int) ≤ (x : Int) * 64 + (bit : Int) / 8 := by omega
  have k1 : (x : Int) * 64 + (bit : Int) / 8 < (D.kept.length : Int) * 64 := by omega
  have hm8 : bit % 8 < 8 := Nat.mod_lt _ (by omega)
  have HH := hide (And.intro hr (And.intro hb (And.intro hk (And.intro hkb hv0))))
  clear hb hk hr hkb hv0
  go_enter Try.func70, Try.ntmps70
  go_wp2_with fail
  refine (rsectors_any _ hnk HH.out.2.1).mono ?_
  rintro e w' ⟨rfl, rfl⟩
  dsimp only
  go_wp2_with fail
  refine wp_quiet_tail_drewN 17 (by kernel_rfl) (by kernel_rfl) ?_
  simp only [List.take_succ_cons, List.take_zero, List.drop_succ_cons, List.drop_zero]
  repeat (go_big_quiet_step (fail))
  refine wpQuiet_nil ?_
  intro nq
  go_wp2_with fail
  go_ret
  obtain ⟨hr, hb, hk, hkb, hv0⟩ := HH.out
  have hkg : ra ≠ g := fun e => owned_neN hk hb (by decide) (by rw [← e]; rfl)
  have hset := own_set1 (owned_keepN hk fun k _ _ => rfl : (w'.drewN nq).ownsRow 0 5 1 (.slice (some ⟨ra, 0, none⟩) (D.kept.length * 64) c) (D.kept.length * 64) (keptCells D.kept)) (x * 64 + bit / 8) (.int .u8 (bits .xor .u8 (v0.toNat : Int) ((2 : Int) ^ (bit % 8) % 256))) (by omega)
  have hks := kept_spoil D.kept x bit b0 hr.ok.k64 hkb hbit
  rw [← hv0] at hks
  rw [← hks] at hset
  have hget : D.kept.getD x [] = b0 := by simp [List.getD, hkb]
  have hb064 : b0.length = 64 := hr.ok.k64 b0 (List.mem_of_getElem? hkb)
  have hoth : ∀ k, k ≠ ra → ((w'.drewN nq).setCell ⟨ra, x * 64 + bit / 8, none⟩ (.int .u8 (bits .xor .u8 (v0.toNat : Int) ((2 : Int) ^ (bit % 8) % 256)))).heap[k]? = w'.heap[k]? := fun k hne => Below.heap_setCell (w'.drewN nq) ⟨ra, x * 64 + bit / 8, none⟩ _ k hne
  have hT : Turned F w' ((w'.drewN nq).setCell ⟨ra, x * 64 + bit / 8, none⟩ (.int .u8 (bits .xor .u8 (v0.toNat : Int) ((2 : Int) ^ (bit % 8) % 256)))) := ((Turned.refl (S := F) w').drewN nq).setCell (fun _ => hr.fa) _
  have hlen : (D.kept.set x (spoilB (D.kept.getD x []) bit)).length = D.kept.length := List.length_set
  refine ⟨rfl, F, ⟨ra, c, vw, us, hr.fg, hr.fa, hr.fw, fun k hf => Nat.lt_of_lt_of_le (hr.flt k hf) hT.size, ?_, ?_, ?_, ?_, ?_⟩, hT, fun _ h => .inl h⟩
  · show Blk _ g 82 (rdv (.slice (some ⟨ra, 0, none⟩) ((D.kept.set x (spoilB (D.kept.getD x []) bit)).length * 64) c) vw D.de D.fu D.dn)
    rw [hlen]
    exact (hoth g (fun e => hkg e.symm)).trans hb
  · show World.ownsRow _ 0 5 1 (.slice (some ⟨ra, 0, none⟩) ((D.kept.set x (spoilB (D.kept.getD x []) bit)).length * 64) c) ((D.kept.set x (spoilB (D.kept.getD x []) bit)).length * 64) (keptCells (D.kept.set x (spoilB (D.kept.getD x []) bit)))
    rw [hlen, hget]
    exact hset
  · exact owned_keepN hr.row fun k hk2 _ => hoth k (fun e => owned_ne2 hr.row hk (by decide) hk2 rfl e)
  · refine ⟨hr.wts.1, fun i p hp => ?_⟩
    obtain ⟨q, c2, e1, e2, e3, e4⟩ := hr.wts.2 i p hp
    exact ⟨q, c2, e1, e2, e3, owned_keepN e4 fun k hk2 _ => hoth k (by
      have hk2 : some q = some k := hk2
      injection hk2 with hk2
      rw [← hk2]
      exact e3)⟩
  · have hok := hr.ok
    refine ⟨by rw [hlen]; exact hok.n1, by rw [hlen]; exact hok.n2, fun b hbm => ?_, fun p hp2 => by rw [hlen]; exact hok.p64 p hp2, hok.de, hok.fu⟩
    rw [hget] at hbm
    rcases List.mem_or_eq_of_mem_set hbm with h | h
    · exact hok.k64 b h
    · rw [h, spoilB, List.length_set]
      exact hb064
theorem rspoil_any (x bit : Int) (w : World) (h : RefAt w F g D) : Calls Try.prog 70 #[.pointer (some ⟨g, 0, none⟩), .int .i64 x, .int .i64 bit] w fun e w' => e = .returned (.int .i64 (D.spoil x bit).1) ∧ RLeft w F g (D.spoil x bit).2 w' := by
  by_cases hin : 0 ≤ x ∧ x < (D.kept.length : Int)
  · by_cases hb : 0 ≤ bit ∧ bit < 512
    · rw [show D.spoil x bit = (0, { D with kept := D.kept.set x.toNat (spoilB (D.kept.getD x.toNat []) bit.toNat) }) by simp [Dv.spoil, hin, hb]]
      have h2 := rspoil_ok x.toNat bit.toNat w h (by omega) (by omega)
      rw [Int.toNat_of_nonneg hin.1, Int.toNat_of_nonneg hb.1] at h2
      exact h2
    · rw [show D.spoil x bit = (2, D) by simp [Dv.spoil, hb]]
      have h0 := h
      obtain ⟨ra, c, vw, us, hr⟩ := h
      have hnk := hr.ok.n2
      have HH := hide (And.intro hr.blk h0)
      have hx1 := hin.1
      have hx2 := hin.2
      clear hr h0 hin
      by_cases hneg : bit < 0
      · clear hb
        go_enter Try.func70, Try.ntmps70
        go_wp2_with fail
        refine (rsectors_any _ hnk HH.out.1).mono ?_
        rintro e w' ⟨rfl, rfl⟩
        dsimp only
        go_wp2_with fail
        go_ret
        exact ⟨rfl, .same HH.out.2⟩
      · have hb1 : 0 ≤ bit := by omega
        have hb2 : 512 ≤ bit := by omega
        clear hb
        go_enter Try.func70, Try.ntmps70
        go_wp2_with fail
        refine (rsectors_any _ hnk HH.out.1).mono ?_
        rintro e w' ⟨rfl, rfl⟩
        dsimp only
        go_wp2_with fail
        go_ret
        exact ⟨rfl, .same HH.out.2⟩
  · rw [show D.spoil x bit = (2, D) by simp [Dv.spoil, hin]]
    have h0 := h
    obtain ⟨ra, c, vw, us, hr⟩ := h
    have hnk := hr.ok.n2
    have HH := hide (And.intro hr.blk h0)
    clear hr h0
    by_cases hneg : x < 0
    · clear hin
      go_enter Try.func70, Try.ntmps70
      go_wp2_with fail
      go_ret
      exact ⟨rfl, .same HH.out.2⟩
    · have hx1 : 0 ≤ x := by omega
      have hx2 : (D.kept.length : Int) ≤ x := by omega
      clear hin
      go_enter Try.func70, Try.ntmps70
      go_wp2_with fail
      refine (rsectors_any _ hnk HH.out.1).mono ?_
      rintro e w' ⟨rfl, rfl⟩
      dsimp only
      go_wp2_with fail
      go_ret
      exact ⟨rfl, .same HH.out.2⟩
end
/-- the device and the document's, both one's own, apart -/
structure Two (R : Nat) (w0 w : World) (Fd Fr : Nat → Prop) (g r : Nat) (D E : Dv) : Prop where
  mine : Mine R w0 w Fd g D
  ref : RefAt w Fr r E
  low : ∀ k, Fr k → R ≤ k
  apart : ∀ k, Fd k → ¬ Fr k
section
variable {R g r : Nat} {w0 w w' : World} {Fd Fr : Nat → Prop} {D E D' E' : Dv}
theorem Mine.deal2 (h : Mine R w0 w Fd g D) (hR : R ≤ w0.heap.size) (hl : Left w Fd g D' w') : ∃ F', Mine R w0 w' F' g D' ∧ Turned Fd w w' ∧ ∀ k, F' k → Fd k ∨ w.heap.size ≤ k := by
  obtain ⟨F', h1, h2, h3⟩ := hl
  have hs := h.bel.size
  refine ⟨F', ⟨h1, ⟨h2.os.trans h.bel.os, h2.tape.trans h.bel.tape, h2.output.trans h.bel.output, Nat.le_trans hs h2.size, fun k hk => (h2.block k (by omega) (fun hf => by have := h.low k hf; omega)).trans (h.bel.block k hk)⟩, fun k hk => ?_⟩, h2, h3⟩
  rcases h3 k hk with h3 | h3
  · exact h.low k h3
  · omega
theorem Two.dev (h : Two R w0 w Fd Fr g r D E) (hR : R ≤ w0.heap.size) (hl : Left w Fd g D' w') : ∃ F', Two R w0 w' F' Fr g r D' E := by
  obtain ⟨F', h1, h2, h3⟩ := h.mine.deal2 hR hl
  refine ⟨F', h1, h.ref.keep h2.size fun k hk hf => h2.block k hk fun hd => h.apart k hd hf, h.low, fun k hk hf => ?_⟩
  rcases h3 k hk with hd | hn
  · exact h.apart k hd hf
  · have := h.ref.lt k hf; omega
theorem Two.doc (h : Two R w0 w Fd Fr g r D E) (hR : R ≤ w0.heap.size) (hl : RLeft w Fr r E' w') : ∃ F', Two R w0 w' Fd F' g r D E' := by
  obtain ⟨F', h1, h2, h3⟩ := hl
  have hs := h.mine.bel.size
  refine ⟨F', ⟨h.mine.dev.keep fun k hk hf => h2.block k hk fun hr => h.apart k hf hr, ⟨h2.os.trans h.mine.bel.os, h2.tape.trans h.mine.bel.tape, h2.output.trans h.mine.bel.output, Nat.le_trans hs h2.size, fun k hk => (h2.block k (by omega) (fun hf => by have := h.low k hf; omega)).trans (h.mine.bel.block k hk)⟩, h.mine.low⟩, h1, fun k hk => ?_, fun k hk hf => ?_⟩
  · rcases h3 k hk with h3 | h3
    · exact h.low k h3
    · omega
  · rcases h3 k hf with hr | hn
    · exact h.apart k hk hr
    · have := h.mine.dev.lt k hk; omega
theorem Two.grow (h : Two R w0 w Fd Fr g r D E) (hR : R ≤ w0.heap.size) (hb : Below w.heap.size w w') : Two R w0 w' Fd Fr g r D E :=
  ⟨h.mine.grow hR hb, h.ref.keep hb.size fun k hk _ => hb.block k hk, h.low, h.apart⟩
end
end Go.Proofs.Ytajeohmmobgcjaa
end
