/- The walks of hash.length and hash.Of. -/
import Derived.Test.YtjmenaplgndnnaaMaker3
import Derived.Test.YtjmenaplgndnnaaLent
namespace Go.Proofs.Ytjmenaplgndnnaa
open Go.RowKit
set_option maxRecDepth 100000 in
set_option maxHeartbeats 400000 in
theorem length_any (n : Nat) (hn : n ≤ 1099511627776) (w : World) :
    Calls Try.prog 55 #[.int .i64 (n : Int)] w fun e w' => ∃ v', e = .returned v' ∧ w'.ownsRow w.heap.size 5 1 v' (num n).length (bv (num n)) ∧ Below w.heap.size w w' := by
  go_enter Try.func55, Try.ntmps55
  go_wp2_with fail
  have hm0 : MkAt ((w.alloc (.cells #[.slice none 0 0, .bool false] 30)).alloc (.cells #[.int .i64 (n : Int)] 3)) w.heap.size w.heap.size 30 [] false (.slice none 0 0) :=
    ⟨(Blk.new w _ _).alloc _, rfl, .inl ⟨rfl, rfl⟩⟩
  have hA0 : ((w.alloc (.cells #[.slice none 0 0, .bool false] 30)).alloc (.cells #[.int .i64 (n : Int)] 3)).cell? ⟨w.heap.size + 1, 0, none⟩ = some (.int .i64 (n : Int)) :=
    (Blk.new1 w (.cells #[.slice none 0 0, .bool false] 30) 3 #[.int .i64 (n : Int)]).cell 0
  have HM := hide hm0
  have HA := hide hA0
  clear hm0 hA0
  refine (mnum_any (n : Int) (by omega) [] (by simp) false w.heap.size w.heap.size 30 (by decide) (.slice none 0 0) (w.heap.size + 1) _ (by rw [size_alloc, size_alloc]; omega) HM.out HA.out).mono ?_
  rintro e w1 ⟨rfl, v1, hm1, ht1, hmv1⟩
  have hmk : mkNum [] false (n : Int) = (num n, false) := by rw [mkNum, if_pos (by omega), if_neg (by simp)]; simp
  rw [hmk] at hm1
  have hN := num_len n (by omega)
  have HM1 := hide hm1
  have HT1 := hide ht1
  clear hm1 ht1 hmv1 hmk
  dsimp only
  go_wp2_with (go_at_call 17; refine (done_ok (num n) (by omega) w.heap.size w.heap.size 30 v1 _ HM1.out).mono ?_; rintro e w2 ⟨v2, rfl, own2, hb2⟩)
  go_ret
  have hs1 := HT1.out.size
  simp only [size_alloc] at hs1
  have hb1 : Below w.heap.size w w1 := HT1.out.below_new (a := w) (((Below.refl _ _).alloc (Nat.le_refl _) _).alloc (by rw [size_alloc]; omega) _) (fun k _ hk => by
    rcases hk with rfl | hk
    · exact Nat.le_refl _
    · cases hk)
  exact ⟨v2, rfl, owned_base own2 (fun g hg => by have := (owned_lt own2 hg).1; omega), hb1.trans (hb2.mono hb1.size)⟩
/-- the cells of a text, in a block of bytes -/
def TextAt (w : World) (e : TypeId) (g : Nat) (s : ByteArray) : Prop := (∃ cs fz, w.heap[g]? = some (.cells cs e fz)) ∧ ∀ j, j < s.size → w.cell? ⟨g, j, none⟩ = some (.int .u8 ((s.data.toList.getD j 0).toNat : Int))
/-- a text as bytes, the world behind it a variable -/
theorem wpList_text {P : Program} {ops : Array Oper} {rest : List Oper} {o : Oper} {a : Act} {w : World} {Q : Exit → Act → World → Prop} (hg : o.guard = none) (src dst e : TypeId) (x : Operand) (ho : o.op = .convert src dst x)
    (hs : P.underlying src = some .string) (hd : P.underlying dst = some (.slice e)) (he : P.underlying e = some (.int .u8)) (s : ByteArray) (hx : a.eval x = .string s)
    (h : ∀ g cap w', TextAt w' e g s → s.size ≤ cap → w.heap.size ≤ g → g < w'.heap.size → Below w.heap.size w w' →
      wpList P ops Q rest (a.put o.dst (.slice (some ⟨g, 0, none⟩) s.size cap)) w') : wpList P ops Q (o :: rest) a w :=
  wpList_plain hg fun K hK => by
    unfold Oper.wp execOp
    simp only [ho, hx, Sem.run_bind, run_bytes_of_string w src dst e s hs hd he, Result.andThen_ok, Sem.run_pure]
    refine hK _ _ (h w.heap.size (grownCap w s.size 0 e) _ ⟨?_, ?_⟩ (grownCap_ge w s.size 0 e) (Nat.le_refl _) ?_ ?_)
    · exact ⟨_, _, heap_alloc_new w.drew _⟩
    · intro j hj
      refine (World.cell?_alloc_mark w.drew _ e _ j).trans ?_
      rw [bytesRow_at s _ j hj]
      have hj' : j < s.data.size := hj
      simp [List.getD, Array.getElem?_eq_getElem hj']
    · show _ < (w.heap.push _).size
      simp
    · exact ((Below.refl _ _).drew).alloc (Nat.le_refl _) _
/-- bytes that can be read, and that lie ahead of a block, or in a block of bytes -/
def TB (w : World) (base : Nat) (u : Value) (l : List UInt8) : Prop :=
  ∃ A cap, u = .slice A l.length cap ∧ l.length ≤ cap ∧ (0 < l.length → ∃ b off, A = some ⟨b, off, none⟩ ∧ b < w.heap.size ∧ (b < base ∨ ∃ cs fz, w.heap[b]? = some (.cells cs 5 fz)) ∧ ∀ j, j < l.length → w.cell? ⟨b, off + j, none⟩ = some (.int .u8 ((l.getD j 0).toNat : Int)))
theorem TB.bytes {w : World} {base : Nat} {u : Value} {l : List UInt8} (h : TB w base u l) : BytesAt w w.heap.size u l := by
  obtain ⟨A, cap, hu, hc, hA⟩ := h
  exact ⟨A, cap, hu, hc, fun h0 => by obtain ⟨b, off, h1, h2, _, h3⟩ := hA h0; exact ⟨b, off, h1, h2, h3⟩⟩
theorem TB.keep {w w' : World} {base : Nat} {u : Value} {l : List UInt8} (h : TB w base u l) (hs : w.heap.size ≤ w'.heap.size) (hk : ∀ b, b < w.heap.size → (b < base ∨ ∃ cs fz, w.heap[b]? = some (.cells cs 5 fz)) → w'.heap[b]? = w.heap[b]?) : TB w' base u l := by
  obtain ⟨A, cap, hu, hc, hA⟩ := h
  refine ⟨A, cap, hu, hc, fun h0 => ?_⟩
  obtain ⟨b, off, h1, h2, h3, h4⟩ := hA h0
  have e := hk b h2 h3
  refine ⟨b, off, h1, by omega, ?_, fun j hj => (World.cell?_of_block e).trans (h4 j hj)⟩
  rcases h3 with h3 | ⟨cs, fz, h3⟩
  · exact .inl h3
  · exact .inr ⟨cs, fz, e.trans h3⟩
theorem TB.below {w w' : World} {base : Nat} {u : Value} {l : List UInt8} (h : TB w base u l) (hb : Below w.heap.size w w') : TB w' base u l := h.keep hb.size fun b hb' _ => hb.block b hb'
theorem TB.of_bytes {w : World} {B base : Nat} {u : Value} {l : List UInt8} (h : BytesAt w B u l) (hB : B ≤ base) (hw : B ≤ w.heap.size) : TB w base u l := by
  obtain ⟨A, cap, hu, hc, hA⟩ := h
  exact ⟨A, cap, hu, hc, fun h0 => by obtain ⟨b, off, h1, h2, h3⟩ := hA h0; exact ⟨b, off, h1, by omega, .inl (by omega), h3⟩⟩
theorem TB.of_owned {w : World} {base base' : Nat} {u : Value} {l : List UInt8} (h : w.ownsRow base' 5 1 u l.length (bv l)) : TB w base u l := by
  obtain ⟨A, cap, hu, hc, hA⟩ := bytesAt_owned h
  refine ⟨A, cap, hu, hc, fun h0 => ?_⟩
  obtain ⟨b, off, h1, h2, h3⟩ := hA h0
  refine ⟨b, off, h1, h2, .inr ?_, h3⟩
  subst h1
  rcases owned_form h with ⟨e, _⟩ | ⟨g, cp, cur, e, _, _, _, hb, _⟩
  · rw [hu] at e; injection e with e; cases e
  · rw [hu] at e
    injection e with e
    injection e with e
    injection e with e
    subst e
    exact ⟨cur, (0, 0), hb⟩
theorem TB.of_text {w : World} {base g cap : Nat} {s : ByteArray} (hc : s.size ≤ cap) (hg : g < w.heap.size) (h : TextAt w 5 g s) :
    TB w base (.slice (some ⟨g, 0, none⟩) s.size cap) s.data.toList :=
  ⟨_, cap, by simp, by simpa using hc, fun _ => ⟨g, 0, rfl, hg, .inr h.1, fun j hj => by rw [Nat.zero_add]; exact h.2 j (by simpa using hj)⟩⟩
theorem TB.one {w : World} {base : Nat} {u : Value} {l : List UInt8} (h : TB w base u l) : u.oneCell' = true := by
  obtain ⟨_, _, rfl, _⟩ := h
  rfl
/-- a row of texts that one owns -/
structure TRow (w : World) (base : Nat) (v : Value) (us : List Value) (ls : List (List UInt8)) : Prop where
  own : w.ownsRow base 26 1 v us.length us
  len : us.length = ls.length
  at_ : ∀ j, j < ls.length → TB w base (us.getD j undef) (ls.getD j [])
theorem TRow.keep {w w' : World} {base : Nat} {v : Value} {us : List Value} {ls : List (List UInt8)} (h : TRow w base v us ls) (hb : Below w.heap.size w w') : TRow w' base v us ls :=
  ⟨owned_keep h.own fun g _ hlt => hb.block g hlt, h.len, fun j hj => (h.at_ j hj).below hb⟩
theorem TRow.one {w : World} {base : Nat} {v : Value} {us : List Value} {ls : List (List UInt8)} (h : TRow w base v us ls) : ∀ u ∈ us, u.oneCell' = true := by
  intro u hu
  obtain ⟨j, hj⟩ := List.getElem?_of_mem hu
  have hjl : j < us.length := (List.getElem?_eq_some_iff.1 hj).1
  have := (h.at_ j (by rw [← h.len]; exact hjl)).one
  rwa [List.getD_eq_getElem?_getD, hj] at this
theorem TRow.parts {w : World} {base : Nat} {v : Value} {us : List Value} {ls : List (List UInt8)} (h : TRow w base v us ls) : PartsAt w w.heap.size v ls := by
  have hl := h.len
  rcases owned_form h.own with ⟨rfl, h0, _⟩ | ⟨g, cap, cur, rfl, _, hc, _, hb, _, ht, hlt⟩
  · exact ⟨none, 0, by rw [← hl, h0], by omega, fun h => by omega⟩
  · refine ⟨_, cap, by rw [hl], by omega, fun _ => ⟨g, 0, rfl, hlt, fun j hj => ⟨us.getD j undef, ?_, (h.at_ j hj).bytes⟩⟩⟩
    rw [Nat.zero_add, hb.cell]
    have h1 : cur.toList[j]? = us[j]? := by
      rw [← ht, List.getElem?_take_of_lt (by omega)]
    rw [← Array.getElem?_toList, h1, List.getD_eq_getElem?_getD, List.getElem?_eq_getElem (by omega)]
    rfl
/-- the row grown by texts that are there -/
theorem TRow.grow {w w' : World} {base : Nat} {v v' : Value} {us ns : List Value} {ls ms : List (List UInt8)} (h : TRow w base v us ls) (hv : ∀ g, v.ownBlock = some g → base ≤ g) (ho : w'.ownsRow base 26 1 v' (us.length + ns.length) (us ++ ns)) (hg : w.grownBy w' v.ownBlock)
    (hn : ns.length = ms.length) (hm : ∀ j, j < ms.length → TB w base (ns.getD j undef) (ms.getD j [])) : TRow w' base v' (us ++ ns) (ls ++ ms) := by
  have hk : ∀ (u : Value) (l : List UInt8), TB w base u l → TB w' base u l := fun u l ht => ht.keep hg.size fun b hb hor => by
    refine hg.block b hb fun e => ?_
    rcases hor with hlt | ⟨cs, fz, hh⟩
    · have := hv b e.symm; omega
    · rcases owned_form h.own with ⟨rfl, _⟩ | ⟨q, cap, cur, rfl, _, _, _, hq, _⟩
      · cases e
      · injection e with e
        change b = q at e
        subst e
        unfold Blk at hq
        rw [hq] at hh
        injection hh with hh
        injection hh with _ hh
        exact absurd hh (by decide)
  have hl := h.len
  refine ⟨by rw [List.length_append]; exact ho, by rw [List.length_append, List.length_append, hl, hn], fun j hj => ?_⟩
  rw [List.length_append] at hj
  by_cases hjl : j < ls.length
  · have := hk _ _ (h.at_ j hjl)
    rw [List.getD_eq_getElem?_getD, List.getD_eq_getElem?_getD, List.getElem?_append_left (by omega), List.getElem?_append_left (by omega), ← List.getD_eq_getElem?_getD, ← List.getD_eq_getElem?_getD]
    exact this
  · have := hk _ _ (hm (j - ls.length) (by omega))
    rw [List.getD_eq_getElem?_getD, List.getD_eq_getElem?_getD, List.getElem?_append_right (by omega), List.getElem?_append_right (by omega), hl, ← List.getD_eq_getElem?_getD, ← List.getD_eq_getElem?_getD]
    exact this
theorem size_hash : (Try.prog.info? 57).map (·.size) = some 20 := by kernel_rfl
def z20 : Array Value := (bv (List.replicate 20 0)).toArray
/-- a tag and parts, each with its length ahead -/
def tx (t : List UInt8) (ls : List (List UInt8)) : List (List UInt8) := [num t.length, t] ++ ls.flatMap fun l => [num l.length, l]
theorem tx_snoc (t : List UInt8) (ls : List (List UInt8)) (l : List UInt8) : tx t (ls ++ [l]) = tx t ls ++ [num l.length, l] := by simp [tx]
theorem length_tx (t : List UInt8) (ls : List (List UInt8)) : (tx t ls).length = 2 + 2 * ls.length := by
  induction ls with
  | nil => rfl
  | cons l ls ih => simp only [tx, List.flatMap_cons, List.length_append, List.length_cons, List.length_nil] at ih ⊢; omega
theorem flat_tx (t : List UInt8) (ls : List (List UInt8)) (ht : t.length < 18446744073709551616) (hl : ∀ l ∈ ls, l.length < 18446744073709551616) : (tx t ls).flatten.length ≤ 10 + t.length + 10 * ls.length + ls.flatten.length := by
  induction ls with
  | nil => have := num_len t.length ht; simp [tx]; omega
  | cons l ls ih =>
    have := ih (fun x hx => hl x (by simp [hx]))
    have h2 := num_len l.length (hl l (by simp))
    simp only [tx, List.flatMap_cons, List.flatten_append, List.flatten_cons, List.flatten_nil, List.length_append, List.length_cons, List.length_nil] at this ⊢
    omega
/-- the folded digest of a tag and parts -/
def ofB (t : List UInt8) (ls : List (List UInt8)) : List UInt8 := fold (Sha.sum (tx t ls).flatten) 32
theorem sum_len (l : List UInt8) : (Sha.sum l).length = 32 := by rw [Sha.sum, length_out]
theorem info_row : (Try.prog.info? 26).map (fun i => (i.zero, i.size, i.bytes)) = some (some (.slice none 0 0), 1, 24) := by kernel_rfl
theorem two_own (w : World) (e : TypeId) (a b : Value) : (w.alloc (.cells #[a, b] e)).ownsRow w.heap.size e 1 (.slice (some ⟨w.heap.size, 0, none⟩) 2 2) 2 [a, b] :=
  ⟨rfl, .inr ⟨w.heap.size, 2, #[a, b], rfl, Nat.le_refl _, Blk.new w e _, Nat.le_refl _, by simp only [maxLen]; omega, rfl, rfl⟩⟩
theorem two_src (w : World) (e : TypeId) (a b : Value) (ha : a.oneCell' = true) (hb : b.oneCell' = true) : Src (w.alloc (.cells #[a, b] e)) (some ⟨w.heap.size, 0, none⟩) 2 2 [a, b] :=
  ⟨rfl, (by intro h; cases h), (by
    intro u hu
    simp only [List.mem_cons, List.not_mem_nil, or_false] at hu
    rcases hu with rfl | rfl
    · exact ha
    · exact hb), (by
    intro ad had j u hu
    injection had with had
    subst had
    have h := (Blk.new w e #[a, b]).cell j
    have e2 : (⟨w.heap.size, 0, none⟩ : Addr).add j = ⟨w.heap.size, j, none⟩ := by unfold Addr.add; split <;> simp_all
    rw [e2, h, ← hu]
    simp)⟩
end Go.Proofs.Ytjmenaplgndnnaa
