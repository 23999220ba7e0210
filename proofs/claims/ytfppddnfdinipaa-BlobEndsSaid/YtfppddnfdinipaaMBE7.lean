/- package blob: Write. package blob: Read. package blob: where there is no device. spenceref07: Need, right, marks. spenceref07: marks. -/
import Derived.Test.YtfppddnfdinipaaMBE6
import Derived.Test.YtfppddnfdinipaaMBE4
import Derived.Test.YtfppddnfdinipaaMBE5
import Derived.Test.YtfppddnfdinipaaMBE3
section
namespace Go.Proofs.Ytfppddnfdinipaa
open Go Go.RowKit Go.Shelf
attribute [local go_sem] Oper.semAt_some
set_option maxRecDepth 100000
/-- bytes written to sectors, one behind the other -/
def writeS (D : Dv) (fst : Int) (l : List UInt8) : List Nat → Int × Dv
  | [] => D.flush
  | p :: ps => if (D.write (fst + (p : Int)) (l.take 64)).1 = 0 then writeS (D.write (fst + (p : Int)) (l.take 64)).2 fst (l.drop 64) ps else D.write (fst + (p : Int)) (l.take 64)
def Dv.put (D : Dv) (l a d : Int) (b : List UInt8) (rs : List Run) : Int × Dv :=
  if suitsE D.kept.length l a d b.length rs = 0 then writeS D (firstS l a d) b (pos rs) else (suitsE D.kept.length l a d b.length rs, D)
theorem DevAt.types {w : World} {F : Nat → Prop} {g : Nat} {D : Dv} (h : DevAt w F g D) {k : Nat} (hk : F k) : ∃ cs t, w.heap[k]? = some (.cells cs t (0, 0)) ∧ t ≠ 88 := by
  obtain ⟨rk, c, vp, rfl, h1, h2, h3, h4⟩ := h
  rcases hk with rfl | rfl | hk
  · exact ⟨_, _, h1, by decide⟩
  · rcases owned_formN h2 with ⟨h, _⟩ | ⟨g', cap', cur, h', _, _, _, hh, _⟩
    · cases h
    · injection h' with e1 _ _
      injection e1 with e1
      injection e1 with e1
      subst e1
      exact ⟨_, _, hh, by decide⟩
  · rcases owned_formN h3 with ⟨rfl, _⟩ | ⟨g', cap', cur, rfl, _, _, _, hh, _⟩
    · cases hk
    · have hk : some g' = some k := hk
      injection hk with hk
      subst hk
      exact ⟨_, _, hh, by decide⟩
section
variable {W W2 : World} {F F' : Nat → Prop} {q n₀ : Nat} {D D2 : Dv} {S : Nat → Prop}
theorem Left.keeps (h : DevAt W F' q D) (hl : Left W F' q D2 W2) : KeepsOthers W W2 := by
  obtain ⟨F2, _, ht, _⟩ := hl
  refine ⟨ht.size, fun k o hk ho => ?_⟩
  have hlt := (Array.getElem?_eq_some_iff.1 hk).1
  refine (ht.block k hlt fun hF => ?_).trans hk
  obtain ⟨cs, t, h1, _⟩ := h.types hF
  rw [h1] at hk
  injection hk with hk
  subst hk
  cases ho
theorem Left.keepsI (h : DevAt W F' q D) (hl : Left W F' q D2 W2) (hF : ∀ k, F' k → F k ∨ n₀ ≤ k) (hS : ∀ k, F k → S k) : KeepsI S n₀ W W2 := by
  obtain ⟨F2, _, ht, _⟩ := hl
  refine ⟨ht.size, fun k o hk hs ho _ => ?_, fun k cs fr hk ho => ?_⟩
  · have hlt := (Array.getElem?_eq_some_iff.1 ho).1
    refine (ht.block k hlt fun hf => ?_).trans ho
    rcases hF k hf with h | h
    · exact hs (hS k h)
    · omega
  · have hlt := (Array.getElem?_eq_some_iff.1 ho).1
    refine (ht.block k hlt fun hf => ?_).trans ho
    obtain ⟨cs', t, h1, h2⟩ := h.types hf
    rw [h1] at ho
    injection ho with ho
    injection ho with _ ho
    exact h2 ho
theorem Left.of_draw {n : Nat} (h : Left (W.drewN n) F' q D2 W2) : Left W F' q D2 W2 := by
  obtain ⟨F2, h1, h2, h3⟩ := h
  exact ⟨F2, h1, ⟨h2.os, h2.tape, h2.output, h2.size, h2.block⟩, h3⟩
theorem KeepsI.setCell {p : Addr} (hp : S p.block) (hn : p.block < n₀) (W : World) (v : Value) : KeepsI S n₀ W (W.setCell p v) :=
  ⟨by simp, fun k o _ hs ho _ => (Below.heap_setCell _ _ _ _ (fun e => hs (by rw [e]; exact hp))).trans ho, fun k cs fr hk ho => (Below.heap_setCell _ _ _ _ (by omega)).trans ho⟩
theorem DevAt.grown {row : Option Nat} (h : DevAt W F' q D) (hg : W.grownBy W2 row) (hr : ∀ r, row = some r → ∃ o : Obj, W.heap[r]? = some o ∧ o.isCells = false) : DevAt W2 F' q D :=
  h.keep fun k hk hf => hg.block k hk fun e => by
    obtain ⟨o, h1, h2⟩ := hr k e.symm
    obtain ⟨cs, t, h3, _⟩ := h.types hf
    rw [h1] at h3
    injection h3 with h3
    subst h3
    cases h2
theorem Src.grown {row : Option Nat} {A : Option Addr} {m c : Nat} {xs : List Value} (h : Src W A m c xs) (hg : W.grownBy W2 row) (hr : ∀ r, row = some r → ∃ o : Obj, W.heap[r]? = some o ∧ o.isCells = false) : Src W2 A m c xs :=
  ⟨h.len, h.none_, h.one, fun ad ha j u hu => cell_kept (h.cells ad ha j u hu) hg hr⟩
theorem ownFrom_turned {β : Type} {B : Nat} {w : World} (hB : w.heap.size ≤ B) : OwnFrom B (fun (_ : β) W => Turned F w W) :=
  fun _ A _ _ hs hg hr => ⟨hg.os.trans hs.os, hg.tape.trans hs.tape, hg.output.trans hs.output, Nat.le_trans hs.size hg.size, fun k hk hF => (hg.block k (Nat.lt_of_lt_of_le hk hs.size) fun e => by have := (hr k e.symm).1; omega).trans (hs.block k hk hF)⟩
theorem Src.take {A : Option Addr} {c : Nat} {l : List UInt8} (h : Src W A l.length c (bv l)) (k : Nat) : Src W A (l.take k).length c (bv (l.take k)) :=
  ⟨bvL _, fun e => by have := h.none_ e; exact ⟨by rw [List.length_take]; omega, this.2⟩, bv1 _, fun ad ha j u hu => h.cells ad ha j u (by
    have e : bv (l.take k) = (bv l).take k := by simp [bv, List.map_take]
    rw [e, List.getElem?_take] at hu
    split at hu
    · exact hu
    · cases hu)⟩
theorem Src.drop {A : Option Addr} {c : Nat} {l : List UInt8} (h : Src W A l.length c (bv l)) (k : Nat) (hc : l.length ≤ c) : Src W (if c = k then A else A.map (·.add k)) (l.drop k).length (c - k) (bv (l.drop k)) := by
  have e : bv (l.drop k) = (bv l).drop k := by simp [bv, List.map_drop]
  refine ⟨bvL _, fun h0 => ?_, bv1 _, fun ad ha j u hu => ?_⟩
  · have : A = none := by
      split at h0
      · exact h0
      · cases A with
        | none => rfl
        | some ad => cases h0
    have := h.none_ this
    rw [List.length_drop]
    omega
  · rw [e, List.getElem?_drop] at hu
    have hlt := (List.getElem?_eq_some_iff.1 hu).1
    rw [bvL] at hlt
    rw [if_neg (by omega)] at ha
    obtain ⟨ad', rfl, rfl⟩ := Option.map_eq_some_iff.1 ha
    have := h.cells ad' rfl (k + j) u hu
    rwa [Addr.add_add]
end
/-- what the loop of Write goes on with -/
structure PutAt (F : Nat → Prop) (q n₀ s0 b6 : Nat) (D : Dv) (fst : Int) (bs : List UInt8) (W : World) (ps : List Nat) (F' : Nat → Prop) (Dk : Dv) (A : Option Addr) (c : Nat) (rest : List UInt8) : Prop where
  dev : DevAt W F' q Dk
  foot : ∀ k, F' k → F k ∨ n₀ ≤ k
  de : Dk.de ≤ D.de + (ps.length : Int)
  pend : Dk.pend.length ≤ D.pend.length + ps.length
  len : rest.length ≤ bs.length
  cap : rest.length ≤ c
  box : W.cell? ⟨b6, 0, none⟩ = some (.slice A rest.length c)
  frz : W.frozen? ⟨b6, 0, none⟩ = false
  src : Src W A rest.length c (bv rest)
  sep : ∀ ad, A = some ad → 0 < rest.length → ad.block < s0 ∧ ¬ F ad.block
  law : ∀ Q, writeS D fst bs (ps ++ Q) = writeS Dk fst rest Q
  sz : n₀ ≤ W.heap.size
theorem write_more (D : Dv) (x : Int) (l : List UInt8) : (D.write x l).2.de ≤ D.de + 1 ∧ (D.write x l).2.pend.length ≤ D.pend.length + 1 ∧ (D.write x l).2.kept = D.kept := by
  unfold Dv.write
  by_cases h1 : D.dn = true
  · rw [if_pos h1]
    exact ⟨(by show D.de ≤ _; omega), (by show D.pend.length ≤ _; omega), rfl⟩
  · rw [if_neg h1]
    split
    · exact ⟨(by show D.de ≤ _; omega), (by show D.pend.length ≤ _; omega), rfl⟩
    · refine ⟨?_, ?_, rfl⟩
      · show (tick D.de D.fu D.dn).2.1 ≤ _
        unfold tick
        split
        · show D.de ≤ _; omega
        · split <;> (show D.de + 1 ≤ _; omega)
      · show (if (tick D.de D.fu D.dn).1 = 0 then D.pend ++ [(x, pad l)] else D.pend).length ≤ _
        split
        · simp
        · omega
section
variable {F F' : Nat → Prop} {q n₀ s0 b6 c m : Nat} {D Dk D2 : Dv} {fst : Int} {bs rest : List UInt8} {W W2 : World} {ps : List Nat} {A : Option Addr}
/-- what lies apart stays while the device is turned -/
theorem PutAt.same (hP : PutAt F q n₀ s0 b6 D fst bs W ps F' Dk A c rest) (hL : Left W F' q D2 W2) {j : Nat} (hj : j < n₀) (hF : ¬ F j) : W2.heap[j]? = W.heap[j]? := by
  obtain ⟨F2, _, ht, _⟩ := hL
  have hn := hP.sz
  refine ht.block j (by omega) fun h => ?_
  rcases hP.foot j h with h | h
  · exact hF h
  · omega
theorem PutAt.next {p : Nat} (hP : PutAt F q n₀ s0 b6 D fst bs W ps F' Dk A c rest) (hL : Left W F' q (Dk.write (fst + (p : Int)) (rest.take 64)).2 W2) (h0 : (Dk.write (fst + (p : Int)) (rest.take 64)).1 = 0) (hm : m = (rest.take 64).length) (hs : s0 ≤ n₀) (hb : b6 < n₀ ∧ s0 ≤ b6) (hF : ¬ F b6) :
    ∃ F2, PutAt F q n₀ s0 b6 D fst bs (W2.setCell ⟨b6, 0, none⟩ (.slice (if c = m then A else A.map (·.add m)) (rest.length - m) (c - m))) (ps ++ [p]) F2 (Dk.write (fst + (p : Int)) (rest.take 64)).2 (if c = m then A else A.map (·.add m)) (c - m) (rest.drop 64) := by
  have hn := hP.sz
  have hsame := fun {j : Nat} => hP.same hL (j := j)
  have hm2 : m = min 64 rest.length := by rw [hm, List.length_take]
  have hdl : (rest.drop 64).length = rest.length - m := by rw [List.length_drop]; omega
  have hdr : rest.drop 64 = rest.drop m := by
    rw [hm2]
    rcases Nat.le_total 64 rest.length with h | h
    · rw [Nat.min_eq_left h]
    · rw [Nat.min_eq_right h, List.drop_eq_nil_of_le h, List.drop_eq_nil_of_le (Nat.le_refl _)]
  have hw := write_more Dk (fst + (p : Int)) (rest.take 64)
  have hde := hP.de
  have hpe := hP.pend
  have hln := hP.len
  have hcp := hP.cap
  have hsrc := hP.src.drop m hP.cap
  have hblk : ∀ ad, (if c = m then A else A.map (·.add m)) = some ad → 0 < (rest.drop 64).length → ad.block < s0 ∧ ¬ F ad.block := by
    intro ad ha h1
    split at ha
    · exact hP.sep ad ha (by omega)
    · obtain ⟨ad', ha', rfl⟩ := Option.map_eq_some_iff.1 ha
      have e : (ad'.add m).block = ad'.block := by cases m <;> simp [Addr.add]
      rw [e]
      exact hP.sep ad' ha' (by omega)
  obtain ⟨F2, h1, h2, h3⟩ := hL
  have hnF2 : ¬ F2 b6 := fun h => by
    rcases h3 b6 h with h | h
    · rcases hP.foot b6 h with h | h
      · exact hF h
      · omega
    · omega
  refine ⟨F2, h1.keep fun k _ hk => Below.heap_setCell _ _ _ _ (fun e => hnF2 (by have e : k = b6 := e; rw [← e]; exact hk)), fun k hk => ?_, ?_, ?_, ?_, ?_, ?_, ?_, ?_, hblk, fun Q => ?_, by have := h2.size; simp; omega⟩
  · rcases h3 k hk with h | h
    · exact hP.foot k h
    · exact .inr (by omega)
  · rw [List.length_append]
    simp
    omega
  · rw [List.length_append]
    simp
    omega
  · rw [hdl]
    omega
  · rw [hdl]
    omega
  · rw [hdl]
    exact World.cell?_setCell_same' _ _ _ (by rw [World.cell?_of_block (hsame hb.1 hF), hP.box]; rfl)
  · rw [World.frozen?_setCell, World.frozen?_of_block (hsame hb.1 hF)]
    exact hP.frz
  · refine ⟨bvL _, fun e => ?_, bv1 _, fun ad ha j u hu => ?_⟩
    · have := hsrc.none_ e
      rw [← hdr] at this
      exact this
    · have hlt := (List.getElem?_eq_some_iff.1 hu).1
      rw [bvL] at hlt
      obtain ⟨k1, k2⟩ := hblk ad ha (by omega)
      have hbk : (ad.add j).block = ad.block := by cases j <;> simp [Addr.add]
      rw [World.cell?_setCell_other _ _ _ _ (fun e => by first | (have h : (ad.add j).block = b6 := congrArg Addr.block e; omega) | (have h : b6 = (ad.add j).block := congrArg Addr.block e; omega)), World.cell?_of_block (hsame (j := (ad.add j).block) (by rw [hbk]; omega) (by rw [hbk]; exact k2))]
      exact hsrc.cells ad ha j u (by rw [← hdr]; exact hu)
  · rw [List.append_assoc, hP.law]
    show writeS Dk fst rest (p :: Q) = _
    rw [writeS, if_pos h0]
end
theorem putTurned {F F' : Nat → Prop} {q n₀ s0 b6 c : Nat} {D Dk D2 : Dv} {fst : Int} {bs rest : List UInt8} {W W2 w : World} {ps : List Nat} {A : Option Addr} {p : Addr} (hT : Turned F w W) (hP : PutAt F q n₀ s0 b6 D fst bs W ps F' Dk A c rest) (hL : Left W F' q D2 W2) (hp : w.heap.size ≤ p.block) (v : Value) (hn : w.heap.size ≤ n₀ := by omega) : Turned F w (W2.setCell p v) := by
  obtain ⟨F2, _, ht, _⟩ := hL
  refine (hT.then_ ht fun k hk hF => ?_).setCell (fun h => absurd h (by omega)) v
  rcases hP.foot k hF with h | h
  · exact h
  · omega
def PutQ (F : Nat → Prop) (q : Nat) (r : Int × Dv) (w : World) (e : Ending) (w' : World) : Prop := e = .returned (.int .i64 r.1) ∧ Left w F q r.2 w'
theorem put_step {F F' : Nat → Prop} {q n₀ s0 b6 c m : Nat} {D Dk : Dv} {fst x : Int} {bs rest : List UInt8} {W : World} {ps : List Nat} {A : Option Addr} (hP : PutAt F q n₀ s0 b6 D fst bs W ps F' Dk A c rest) (hm : m = (rest.take 64).length) (hps : ps.length ≤ 64) (hde : D.de ≤ 900000000) (hpe : D.pend.length ≤ 90000) (hs : s0 ≤ n₀) (hx : 0 ≤ x ∧ x ≤ 100000) (nq : Nat) :
    Calls Try.prog 67 #[.pointer (some ⟨q, 0, none⟩), .int .i64 x, .slice A m c] (W.drewN nq) fun e w' => e = .returned (.int .i64 (Dk.write x (rest.take 64)).1) ∧ Left (W.drewN nq) F' q (Dk.write x (rest.take 64)).2 w' := by
  subst hm
  have hsr := hP.src.take 64
  have h1 := hP.de
  have h2 := hP.pend
  have h3 : (rest.take 64).length ≤ 64 := List.length_take_le ..
  refine write_any x (rest.take 64) A c (W.drewN nq) (hP.dev.keep fun _ _ _ => rfl) (by omega) (by omega) (by omega) (by omega) ⟨hsr.len, hsr.none_, hsr.one, hsr.cells⟩ fun ad ha h0 hF => ?_
  rw [List.length_take] at h0
  obtain ⟨k1, k2⟩ := hP.sep ad ha (by omega)
  rcases hP.foot _ hF with h | h
  · exact k2 h
  · omega
theorem wfinD {tmps : Array Value} {B D : Nat} {W : World} {v : Value} {R : Ending → World → Prop} (h4 : tmps.getD 8 undef = .pointer (some ⟨B, 0, none⟩)) (hc : W.cell? ⟨B, 0, none⟩ = some v) (hK : W.heap[D]? = some (.deferred (some []))) (hR : R (.returned v) (W.putObj D (.deferred none))) :
    bodyPostM Fence.wide 5 Try.prog Try.f35 R .ret { tmps := tmps, defers := [{ target := .collected D, args := #[] }] } W := by
  have h4' : tmps[8]?.getD undef = .pointer (some ⟨B, 0, none⟩) := by simpa using h4
  have hc' := cell_kept hc (grownBy_putObj' _ D (.deferred none)) (fun r e => by cases e; exact ⟨_, hK, rfl⟩)
  exact ⟨by simp, .inl ⟨_, _, rfl, run_takeDeferred hK, v, by simp [results, Try.f35, go_sem, h4', hc'], hR⟩⟩
set_option maxHeartbeats 1000000 in
theorem bwrite_in {D : Dv} {F : Nat → Prop} {q : Nat} (l a d : Int) (h64 : d ≤ 64) (bs : List UInt8) (hbs : bs.length ≤ 1000000) (A : Option Addr) (cap : Nat) (hcap : bs.length ≤ cap) (Ar : Option Addr) (cr : Nat) (rs : List Run) (hlen : rs.length ≤ 1000000) (w : World)
    (hd : DevAt w F q D) (hde : D.de ≤ 900000000) (hpe : D.pend.length ≤ 90000) (hrs : RunsM w w.heap.size (.slice Ar rs.length cr) rs) (hsep : ∀ ad, Ar = some ad → 0 < rs.length → ¬ F ad.block)
    (hs : Src w A bs.length cap (bv bs)) (hsb : ∀ ad, A = some ad → 0 < bs.length → ¬ F ad.block) (hE : suitsE D.kept.length l a d bs.length rs = 0) :
    Calls Try.prog 35 #[.pointer (some ⟨q, 0, none⟩), .agg #[.int .i64 l, .int .i64 a, .int .i64 d], .slice A bs.length cap, .slice Ar rs.length cr] w (PutQ F q (writeS D (firstS l a d) bs (pos rs)) w) := by
  have hap : apartP l a d rs := by
    by_cases h : apartP l a d rs
    · exact h
    · rw [suitsE, if_neg (fun h2 => h h2.1)] at hE
      cases hE
  have hR := hap.1
  have hfst : 0 ≤ firstS l a d ∧ firstS l a d ≤ 8192 := by
    have h1 := hR.1
    have h2 := hR.2.1
    have h3 := hR.2.2.1
    have h4 := hR.2.2.2
    rw [firstS, if_pos hR]
    unfold inW at h1 h2 h3
    omega
  have hcnt := apart_count hap
  have hN : (pos rs).length ≤ 64 := by have := (apart_d hap).2; omega
  have HD := hide (And.intro hd (And.intro hrs (And.intro hs (And.intro hsep (And.intro hsb (And.intro hE hap))))))
  clear hd hrs hs hsep hsb hE hap hR
  refine (callsIn_wide (n := 5)).1 ?_
  refine callsIn_of_wp_marks Try.func35 rfl trivial ?_ rfl
  simp only [Try.ntmps35, List.size_toArray, List.length_cons, List.length_nil, Nat.reduceAdd, Nat.reduceSub, Array.replicate_succ, Array.replicate_zero, List.push_toArray, List.append_toArray, List.nil_append, List.cons_append]
  refine wpIn_wide.2 ?_
  obtain ⟨w1, hw1⟩ : ∃ w1, w1 = (((w.alloc (.cells #[.pointer (some ⟨q, 0, none⟩)] 69)).alloc (.cells #[.int .i64 l, .int .i64 a, .int .i64 d] 64)).alloc (.cells #[.slice A bs.length cap] 66)).alloc (.cells #[.int .i64 0] 34) := ⟨_, rfl⟩
  have b4 : Blk w1 w.heap.size 69 #[.pointer (some ⟨q, 0, none⟩)] := by rw [hw1]; exact (((Blk.new w _ _).alloc _).alloc _).alloc _
  have b5 : Blk w1 (w.heap.size + 1) 64 #[.int .i64 l, .int .i64 a, .int .i64 d] := by
    rw [hw1]
    have := ((Blk.new (w.alloc (.cells #[.pointer (some ⟨q, 0, none⟩)] 69)) 64 #[.int .i64 l, .int .i64 a, .int .i64 d]).alloc (.cells #[.slice A bs.length cap] 66)).alloc (.cells #[.int .i64 0] 34)
    rwa [size_alloc] at this
  have b6 : Blk w1 (w.heap.size + 1 + 1) 66 #[.slice A bs.length cap] := by
    rw [hw1]
    have := (Blk.new ((w.alloc (.cells #[.pointer (some ⟨q, 0, none⟩)] 69)).alloc (.cells #[.int .i64 l, .int .i64 a, .int .i64 d] 64)) 66 #[.slice A bs.length cap]).alloc (.cells #[.int .i64 0] 34)
    rwa [size_alloc, size_alloc] at this
  have b8 : Blk w1 (w.heap.size + 1 + 1 + 1) 34 #[.int .i64 0] := by
    rw [hw1]
    have := Blk.new (((w.alloc (.cells #[.pointer (some ⟨q, 0, none⟩)] 69)).alloc (.cells #[.int .i64 l, .int .i64 a, .int .i64 d] 64)).alloc (.cells #[.slice A bs.length cap] 66)) 34 #[.int .i64 0]
    rwa [size_alloc, size_alloc, size_alloc] at this
  have hb1 : Below w.heap.size w w1 := by rw [hw1]; exact ((((Below.refl _ w).alloc (Nat.le_refl _) _).al _).al _).al _
  have H1 := hide (And.intro b4 (And.intro b5 (And.intro b6 (And.intro b8 hb1))))
  clear b4 b5 b6 b8 hb1
  go_wp2_with fail
  rw [← hw1]
  have HW1 := hide hw1
  clear hw1
  refine (suits_any l a d (fun _ => h64) (bs.length : Int) (by omega) _ rs hlen w1 (HD.out.2.1.below H1.out.2.2.2.2) (HD.out.1.keep fun k hk _ => H1.out.2.2.2.2.block k hk)).mono ?_
  rintro e w2 ⟨rfl, hb2⟩
  rw [HD.out.2.2.2.2.2.1]
  have H2 := hide (And.intro (H1.out.1.below hb2 H1.out.1.lt) (And.intro (H1.out.2.1.below hb2 H1.out.2.1.lt) (And.intro (H1.out.2.2.1.below hb2 H1.out.2.2.1.lt) (And.intro (H1.out.2.2.2.1.below hb2 H1.out.2.2.2.1.lt) (H1.out.2.2.2.2.next hb2)))))
  have c0 := H2.out.2.1.cell 0
  have c1 := H2.out.2.1.cell 1
  have c2 := H2.out.2.1.cell 2
  have hlt := H2.out.2.1.lt
  clear hb2 HW1 H1
  dsimp only
  go_wp2_with fail
  refine (lfirst_any l a d w2).mono ?_
  rintro e w3 ⟨rfl, hb3⟩
  have H3 := hide (And.intro (H2.out.1.below hb3 H2.out.1.lt) (And.intro (H2.out.2.2.1.below hb3 H2.out.2.2.1.lt) (And.intro (H2.out.2.2.2.1.below hb3 H2.out.2.2.2.1.lt) (H2.out.2.2.2.2.next hb3))))
  clear hb3 c0 c1 c2 hlt H2
  obtain ⟨fst, hfs⟩ : ∃ fst, fst = firstS l a d := ⟨_, rfl⟩
  rw [← hfs] at hfst ⊢
  have HFS := hide hfs
  clear hfs
  dsimp only
  go_wp2_with fail
  refine (each_any _ _ _ _).mono ?_
  rintro e W0 ⟨rfl, hW0⟩
  obtain ⟨s0, hs0⟩ : ∃ s0, s0 = w.heap.size := ⟨_, rfl⟩
  have e4 : W0.heap.size = w3.heap.size + 1 + 1 := by rw [hW0, size_alloc, size_alloc]
  have hb0 : Below w3.heap.size w3 W0 := by rw [hW0]; exact ((Below.refl _ w3).alloc (Nat.le_refl _) _).al _
  have hB10 : Blk W0 w3.heap.size 3 #[.int .i64 fst] := by rw [hW0]; exact (Blk.new w3 _ _).alloc _
  have hBd : Blk W0 (w3.heap.size + 1) 73 #[.slice Ar rs.length cr] := by
    rw [hW0]
    have := Blk.new (w3.alloc (.cells #[.int .i64 fst] 3)) 73 #[.slice Ar rs.length cr]
    rwa [size_alloc] at this
  have h3 := H3.out
  rw [← hs0] at h3
  have hB4 := h3.1.below hb0 h3.1.lt
  have hB6 := h3.2.1.below hb0 h3.2.1.lt
  have hB8 := h3.2.2.1.below hb0 h3.2.2.1.lt
  have hbw : Below w.heap.size w W0 := by rw [← hs0]; exact (show Below w.heap.size w w3 by rw [← hs0]; exact h3.2.2.2).next hb0 |> fun h => by rwa [hs0]
  have hlt8 := h3.2.2.1.lt
  clear h3
  rw [← hs0]
  have cells : 0 < rs.length → ∃ b off, Ar = some ⟨b, off, none⟩ ∧ b < W0.heap.size ∧ ¬ (F b ∨ b = s0 + 1 + 1 ∨ b = s0 + 1 + 1 + 1) ∧ ∀ j r, rs[j]? = some r → W0.cell? ⟨b, off + j * 2, none⟩ = some (.int .i64 r.1) ∧ W0.cell? ⟨b, off + j * 2 + 1, none⟩ = some (.int .i64 r.2) := by
    intro h
    obtain ⟨A', cp', hv, _, _, hA, _⟩ := HD.out.2.1
    injection hv with e1 _ _
    subst e1
    obtain ⟨b, off, e1, e2, e3⟩ := hA h
    have hnF := HD.out.2.2.2.1 _ e1 h
    refine ⟨b, off, e1, by omega, ?_, fun j r hj => ⟨(hbw.cell (p := ⟨b, off + j * 2, none⟩) e2).trans (e3 j r hj).1, (hbw.cell (p := ⟨b, off + j * 2 + 1, none⟩) e2).trans (e3 j r hj).2⟩⟩
    rintro (h | h | h)
    · exact hnF h
    · omega
    · omega
  have hP0 : PutAt F q W0.heap.size s0 (s0 + 1 + 1) D fst bs W0 (([] : List Nat).map (secF rs)) F D A cap bs := by
    have hsrc : Src W0 A bs.length cap (bv bs) := ⟨HD.out.2.2.1.len, HD.out.2.2.1.none_, HD.out.2.2.1.one, fun ad ha j u hu => by
      have h := HD.out.2.2.1.cells ad ha j u hu
      exact (hbw.cell (World.block_lt_of_cell? w _ h)).trans h⟩
    refine ⟨HD.out.1.keep fun k hk _ => hbw.block k hk, fun k hk => .inl hk, by simp, by simp, Nat.le_refl _, hcap, hB6.cell 0, hB6.frozen 0, hsrc, fun ad ha h0 => ⟨?_, HD.out.2.2.2.2.1 ad ha h0⟩, fun Q => rfl, Nat.le_refl _⟩
    obtain ⟨u, hu⟩ : ∃ u, (bv bs)[0]? = some u := ⟨_, List.getElem?_eq_getElem (by rw [bvL]; exact h0)⟩
    have h := World.block_lt_of_cell? w _ (HD.out.2.2.1.cells ad ha 0 _ hu)
    rw [hs0]
    simpa [Addr.add] using h
  have hFlt : ∀ k, F k → k < s0 := fun k hk => by rw [hs0]; exact HD.out.1.lt k hk
  have HI := hide (And.intro hP0 (And.intro (hB4.cell 0) (And.intro (hB10.cell 0) (And.intro (hB8.cell 0) (hB8.frozen 0)))))
  have HC := hide (And.intro cells (And.intro HD.out.2.2.2.2.2.2.2.1 (hBd.cell 0)))
  have HZ := hide (And.intro e4 (And.intro hFlt (And.intro hlt8 hs0)))
  have HBW := hide hbw
  clear hs0 e4 hb0 hB10 hBd hB4 hB6 hB8 hbw hlt8 cells hP0 hFlt H3 hW0
  rw [size_alloc]
  dsimp only
  go_wp2_with fail
  refine (wpIn_wide (n := 5)).1 ?_
  refine wpIn_rangeFunc_ownG (F := Fence.wide) (n := 5) (α := Nat) rfl (by omega) (gf := 122) (lb := #[.pointer (some ⟨w3.heap.size + 1, 0, none⟩)]) rfl trivial (enters_of Try.func122 (by kernel_rfl) rfl)
    (each_stops (n₀ := W0.heap.size) (S := fun k => F k ∨ k = s0 + 1 + 1 ∨ k = s0 + 1 + 1 + 1) Fence.wide 4 trivial rfl (by omega) (w3.heap.size + 1) cr Ar rs hlen (fun r hr => by have := HC.out.2.1 r hr; unfold okRun at this; omega) W0 (Nat.le_refl _) (by have := HZ.out.1; omega) HC.out.2.2 HC.out.1) KeepsI.trans (KeepsI.putObj (Nat.le_refl _)) (Below.refl _ _) (fun _ => rfl)
    (fun pre W => (∃ F' Dk A' c' rest, PutAt F q W0.heap.size s0 (s0 + 1 + 1) D fst bs W (pre.map (secF rs)) F' Dk A' c' rest) ∧ (W.cell? ⟨s0, 0, none⟩ = some (.pointer (some ⟨q, 0, none⟩)) ∧ W.cell? ⟨w3.heap.size, 0, none⟩ = some (.int .i64 fst) ∧ W.cell? ⟨s0 + 1 + 1 + 1, 0, none⟩ = some (.int .i64 0) ∧ W.frozen? ⟨s0 + 1 + 1 + 1, 0, none⟩ = false) ∧ Turned F w W)
    (fun c pre W => (c = .ret ∧ ∃ r : Int × Dv, (∀ Q, writeS D fst bs (pre.map (secF rs) ++ Q) = r) ∧ (∃ F', DevAt W F' q r.2 ∧ ∀ k, F' k → F k ∨ W0.heap.size ≤ k) ∧ W.cell? ⟨s0 + 1 + 1 + 1, 0, none⟩ = some (.int .i64 r.1)) ∧ Turned F w W)
    ?ownI ?ownX ⟨⟨F, D, A, cap, bs, HI.out.1⟩, HI.out.2, Turned.of_below HBW.out F⟩
    (fun x => { tmps := #[.pointer (some ⟨q, 0, none⟩), .agg #[.int .i64 l, .int .i64 a, .int .i64 d], .slice A bs.length cap, .slice Ar rs.length cr, .pointer (some ⟨s0, 0, none⟩), .pointer (some ⟨s0 + 1, 0, none⟩), .pointer (some ⟨s0 + 1 + 1, 0, none⟩), undef, .pointer (some ⟨s0 + 1 + 1 + 1, 0, none⟩), .int .i64 0, .pointer (some ⟨w3.heap.size, 0, none⟩), .int .i64 ((secF rs x : Nat) : Int), undef, undef, .pointer (some ⟨q, 0, none⟩), .agg #[.int .i64 l, .int .i64 a, .int .i64 d], .slice A bs.length cap, .int .i64 (bs.length : Int), .slice Ar rs.length cr, .int .i64 0, .int .i64 0, .bool false, undef, .agg #[.int .i64 l, .int .i64 a, .int .i64 d], .int .i64 fst, .slice Ar rs.length cr, .func (.func 122) #[] #[.pointer (some ⟨w3.heap.size + 1, 0, none⟩)], .int .i64 ((secF rs x : Nat) : Int), undef, undef, undef, undef, undef, undef, undef, undef, undef, undef, undef, undef, undef, undef, undef, undef, undef, undef, undef], defers := [] }) ?assign ?body ?done ?stop
  case ownI =>
    refine OwnFrom.and (Own.from (fun pre X Y row hs hg hr => ?_) _) (OwnFrom.and (Own.from (fun pre X Y row hs hg hr => ⟨cell_kept hs.1 hg hr, cell_kept hs.2.1 hg hr, cell_kept hs.2.2.1 hg hr, (frozen_kept hs.2.2.1 hg hr).trans hs.2.2.2⟩) _) (ownFrom_turned (by have := HBW.out.size; exact this)))
    obtain ⟨F', Dk, A', c', rest, h⟩ := hs
    exact ⟨F', Dk, A', c', rest, h.dev.grown hg hr, h.foot, h.de, h.pend, h.len, h.cap, cell_kept h.box hg hr, (frozen_kept h.box hg hr).trans h.frz, h.src.grown hg hr, h.sep, h.law, Nat.le_trans h.sz hg.size⟩
  case ownX =>
    intro c
    refine OwnFrom.and (Own.from (fun pre X Y row hs hg hr => ?_) _) (ownFrom_turned (by have := HBW.out.size; exact this))
    obtain ⟨h1, r, h2, ⟨F', h3, h4⟩, h5⟩ := hs
    exact ⟨h1, r, h2, ⟨F', h3.grown hg hr, h4⟩, cell_kept h5 hg hr⟩
  case assign =>
    intro l y W K hK
    dsimp only [posE]
    gi_wp2
    exact hK
  case body =>
    rintro l0 pre x W ⟨⟨F', Dk, A', c', rest, hP⟩, ⟨hc4, hc10, hc8, hf8⟩, hT⟩ hlen2
    have hx := secF_lt HC.out.2.1 h64 x
    have hsl : W.heap.size ≥ w.heap.size := hT.size
    have hc6 := hP.box
    have hf6 := hP.frz
    have hpd : pre.length < 64 := by omega
    obtain ⟨m, hm⟩ : ∃ m, m = (rest.take 64).length := ⟨_, rfl⟩
    have hm2 : m = min 64 rest.length := by rw [hm, List.length_take]
    have n1 : (0 : Int) ≤ fst := hfst.1
    have n2 : fst ≤ 8192 := hfst.2
    have n3 : (0 : Int) ≤ ((secF rs x : Nat) : Int) := by omega
    have n4 : ((secF rs x : Nat) : Int) < 64 := by omega
    have hcc := hP.cap
    have HP := hide (And.intro hP hT)
    have HX := hide (And.intro hm hm2)
    have HS := hide (show s0 ≤ W0.heap.size by have := HZ.out.2.2.1; have := HZ.out.1; omega)
    clear hP hT hm
    obtain ⟨A2, hA2⟩ : ∃ A2, A2 = (if c' = m then A' else A'.map (·.add m)) := ⟨_, rfl⟩
    obtain ⟨L2, hL2⟩ : ∃ L2, L2 = rest.length - m := ⟨_, rfl⟩
    obtain ⟨C2, hC2⟩ : ∃ C2, C2 = c' - m := ⟨_, rfl⟩
    have HA2 := hide (And.intro hA2 (And.intro hL2 hC2))
    clear hA2 hL2 hC2
    by_cases hle : rest.length ≤ 64
    · have q1 : (rest.length : Int) ≤ 64 := by omega
      have hm3 : m = rest.length := by omega
      clear hm2
      have hs1 : ∀ w, (Instr.sliceAt 66 (.slice A' rest.length c') none (some (.int .i64 (rest.length : Int))) none).run Try.prog w = .ok (.slice A' m c') w := fun w => by
        rw [hm3]
        exact run_slice_to (P := Try.prog) 66 5 Try.underlying66 size5 A' rest.length c' (rest.length) (by omega) w
      have hs2 : ∀ w, (Instr.sliceAt 66 (.slice A' rest.length c') (some (.int .i64 (rest.length : Int))) none none).run Try.prog w = .ok (.slice A2 L2 C2) w := fun w => by
        rw [HA2.out.1, HA2.out.2.1, HA2.out.2.2, hm3]
        exact run_sliceAt_from (P := Try.prog) 66 5 Try.underlying66 size5 A' rest.length c' (rest.length) (by omega) w
      gi_wp2_with fail
      refine wpIn_quiet_tail_drewN 7 (by kernel_rfl) (by kernel_rfl) ?_
      simp only [List.take_succ_cons, List.take_zero, List.drop_succ_cons, List.drop_zero]
      repeat (go_big_quiet_step (fail))
      refine wpQuiet_nil ?_
      intro nq
      gi_wp2_with fail
      refine ⟨trivial, (CallsIn.inRound l0 (callsIn_wide.2 (put_step (m := rest.length) HP.out.1 (hm3.symm.trans HX.out.1) (by rw [List.length_map]; omega) hde hpe HS.out ⟨by omega, by omega⟩ nq))).mono ?_⟩
      rintro e W2 ⟨rfl, hL⟩
      have HL2 := hide (hL.of_draw)
      clear hL
      have hz := HZ.out
      have hnF : ∀ j, s0 ≤ j → ¬ F j := fun j hj hF => by have := HZ.out.2.1 j hF; omega
      have hsm : ∀ j, s0 ≤ j → j < W0.heap.size → W2.heap[j]? = W.heap[j]? := fun j h1 h2 => HP.out.1.same HL2.out h2 (hnF j h1)
      have c6' := (World.cell?_of_block (a := ⟨s0 + 1 + 1, 0, none⟩) (hsm (s0 + 1 + 1) (by omega) (by omega))).trans hc6
      have f6' := (World.frozen?_of_block (a := ⟨s0 + 1 + 1, 0, none⟩) (hsm (s0 + 1 + 1) (by omega) (by omega))).trans hf6
      have c8' := (World.cell?_of_block (a := ⟨s0 + 1 + 1 + 1, 0, none⟩) (hsm (s0 + 1 + 1 + 1) (by omega) (by omega))).trans hc8
      have f8' := (World.frozen?_of_block (a := ⟨s0 + 1 + 1 + 1, 0, none⟩) (hsm (s0 + 1 + 1 + 1) (by omega) (by omega))).trans hf8
      have c4' := (World.cell?_of_block (a := ⟨s0, 0, none⟩) (hsm s0 (by omega) (by omega))).trans hc4
      have c10' := (World.cell?_of_block (a := ⟨w3.heap.size, 0, none⟩) (hsm w3.heap.size (by omega) (by omega))).trans hc10
      have HSM := hide (And.intro hsm (And.intro hnF (And.intro c4' c10')))
      clear hsm hnF hz c4' c10' hs1
      by_cases h0 : (Dk.write (fst + ((secF rs x : Nat) : Int)) (rest.take 64)).1 = 0
      · rw [h0]
        have H0 := hide h0
        clear h0
        dsimp only
        gi_wp2_with fail
        obtain ⟨F2, hnext⟩ := PutAt.next HP.out.1 HL2.out H0.out HX.out.1 HS.out ⟨by have := HZ.out; omega, by omega⟩ (HSM.out.2.1 (s0 + 1 + 1) (by omega))
        rw [← HA2.out.1, ← HA2.out.2.1, ← HA2.out.2.2] at hnext
        have hz1 := HZ.out.1
        have hz3 := HZ.out.2.2.1
        have hz4 := HZ.out.2.2.2
        have hz5 := HBW.out.size
        refine ⟨(HL2.out.keeps HP.out.1.dev |>.trans (KeepsOthers.setCell _ _ _)).from _, (HL2.out.keepsI (S := fun k => F k ∨ k = s0 + 1 + 1 ∨ k = s0 + 1 + 1 + 1) HP.out.1.dev HP.out.1.foot (fun _ h => .inl h)).trans (KeepsI.setCell (.inr (.inl rfl)) (by show s0 + 1 + 1 < _; omega) _ _), ⟨F2, (Dk.write (fst + ((secF rs x : Nat) : Int)) (rest.take 64)).2, A2, C2, rest.drop 64, ?_⟩, ⟨?_, ?_, ?_, ?_⟩, ?_⟩
        · rw [List.map_append]
          exact hnext
        · rw [World.cell?_setCell_other _ _ _ _ (fun e => by simp at e)]
          exact HSM.out.2.2.1
        · rw [World.cell?_setCell_other _ _ _ _ (fun e => by simp at e)]
          exact HSM.out.2.2.2
        · rw [World.cell?_setCell_other _ _ _ _ (fun e => by simp at e)]
          exact c8'
        · rw [World.frozen?_setCell]
          exact f8'
        · exact putTurned (p := ⟨s0 + 1 + 1, 0, none⟩) HP.out.2 HP.out.1 HL2.out (by show w.heap.size ≤ s0 + 1 + 1; omega) _
      · obtain ⟨E, hE⟩ : ∃ E, E = (Dk.write (fst + ((secF rs x : Nat) : Int)) (rest.take 64)).1 := ⟨_, rfl⟩
        rw [← hE] at h0 ⊢
        have H0 := hide (And.intro h0 hE)
        have h0b : (E != 0) = true := by simpa using h0
        clear hE h0
        dsimp only
        gi_wp2_with fail
        obtain ⟨F2, d1, d2, d3⟩ := HL2.out
        have hz1 := HZ.out.1
        have hz3 := HZ.out.2.2.1
        have hz4 := HZ.out.2.2.2
        have hz5 := HBW.out.size
        have hsz := HP.out.1.sz
        have hnF2 : ¬ F2 (s0 + 1 + 1 + 1) := fun h => by
          rcases d3 _ h with h | h
          · rcases HP.out.1.foot _ h with h | h
            · exact HSM.out.2.1 _ (by omega) h
            · omega
          · omega
        refine ⟨(HL2.out.keeps HP.out.1.dev |>.trans (KeepsOthers.setCell _ _ _)).from _, ⟨rfl, Dk.write (fst + ((secF rs x : Nat) : Int)) (rest.take 64), fun Q => ?_, ⟨F2, d1.keep fun k _ hk => Below.heap_setCell _ _ _ _ (fun e => hnF2 (by have e : k = s0 + 1 + 1 + 1 := e; rw [← e]; exact hk)), fun k hk => ?_⟩, ?_⟩, ?_⟩
        · rw [List.map_append, List.append_assoc, HP.out.1.law]
          show writeS Dk fst rest (secF rs x :: Q) = _
          rw [writeS, if_neg (by rw [← H0.out.2]; exact H0.out.1)]
        · rcases d3 k hk with h | h
          · exact HP.out.1.foot k h
          · exact .inr (by omega)
        · rw [← H0.out.2]
          exact World.cell?_setCell_same' _ _ _ (by rw [c8']; rfl)
        · exact putTurned (p := ⟨s0 + 1 + 1 + 1, 0, none⟩) HP.out.2 HP.out.1 HL2.out (by show w.heap.size ≤ s0 + 1 + 1 + 1; omega) _
    · have q1 : ¬ (rest.length : Int) ≤ 64 := by omega
      have hm3 : m = 64 := by omega
      clear hm2
      have hs1 : ∀ w, (Instr.sliceAt 66 (.slice A' rest.length c') none (some (.int .i64 64)) none).run Try.prog w = .ok (.slice A' m c') w := fun w => by
        rw [hm3]
        exact run_slice_to (P := Try.prog) 66 5 Try.underlying66 size5 A' rest.length c' (64) (by omega) w
      have hs2 : ∀ w, (Instr.sliceAt 66 (.slice A' rest.length c') (some (.int .i64 64)) none none).run Try.prog w = .ok (.slice A2 L2 C2) w := fun w => by
        rw [HA2.out.1, HA2.out.2.1, HA2.out.2.2, hm3]
        exact run_sliceAt_from (P := Try.prog) 66 5 Try.underlying66 size5 A' rest.length c' (64) (by omega) w
      gi_wp2_with fail
      refine wpIn_quiet_tail_drewN 7 (by kernel_rfl) (by kernel_rfl) ?_
      simp only [List.take_succ_cons, List.take_zero, List.drop_succ_cons, List.drop_zero]
      repeat (go_big_quiet_step (fail))
      refine wpQuiet_nil ?_
      intro nq
      gi_wp2_with fail
      refine ⟨trivial, (CallsIn.inRound l0 (callsIn_wide.2 (put_step (m := 64) HP.out.1 (hm3.symm.trans HX.out.1) (by rw [List.length_map]; omega) hde hpe HS.out ⟨by omega, by omega⟩ nq))).mono ?_⟩
      rintro e W2 ⟨rfl, hL⟩
      have HL2 := hide (hL.of_draw)
      clear hL
      have hz := HZ.out
      have hnF : ∀ j, s0 ≤ j → ¬ F j := fun j hj hF => by have := HZ.out.2.1 j hF; omega
      have hsm : ∀ j, s0 ≤ j → j < W0.heap.size → W2.heap[j]? = W.heap[j]? := fun j h1 h2 => HP.out.1.same HL2.out h2 (hnF j h1)
      have c6' := (World.cell?_of_block (a := ⟨s0 + 1 + 1, 0, none⟩) (hsm (s0 + 1 + 1) (by omega) (by omega))).trans hc6
      have f6' := (World.frozen?_of_block (a := ⟨s0 + 1 + 1, 0, none⟩) (hsm (s0 + 1 + 1) (by omega) (by omega))).trans hf6
      have c8' := (World.cell?_of_block (a := ⟨s0 + 1 + 1 + 1, 0, none⟩) (hsm (s0 + 1 + 1 + 1) (by omega) (by omega))).trans hc8
      have f8' := (World.frozen?_of_block (a := ⟨s0 + 1 + 1 + 1, 0, none⟩) (hsm (s0 + 1 + 1 + 1) (by omega) (by omega))).trans hf8
      have c4' := (World.cell?_of_block (a := ⟨s0, 0, none⟩) (hsm s0 (by omega) (by omega))).trans hc4
      have c10' := (World.cell?_of_block (a := ⟨w3.heap.size, 0, none⟩) (hsm w3.heap.size (by omega) (by omega))).trans hc10
      have HSM := hide (And.intro hsm (And.intro hnF (And.intro c4' c10')))
      clear hsm hnF hz c4' c10' hs1
      by_cases h0 : (Dk.write (fst + ((secF rs x : Nat) : Int)) (rest.take 64)).1 = 0
      · rw [h0]
        have H0 := hide h0
        clear h0
        dsimp only
        gi_wp2_with fail
        obtain ⟨F2, hnext⟩ := PutAt.next HP.out.1 HL2.out H0.out HX.out.1 HS.out ⟨by have := HZ.out; omega, by omega⟩ (HSM.out.2.1 (s0 + 1 + 1) (by omega))
        rw [← HA2.out.1, ← HA2.out.2.1, ← HA2.out.2.2] at hnext
        have hz1 := HZ.out.1
        have hz3 := HZ.out.2.2.1
        have hz4 := HZ.out.2.2.2
        have hz5 := HBW.out.size
        refine ⟨(HL2.out.keeps HP.out.1.dev |>.trans (KeepsOthers.setCell _ _ _)).from _, (HL2.out.keepsI (S := fun k => F k ∨ k = s0 + 1 + 1 ∨ k = s0 + 1 + 1 + 1) HP.out.1.dev HP.out.1.foot (fun _ h => .inl h)).trans (KeepsI.setCell (.inr (.inl rfl)) (by show s0 + 1 + 1 < _; omega) _ _), ⟨F2, (Dk.write (fst + ((secF rs x : Nat) : Int)) (rest.take 64)).2, A2, C2, rest.drop 64, ?_⟩, ⟨?_, ?_, ?_, ?_⟩, ?_⟩
        · rw [List.map_append]
          exact hnext
        · rw [World.cell?_setCell_other _ _ _ _ (fun e => by simp at e)]
          exact HSM.out.2.2.1
        · rw [World.cell?_setCell_other _ _ _ _ (fun e => by simp at e)]
          exact HSM.out.2.2.2
        · rw [World.cell?_setCell_other _ _ _ _ (fun e => by simp at e)]
          exact c8'
        · rw [World.frozen?_setCell]
          exact f8'
        · exact putTurned (p := ⟨s0 + 1 + 1, 0, none⟩) HP.out.2 HP.out.1 HL2.out (by show w.heap.size ≤ s0 + 1 + 1; omega) _
      · obtain ⟨E, hE⟩ : ∃ E, E = (Dk.write (fst + ((secF rs x : Nat) : Int)) (rest.take 64)).1 := ⟨_, rfl⟩
        rw [← hE] at h0 ⊢
        have H0 := hide (And.intro h0 hE)
        have h0b : (E != 0) = true := by simpa using h0
        clear hE h0
        dsimp only
        gi_wp2_with fail
        obtain ⟨F2, d1, d2, d3⟩ := HL2.out
        have hz1 := HZ.out.1
        have hz3 := HZ.out.2.2.1
        have hz4 := HZ.out.2.2.2
        have hz5 := HBW.out.size
        have hsz := HP.out.1.sz
        have hnF2 : ¬ F2 (s0 + 1 + 1 + 1) := fun h => by
          rcases d3 _ h with h | h
          · rcases HP.out.1.foot _ h with h | h
            · exact HSM.out.2.1 _ (by omega) h
            · omega
          · omega
        refine ⟨(HL2.out.keeps HP.out.1.dev |>.trans (KeepsOthers.setCell _ _ _)).from _, ⟨rfl, Dk.write (fst + ((secF rs x : Nat) : Int)) (rest.take 64), fun Q => ?_, ⟨F2, d1.keep fun k _ hk => Below.heap_setCell _ _ _ _ (fun e => hnF2 (by have e : k = s0 + 1 + 1 + 1 := e; rw [← e]; exact hk)), fun k hk => ?_⟩, ?_⟩, ?_⟩
        · rw [List.map_append, List.append_assoc, HP.out.1.law]
          show writeS Dk fst rest (secF rs x :: Q) = _
          rw [writeS, if_neg (by rw [← H0.out.2]; exact H0.out.1)]
        · rcases d3 k hk with h | h
          · exact HP.out.1.foot k h
          · exact .inr (by omega)
        · rw [← H0.out.2]
          exact World.cell?_setCell_same' _ _ _ (by rw [c8']; rfl)
        · exact putTurned (p := ⟨s0 + 1 + 1 + 1, 0, none⟩) HP.out.2 HP.out.1 HL2.out (by show w.heap.size ≤ s0 + 1 + 1 + 1; omega) _
  case done =>
    rintro D' ys W hD rfl ⟨⟨F', Dk, A', c', rest, hP⟩, ⟨hc4, hc10, hc8, hf8⟩, hT⟩ hK
    have hlaw := hP.law []
    rw [List.append_nil, secF_range rs _ (Nat.le_refl _), List.take_length] at hlaw
    have hde2 := hP.de
    have hpe2 := hP.pend
    rw [List.length_map, List.length_range] at hde2 hpe2
    have hlt4 := World.block_lt_of_cell? W _ hc4
    have hsz := hP.sz
    have HP := hide (And.intro hP (And.intro hT hlaw))
    clear hP hT hlaw
    go_wp2_with fail
    refine (flush_any W HP.out.1.dev (by omega) (by omega)).mono ?_
    rintro e W2 ⟨rfl, hL⟩
    have hz1 := HZ.out.1
    have hz3 := HZ.out.2.2.1
    have hz4 := HZ.out.2.2.2
    have hz5 := HBW.out.size
    have hnF : ¬ F (s0 + 1 + 1 + 1) := fun h => by have := HZ.out.2.1 _ h; omega
    have e8 := HP.out.1.same hL (j := s0 + 1 + 1 + 1) (by omega) hnF
    have c8' := (World.cell?_of_block (a := ⟨s0 + 1 + 1 + 1, 0, none⟩) e8).trans hc8
    have f8' := (World.frozen?_of_block (a := ⟨s0 + 1 + 1 + 1, 0, none⟩) e8).trans hf8
    have hK2 := (hL.keeps HP.out.1.dev).same D' _ hK rfl
    have HL2 := hide (And.intro hL hK2)
    clear hL e8 hnF hK2 hz1 hz3 hz4 hz5
    dsimp only
    go_wp2_with fail
    have hz1 := HZ.out.1
    have hz3 := HZ.out.2.2.1
    have hz4 := HZ.out.2.2.2
    have hz5 := HBW.out.size
    obtain ⟨F2, d1, d2, d3⟩ := HL2.out.1
    have hnF2 : ¬ F2 (s0 + 1 + 1 + 1) := fun h => by
      rcases d3 _ h with h | h
      · rcases HP.out.1.foot _ h with h | h
        · have := HZ.out.2.1 _ h; omega
        · omega
      · omega
    have hnD : ¬ F2 D' := fun h => by
      obtain ⟨cs, t, h1, _⟩ := d1.types h
      rw [HL2.out.2] at h1
      cases h1
    have hK5 : (W2.setCell ⟨s0 + 1 + 1 + 1, 0, none⟩ (.int .i64 Dk.flush.1)).heap[D']? = some (.deferred (some [])) := (KeepsOthers.setCell _ _ _).same D' _ HL2.out.2 rfl
    have hlaw : writeS D (firstS l a d) bs (pos rs) = Dk.flush := by rw [← HFS.out]; exact HP.out.2.2
    refine wfinD (R := PutQ F q (writeS D (firstS l a d) bs (pos rs)) w) ?hg1 (World.cell?_setCell_same' _ _ _ (by rw [c8']; rfl)) hK5 ?hg2
    case hg1 => rfl
    rw [hlaw]
    refine ⟨rfl, ?_⟩
    refine ⟨F2, d1.keep fun k _ hk => (World.putObj_heap_other (fun e => hnD (by rw [← e]; exact hk))).trans (Below.heap_setCell _ _ _ _ (fun e => hnF2 (by have e : k = s0 + 1 + 1 + 1 := e; rw [← e]; exact hk))), ?_, fun k hk => ?_⟩
    · have ht := putTurned (p := ⟨s0 + 1 + 1 + 1, 0, none⟩) HP.out.2.1 HP.out.1 HL2.out.1 (by show w.heap.size ≤ s0 + 1 + 1 + 1; omega) (.int .i64 Dk.flush.1)
      exact ⟨ht.os, ht.tape, ht.output, by have := ht.size; simpa using this, fun k hk hF => (World.putObj_heap_other (by omega)).trans (ht.block k hk hF)⟩
    · rcases d3 k hk with h | h
      · rcases HP.out.1.foot k h with h | h
        · exact .inl h
        · exact .inr (by omega)
      · exact .inr (by omega)
  case stop =>
    rintro D' c' pre W hD ⟨k, hk, rfl⟩ ⟨⟨rfl, r, hlaw, ⟨F', hdv, hft⟩, hc8⟩, hT⟩ hK
    refine wpIn_wide.2 ?_
    have HP := hide (And.intro hlaw (And.intro hdv (And.intro hft hT)))
    clear hlaw hdv hft hT
    go_wp2_with fail
    have hz4 := HZ.out.2.2.2
    have hz5 := HBW.out.size
    obtain ⟨hlaw, hdv, hft, hT⟩ := HP.out
    have hl2 : writeS D (firstS l a d) bs (pos rs) = r := by
      have := hlaw ((pos rs).drop (k + 1))
      rw [secF_range rs _ (by omega), List.take_append_drop] at this
      rw [← HFS.out]
      exact this
    have hnD : ¬ F' D' := fun h => by
      obtain ⟨cs, t, h1, _⟩ := hdv.types h
      rw [hK] at h1
      cases h1
    refine wfinD (R := PutQ F q (writeS D (firstS l a d) bs (pos rs)) w) ?hg3 hc8 hK ?hg4
    case hg3 => rfl
    rw [hl2]
    refine ⟨rfl, ?_⟩
    refine ⟨F', hdv.keep fun k _ hk => World.putObj_heap_other (fun e => hnD (by rw [← e]; exact hk)), ⟨hT.os, hT.tape, hT.output, by have := hT.size; simpa using this, fun k hk hF => (World.putObj_heap_other (by omega)).trans (hT.block k hk hF)⟩, fun k hk => ?_⟩
    rcases hft k hk with h | h
    · exact .inl h
    · exact .inr (by omega)
theorem bwrite_any {D : Dv} {F : Nat → Prop} {q : Nat} (l a d : Int) (h64 : rightP l a d → d ≤ 64) (bs : List UInt8) (hbs : bs.length ≤ 1000000) (A : Option Addr) (cap : Nat) (hcap : bs.length ≤ cap) (Ar : Option Addr) (cr : Nat) (rs : List Run) (hlen : rs.length ≤ 1000000) (w : World)
    (hd : DevAt w F q D) (hde : D.de ≤ 900000000) (hpe : D.pend.length ≤ 90000) (hrs : RunsM w w.heap.size (.slice Ar rs.length cr) rs) (hsep : ∀ ad, Ar = some ad → 0 < rs.length → ¬ F ad.block)
    (hs : Src w A bs.length cap (bv bs)) (hsb : ∀ ad, A = some ad → 0 < bs.length → ¬ F ad.block) :
    Calls Try.prog 35 #[.pointer (some ⟨q, 0, none⟩), .agg #[.int .i64 l, .int .i64 a, .int .i64 d], .slice A bs.length cap, .slice Ar rs.length cr] w (PutQ F q (D.put l a d bs rs) w) := by
  by_cases hE : suitsE D.kept.length l a d bs.length rs = 0
  · rw [Dv.put, if_pos hE]
    have hap : apartP l a d rs := by
      by_cases h : apartP l a d rs
      · exact h
      · rw [suitsE, if_neg (fun h2 => h h2.1)] at hE
        cases hE
    exact bwrite_in l a d (h64 hap.1) bs hbs A cap hcap Ar cr rs hlen w hd hde hpe hrs hsep hs hsb hE
  · rw [Dv.put, if_neg hE]
    have hE2 : suitsE D.kept.length l a d bs.length rs = 2 := by
      rw [suitsE] at hE ⊢
      split at hE
      · exact absurd rfl hE
      · rename_i h
        rw [if_neg h]
    rw [hE2]
    obtain ⟨w1, hw1⟩ : ∃ w1, w1 = (((w.alloc (.cells #[.pointer (some ⟨q, 0, none⟩)] 69)).alloc (.cells #[.int .i64 l, .int .i64 a, .int .i64 d] 64)).alloc (.cells #[.slice A bs.length cap] 66)).alloc (.cells #[.int .i64 0] 34) := ⟨_, rfl⟩
    have b8 : Blk w1 (w.heap.size + 1 + 1 + 1) 34 #[.int .i64 0] := by
      rw [hw1]
      have := Blk.new (((w.alloc (.cells #[.pointer (some ⟨q, 0, none⟩)] 69)).alloc (.cells #[.int .i64 l, .int .i64 a, .int .i64 d] 64)).alloc (.cells #[.slice A bs.length cap] 66)) 34 #[.int .i64 0]
      rwa [size_alloc, size_alloc, size_alloc] at this
    have hb1 : Below w.heap.size w w1 := by rw [hw1]; exact ((((Below.refl _ w).alloc (Nat.le_refl _) _).al _).al _).al _
    have HD := hide (And.intro hd hrs)
    have H1 := hide (And.intro b8 hb1)
    clear hd hrs hs hsep hsb hE b8 hb1
    go_enter Try.func35, Try.ntmps35
    go_wp2_with fail
    rw [← hw1]
    have HW1 := hide hw1
    clear hw1
    refine (suits_any l a d h64 (bs.length : Int) (by omega) _ rs hlen w1 (HD.out.2.below H1.out.2) (HD.out.1.keep fun k hk _ => H1.out.2.block k hk)).mono ?_
    rintro e w2 ⟨rfl, hb2⟩
    rw [hE2]
    have h8 := H1.out.1.below hb2 H1.out.1.lt
    have c8 := h8.cell 0
    have f8 := h8.frozen 0
    have hlt8 := h8.lt
    have H2 := hide (And.intro h8 (H1.out.2.next hb2))
    clear hb2 H1 HW1 h8
    dsimp only
    go_wp2_with fail
    have hc := World.cell?_setCell_same' w2 ⟨w.heap.size + 1 + 1 + 1, 0, none⟩ (.int .i64 2) (by rw [c8]; rfl)
    refine bodyPost_ret (v := .int .i64 2) (by simp [results, Try.f35, go_sem, hc]) rfl ⟨rfl, ?_⟩
    have hB := H2.out.2.setCell (p := ⟨w.heap.size + 1 + 1 + 1, 0, none⟩) (by show w.heap.size ≤ w.heap.size + 1 + 1 + 1; omega) (.int .i64 2)
    exact ⟨F, HD.out.1.keep fun k hk _ => hB.block k hk, Turned.of_below hB F, fun k hk => .inl hk⟩
end Go.Proofs.Ytfppddnfdinipaa
end
section
namespace Go.Proofs.Ytfppddnfdinipaa
open Go Go.RowKit Go.Shelf
attribute [local go_sem] Oper.semAt_some
set_option maxRecDepth 100000
/-- what sectors hold, one behind the other -/
def Dv.gather (D : Dv) (fst : Nat) (ps : List Nat) : List UInt8 := (ps.map fun p => D.read (fst + p)).flatten
def Dv.get (D : Dv) (l a d n : Int) (rs : List Run) : Int × List UInt8 :=
  if suitsE D.kept.length l a d n rs = 0 then (if D.dn = true ∧ pos rs ≠ [] then (10, []) else (0, (D.gather (firstS l a d).toNat (pos rs)).take n.toNat)) else (suitsE D.kept.length l a d n rs, [])
def GetQ (r : Int × List UInt8) (w : World) (e : Ending) (w' : World) : Prop := ∃ o, e = .returned (.tuple #[o, .int .i64 r.1]) ∧ w'.ownsRow w.heap.size 5 1 o r.2.length (bv r.2) ∧ Below w.heap.size w w'
theorem secF_ltd {rs : List Run} {d : Int} (h : ∀ r ∈ rs, okRun d r) (hd : 1 ≤ d) (x : Nat) : (secF rs x : Int) < d := by
  unfold secF
  rw [List.getD]
  cases hx : (pos rs)[x]? with
  | none => show ((0 : Nat) : Int) < d; omega
  | some y => exact pos_lt h y (List.mem_of_getElem? hx)
theorem rfinD {tmps : Array Value} {B B2 D : Nat} {W : World} {v u : Value} {R : Ending → World → Prop} (h4 : tmps.getD 8 undef = .pointer (some ⟨B, 0, none⟩)) (h5 : tmps.getD 9 undef = .pointer (some ⟨B2, 0, none⟩)) (hc : W.cell? ⟨B, 0, none⟩ = some v) (hc2 : W.cell? ⟨B2, 0, none⟩ = some u) (hK : W.heap[D]? = some (.deferred (some []))) (hR : R (.returned (.tuple #[v, u])) (W.putObj D (.deferred none))) :
    bodyPostM Fence.wide 5 Try.prog Try.f39 R .ret { tmps := tmps, defers := [{ target := .collected D, args := #[] }] } W := by
  have h4' : tmps[8]?.getD undef = .pointer (some ⟨B, 0, none⟩) := by simpa using h4
  have h5' : tmps[9]?.getD undef = .pointer (some ⟨B2, 0, none⟩) := by simpa using h5
  have hc' := cell_kept hc (grownBy_putObj' _ D (.deferred none)) (fun r e => by cases e; exact ⟨_, hK, rfl⟩)
  have hc2' := cell_kept hc2 (grownBy_putObj' _ D (.deferred none)) (fun r e => by cases e; exact ⟨_, hK, rfl⟩)
  exact ⟨by simp, .inl ⟨_, _, rfl, run_takeDeferred hK, .tuple #[v, u], by simp [results, Try.f39, go_sem, h4', h5', hc', hc2'], hR⟩⟩
theorem own_keeps {W W2 : World} {v : Value} {m n₀ : Nat} {xs : List Value} {S : Nat → Prop} (ho : W.ownsRow n₀ 5 1 v m xs) (hg : W.grownBy W2 v.ownBlock) : KeepsOthers W W2 ∧ KeepsI S n₀ W W2 := by
  have key : ∀ k, v.ownBlock = some k → n₀ ≤ k ∧ ∃ cs, W.heap[k]? = some (.cells cs 5 (0, 0)) := by
    intro k hk
    rcases owned_formN ho with ⟨rfl, _⟩ | ⟨g', cap', cur, rfl, h1, _, _, hh, _⟩
    · cases hk
    · have hk : some g' = some k := hk
      injection hk with hk
      subst hk
      exact ⟨h1, _, hh⟩
  refine ⟨⟨hg.size, fun k o hk hc => (hg.block k (Array.getElem?_eq_some_iff.1 hk).1 fun e => ?_).trans hk⟩, ⟨hg.size, fun k o hn _ hk _ => (hg.block k (Array.getElem?_eq_some_iff.1 hk).1 fun e => ?_).trans hk, fun k cs fr hn hk => (hg.block k (Array.getElem?_eq_some_iff.1 hk).1 fun e => ?_).trans hk⟩⟩
  · obtain ⟨_, cs, h2⟩ := key k e.symm
    rw [hk] at h2
    injection h2 with h2
    subst h2
    cases hc
  · have := (key k e.symm).1
    omega
  · obtain ⟨_, cs', h2⟩ := key k e.symm
    rw [hk] at h2
    injection h2 with h2
    injection h2 with _ h2
    exact absurd h2 (by decide)
theorem gather_one (D : Dv) (fst : Nat) (ps : List Nat) (p : Nat) : D.gather fst (ps ++ [p]) = D.gather fst ps ++ D.read (fst + p) := by simp [Dv.gather]
set_option maxHeartbeats 1000000 in
theorem bread_in {D : Dv} {F : Nat → Prop} {q : Nat} (l a d n : Int) (h64 : d ≤ 64) (hn : -9223372036854775808 ≤ n ∧ n ≤ 9223372036854775807) (Ar : Option Addr) (cr : Nat) (rs : List Run) (hlen : rs.length ≤ 1000000) (w : World)
    (hd : DevAt w F q D) (hpe : D.pend.length ≤ 90000) (hrs : RunsM w w.heap.size (.slice Ar rs.length cr) rs) (hE : suitsE D.kept.length l a d n rs = 0) :
    Calls Try.prog 39 #[.pointer (some ⟨q, 0, none⟩), .agg #[.int .i64 l, .int .i64 a, .int .i64 d], .int .i64 n, .slice Ar rs.length cr] w (GetQ (D.get l a d n rs) w) := by
  have hsu : apartP l a d rs ∧ 0 ≤ n ∧ ((pos rs).length : Int) = needP n ∧ secs l a d ≤ (D.kept.length : Int) := by
    by_cases h : apartP l a d rs ∧ 0 ≤ n ∧ ((pos rs).length : Int) = needP n ∧ secs l a d ≤ (D.kept.length : Int)
    · exact h
    · rw [suitsE, if_neg h] at hE
      cases hE
  obtain ⟨hap, hn0, hneed, hsec⟩ := hsu
  obtain ⟨m, rfl⟩ : ∃ m : Nat, n = (m : Int) := ⟨n.toNat, by omega⟩
  have hR := hap.1
  have hfst : 0 ≤ firstS l a d ∧ firstS l a d ≤ 8192 ∧ firstS l a d + d = secs l a d := by
    have h1 := hR.1
    have h2 := hR.2.1
    have h3 := hR.2.2.1
    have h4 := hR.2.2.2
    rw [firstS, if_pos hR, secs, if_pos hR]
    unfold inW at h1 h2 h3
    omega
  have hd1 := apart_d hap
  have hcnt := apart_count hap
  have hN : (pos rs).length ≤ 64 := by omega
  have HD := hide (And.intro hd (And.intro hrs (And.intro hE (And.intro hap (And.intro hneed hsec)))))
  clear hd hrs hE hap hR hneed hsec
  refine (callsIn_wide (n := 5)).1 ?_
  refine callsIn_of_wp_marks Try.func39 rfl trivial ?_ rfl
  simp only [Try.ntmps39, List.size_toArray, List.length_cons, List.length_nil, Nat.reduceAdd, Nat.reduceSub, Array.replicate_succ, Array.replicate_zero, List.push_toArray, List.append_toArray, List.nil_append, List.cons_append]
  refine wpIn_wide.2 ?_
  obtain ⟨w1, hw1⟩ : ∃ w1, w1 = (((w.alloc (.cells #[.pointer (some ⟨q, 0, none⟩)] 69)).alloc (.cells #[.int .i64 l, .int .i64 a, .int .i64 d] 64)).alloc (.cells #[.slice none 0 0] 66)).alloc (.cells #[.int .i64 0] 34) := ⟨_, rfl⟩
  have b4 : Blk w1 w.heap.size 69 #[.pointer (some ⟨q, 0, none⟩)] := by rw [hw1]; exact (((Blk.new w _ _).alloc _).alloc _).alloc _
  have b5 : Blk w1 (w.heap.size + 1) 64 #[.int .i64 l, .int .i64 a, .int .i64 d] := by
    rw [hw1]
    have := ((Blk.new (w.alloc (.cells #[.pointer (some ⟨q, 0, none⟩)] 69)) 64 #[.int .i64 l, .int .i64 a, .int .i64 d]).alloc (.cells #[.slice none 0 0] 66)).alloc (.cells #[.int .i64 0] 34)
    rwa [size_alloc] at this
  have b6 : Blk w1 (w.heap.size + 1 + 1) 66 #[.slice none 0 0] := by
    rw [hw1]
    have := (Blk.new ((w.alloc (.cells #[.pointer (some ⟨q, 0, none⟩)] 69)).alloc (.cells #[.int .i64 l, .int .i64 a, .int .i64 d] 64)) 66 #[.slice none 0 0]).alloc (.cells #[.int .i64 0] 34)
    rwa [size_alloc, size_alloc] at this
  have b8 : Blk w1 (w.heap.size + 1 + 1 + 1) 34 #[.int .i64 0] := by
    rw [hw1]
    have := Blk.new (((w.alloc (.cells #[.pointer (some ⟨q, 0, none⟩)] 69)).alloc (.cells #[.int .i64 l, .int .i64 a, .int .i64 d] 64)).alloc (.cells #[.slice none 0 0] 66)) 34 #[.int .i64 0]
    rwa [size_alloc, size_alloc, size_alloc] at this
  have hb1 : Below w.heap.size w w1 := by rw [hw1]; exact ((((Below.refl _ w).alloc (Nat.le_refl _) _).al _).al _).al _
  have H1 := hide (And.intro b4 (And.intro b5 (And.intro b6 (And.intro b8 hb1))))
  clear b4 b5 b6 b8 hb1
  go_wp2_with fail
  rw [← hw1]
  have HW1 := hide hw1
  clear hw1
  refine (suits_any l a d (fun _ => h64) (m : Int) hn _ rs hlen w1 (HD.out.2.1.below H1.out.2.2.2.2) (HD.out.1.keep fun k hk _ => H1.out.2.2.2.2.block k hk)).mono ?_
  rintro e w2 ⟨rfl, hb2⟩
  rw [HD.out.2.2.1]
  have H2 := hide (And.intro (H1.out.1.below hb2 H1.out.1.lt) (And.intro (H1.out.2.1.below hb2 H1.out.2.1.lt) (And.intro (H1.out.2.2.1.below hb2 H1.out.2.2.1.lt) (And.intro (H1.out.2.2.2.1.below hb2 H1.out.2.2.2.1.lt) (H1.out.2.2.2.2.next hb2)))))
  have c0 := H2.out.2.1.cell 0
  have c1 := H2.out.2.1.cell 1
  have c2 := H2.out.2.1.cell 2
  have hlt := H2.out.2.1.lt
  clear hb2 HW1 H1
  dsimp only
  go_wp2_with fail
  refine (lfirst_any l a d w2).mono ?_
  rintro e w3 ⟨rfl, hb3⟩
  have H3 := hide (And.intro (H2.out.1.below hb3 H2.out.1.lt) (And.intro (H2.out.2.2.1.below hb3 H2.out.2.2.1.lt) (And.intro (H2.out.2.2.2.1.below hb3 H2.out.2.2.2.1.lt) (H2.out.2.2.2.2.next hb3))))
  clear hb3 c0 c1 c2 hlt H2
  obtain ⟨fst, hfs⟩ : ∃ fst : Nat, (fst : Int) = firstS l a d := ⟨(firstS l a d).toNat, by omega⟩
  rw [← hfs] at hfst ⊢
  have HFS := hide hfs
  clear hfs
  dsimp only
  go_wp2_with fail
  refine (each_any _ _ _ _).mono ?_
  rintro e W0 ⟨rfl, hW0⟩
  obtain ⟨s0, hs0⟩ : ∃ s0, s0 = w.heap.size := ⟨_, rfl⟩
  have e4 : W0.heap.size = w3.heap.size + 1 + 1 := by rw [hW0, size_alloc, size_alloc]
  have hb0 : Below w3.heap.size w3 W0 := by rw [hW0]; exact ((Below.refl _ w3).alloc (Nat.le_refl _) _).al _
  have hB10 : Blk W0 w3.heap.size 3 #[.int .i64 (fst : Int)] := by rw [hW0]; exact (Blk.new w3 _ _).alloc _
  have hBd : Blk W0 (w3.heap.size + 1) 73 #[.slice Ar rs.length cr] := by
    rw [hW0]
    have := Blk.new (w3.alloc (.cells #[.int .i64 (fst : Int)] 3)) 73 #[.slice Ar rs.length cr]
    rwa [size_alloc] at this
  have h3 := H3.out
  rw [← hs0] at h3
  have hB4 := h3.1.below hb0 h3.1.lt
  have hB6 := h3.2.1.below hb0 h3.2.1.lt
  have hB8 := h3.2.2.1.below hb0 h3.2.2.1.lt
  have hbw : Below w.heap.size w W0 := by rw [← hs0]; exact (show Below w.heap.size w w3 by rw [← hs0]; exact h3.2.2.2).next hb0 |> fun h => by rwa [hs0]
  have hlt8 := h3.2.2.1.lt
  clear h3
  rw [← hs0]
  have cells : 0 < rs.length → ∃ b off, Ar = some ⟨b, off, none⟩ ∧ b < W0.heap.size ∧ ¬ (b = s0 + 1 + 1 ∨ b = s0 + 1 + 1 + 1) ∧ ∀ j r, rs[j]? = some r → W0.cell? ⟨b, off + j * 2, none⟩ = some (.int .i64 r.1) ∧ W0.cell? ⟨b, off + j * 2 + 1, none⟩ = some (.int .i64 r.2) := by
    intro h
    obtain ⟨A', cp', hv, _, _, hA, _⟩ := HD.out.2.1
    injection hv with e1 _ _
    subst e1
    obtain ⟨b, off, e1, e2, e3⟩ := hA h
    refine ⟨b, off, e1, by omega, by omega, fun j r hj => ⟨(hbw.cell (p := ⟨b, off + j * 2, none⟩) e2).trans (e3 j r hj).1, (hbw.cell (p := ⟨b, off + j * 2 + 1, none⟩) e2).trans (e3 j r hj).2⟩⟩
  have HI := hide (And.intro (And.intro (hB6.cell 0) (hB6.frozen 0)) (And.intro (hB4.cell 0) (And.intro (hB10.cell 0) (And.intro (hB8.cell 0) (hB8.frozen 0)))))
  have HC := hide (And.intro cells (And.intro HD.out.2.2.2.1 (hBd.cell 0)))
  have HZ := hide (And.intro e4 (And.intro hlt8 hs0))
  have HBW := hide hbw
  clear hs0 e4 hb0 hB10 hBd hB4 hB6 hB8 hbw hlt8 cells H3 hW0
  rw [size_alloc]
  dsimp only
  go_wp2_with fail
  refine (wpIn_wide (n := 5)).1 ?_
  refine wpIn_rangeFunc_ownG (F := Fence.wide) (n := 5) (α := Nat) rfl (by omega) (gf := 122) (lb := #[.pointer (some ⟨w3.heap.size + 1, 0, none⟩)]) rfl trivial (enters_of Try.func122 (by kernel_rfl) rfl)
    (each_stops (n₀ := W0.heap.size) (S := fun k => k = s0 + 1 + 1 ∨ k = s0 + 1 + 1 + 1) Fence.wide 4 trivial rfl (by omega) (w3.heap.size + 1) cr Ar rs hlen (fun r hr => by have := HC.out.2.1.2.1 r hr; unfold okRun at this; omega) W0 (Nat.le_refl _) (by have := HZ.out.1; omega) HC.out.2.2 HC.out.1) KeepsI.trans (KeepsI.putObj (Nat.le_refl _)) (Below.refl _ _) (fun _ => rfl)
    (fun pre W => ((D.dn = true → pre = []) ∧ W0.heap.size ≤ W.heap.size ∧ ∃ v, W.cell? ⟨s0 + 1 + 1, 0, none⟩ = some v ∧ W.frozen? ⟨s0 + 1 + 1, 0, none⟩ = false ∧ W.ownsRow W0.heap.size 5 1 v (64 * pre.length) (bv (D.gather fst (pre.map (secF rs))))) ∧ (W.cell? ⟨s0, 0, none⟩ = some (.pointer (some ⟨q, 0, none⟩)) ∧ W.cell? ⟨w3.heap.size, 0, none⟩ = some (.int .i64 (fst : Int)) ∧ W.cell? ⟨s0 + 1 + 1 + 1, 0, none⟩ = some (.int .i64 0) ∧ W.frozen? ⟨s0 + 1 + 1 + 1, 0, none⟩ = false) ∧ Below w.heap.size w W)
    (fun c pre W => (c = .ret ∧ D.dn = true ∧ W.cell? ⟨s0 + 1 + 1, 0, none⟩ = some (.slice none 0 0) ∧ W.cell? ⟨s0 + 1 + 1 + 1, 0, none⟩ = some (.int .i64 10)) ∧ Below w.heap.size w W)
    ?ownI ?ownX ⟨⟨fun _ => rfl, Nat.le_refl _, .slice none 0 0, HI.out.1.1, HI.out.1.2, World.ownsRow_nil _ _ _ _⟩, HI.out.2, HBW.out⟩
    (fun x => { tmps := #[.pointer (some ⟨q, 0, none⟩), .agg #[.int .i64 l, .int .i64 a, .int .i64 d], .int .i64 (m : Int), .slice Ar rs.length cr, .pointer (some ⟨s0, 0, none⟩), .pointer (some ⟨s0 + 1, 0, none⟩), undef, undef, .pointer (some ⟨s0 + 1 + 1, 0, none⟩), .pointer (some ⟨s0 + 1 + 1 + 1, 0, none⟩), .int .i64 0, .pointer (some ⟨w3.heap.size, 0, none⟩), .int .i64 ((secF rs x : Nat) : Int), undef, undef, .pointer (some ⟨q, 0, none⟩), .agg #[.int .i64 l, .int .i64 a, .int .i64 d], .int .i64 (m : Int), .slice Ar rs.length cr, .int .i64 0, .int .i64 0, .bool false, undef, .agg #[.int .i64 l, .int .i64 a, .int .i64 d], .int .i64 (fst : Int), .slice Ar rs.length cr, .func (.func 122) #[] #[.pointer (some ⟨w3.heap.size + 1, 0, none⟩)], .int .i64 ((secF rs x : Nat) : Int), undef, undef, undef, undef, undef, undef, undef, undef, undef, undef, undef, undef, undef, undef, undef, undef, undef], defers := [] }) ?assign ?body ?done ?stop
  case ownI =>
    refine OwnFrom.and (Own.from (fun pre X Y row hs hg hr => ?_) _) (OwnFrom.and (Own.from (fun pre X Y row hs hg hr => ⟨cell_kept hs.1 hg hr, cell_kept hs.2.1 hg hr, cell_kept hs.2.2.1 hg hr, (frozen_kept hs.2.2.1 hg hr).trans hs.2.2.2⟩) _) (ownFrom_below (Nat.le_refl _) (by have := HBW.out.size; exact this)))
    obtain ⟨h1, h2, v, h3, h4, h5⟩ := hs
    exact ⟨h1, Nat.le_trans h2 hg.size, v, cell_kept h3 hg hr, (frozen_kept h3 hg hr).trans h4, own_grown h5 hg hr⟩
  case ownX =>
    intro c
    refine OwnFrom.and (Own.from (fun pre X Y row hs hg hr => ?_) _) (ownFrom_below (Nat.le_refl _) (by have := HBW.out.size; exact this))
    obtain ⟨h1, h2, h3, h4⟩ := hs
    exact ⟨h1, h2, cell_kept h3 hg hr, cell_kept h4 hg hr⟩
  case assign =>
    intro l y W K hK
    dsimp only [posE]
    gi_wp2
    exact hK
  case body =>
    rintro l0 pre x W ⟨⟨hdp, hsz, v, hc8, hf8, ho⟩, ⟨hc4, hc11, hc9, hf9⟩, hB⟩ hlen2
    have hx := secF_lt HC.out.2.1.2.1 h64 x
    have hxd := secF_ltd HC.out.2.1.2.1 hd1.1 x
    have n1 : (0 : Int) ≤ (fst : Int) := by omega
    have n2 : (fst : Int) ≤ 8192 := hfst.2.1
    have n3 : (0 : Int) ≤ ((secF rs x : Nat) : Int) := by omega
    have n4 : ((secF rs x : Nat) : Int) < 64 := by omega
    have hdev : DevAt W F q D := HD.out.1.keep fun k hk _ => hB.block k hk
    have HW := hide (And.intro hdp (And.intro hsz (And.intro ho (And.intro hB hdev))))
    clear hdp hsz ho hB hdev hxd
    by_cases hdn : D.dn = true
    · gi_wp2_with fail
      refine ⟨trivial, (CallsIn.inRound l0 (callsIn_wide.2 (read_down ((fst : Int) + ((secF rs x : Nat) : Int)) W HW.out.2.2.2.2 hdn))).mono ?_⟩
      rintro e W1 ⟨rfl, hb1⟩
      have c8' := (hb1.cell (p := ⟨s0 + 1 + 1, 0, none⟩) (World.block_lt_of_cell? W _ hc8)).trans hc8
      have f8' := (hb1.frozen (p := ⟨s0 + 1 + 1, 0, none⟩) (World.block_lt_of_cell? W _ hc8)).trans hf8
      have c9' := (hb1.cell (p := ⟨s0 + 1 + 1 + 1, 0, none⟩) (World.block_lt_of_cell? W _ hc9)).trans hc9
      have f9' := (hb1.frozen (p := ⟨s0 + 1 + 1 + 1, 0, none⟩) (World.block_lt_of_cell? W _ hc9)).trans hf9
      have H1 := hide hb1
      clear hb1
      dsimp only
      gi_wp2_with fail
      refine ⟨((keepsFrom_below H1.out).trans ((KeepsOthers.setCell _ _ _).from _)).trans ((KeepsOthers.setCell _ _ _).from _), ⟨rfl, hdn, ?_, ?_⟩, ?_⟩
      · rw [World.cell?_setCell_other _ _ _ _ (fun e => by simp at e)]
        exact World.cell?_setCell_same' _ _ _ (by rw [c8']; rfl)
      · exact World.cell?_setCell_same' _ _ _ (by rw [World.cell?_setCell_other _ _ _ _ (fun e => by simp at e), c9']; rfl)
      · have hz := HZ.out.2.2
        exact ((HW.out.2.2.2.1.next H1.out).setCell (p := ⟨s0 + 1 + 1, 0, none⟩) (by show w.heap.size ≤ s0 + 1 + 1; omega) _).setCell (p := ⟨s0 + 1 + 1 + 1, 0, none⟩) (by show w.heap.size ≤ s0 + 1 + 1 + 1; omega) _
    · have hdn' : D.dn = false := by simpa using hdn
      have hlt : fst + secF rs x < D.kept.length := by
        have h1 := HD.out.2.2.2.2.2
        have h2 := secF_ltd HC.out.2.1.2.1 hd1.1 x
        have h3 := hfst.2.2
        omega
      have hr := readDev_any (fst + secF rs x) hlt W HW.out.2.2.2.2 hdn' (by omega)
      rw [Int.natCast_add] at hr
      have hpl : pre.length < 64 := by omega
      gi_wp2_with fail
      refine ⟨trivial, (CallsIn.inRound l0 (callsIn_wide.2 hr)).mono ?_⟩
      rintro e W1 ⟨vb, rfl, hob, hb1⟩
      obtain ⟨kb, cb, rfl⟩ := owned_placeN hob (by omega)
      obtain ⟨i, hi, hz0, hz1, hz2⟩ := info_parts info_u8
      have hov : W1.ownsRow W0.heap.size 5 1 v (64 * pre.length) (bv (D.gather fst (pre.map (secF rs)))) := owned_keepN HW.out.2.2.1 fun k _ hl => hb1.block k hl
      have c8' := (hb1.cell (p := ⟨s0 + 1 + 1, 0, none⟩) (World.block_lt_of_cell? W _ hc8)).trans hc8
      have f8' := (hb1.frozen (p := ⟨s0 + 1 + 1, 0, none⟩) (World.block_lt_of_cell? W _ hc8)).trans hf8
      have c9' := (hb1.cell (p := ⟨s0 + 1 + 1 + 1, 0, none⟩) (World.block_lt_of_cell? W _ hc9)).trans hc9
      have f9' := (hb1.frozen (p := ⟨s0 + 1 + 1 + 1, 0, none⟩) (World.block_lt_of_cell? W _ hc9)).trans hf9
      have c4' := (hb1.cell (p := ⟨s0, 0, none⟩) (World.block_lt_of_cell? W _ hc4)).trans hc4
      have c11' := (hb1.cell (p := ⟨w3.heap.size, 0, none⟩) (World.block_lt_of_cell? W _ hc11)).trans hc11
      have h64b : (D.read (fst + secF rs x)).length = 64 := by
        have := hob.1
        rwa [bvL] at this
      have H1 := hide (And.intro hb1 (And.intro hov (And.intro hob h64b)))
      have HCC := hide (And.intro c4' (And.intro c11' (And.intro c9' f9')))
      clear hb1 hov hob h64b c4' c11' c9' f9' hr hlt
      dsimp only
      gi_wp2_with (gi_at_builtin; refine wpListIn_append_own _ rfl _ _ 66 rfl W0.heap.size 5 i (.int .u8 0) 1 1 Try.underlying66 hi hz0 hz1 hz2 rfl (by omega) v (64 * pre.length) (bv (D.gather fst (pre.map (secF rs)))) rfl H1.out.2.1 ⟨kb, 0, none⟩ 64 cb (bv (D.read (fst + secF rs x))) rfl ?a0 ?a1 ?a2 ?a3 ?a4 ?a5 ?_)
      case a0 => rw [bvL, H1.out.2.2.2]
      case a1 =>
        have hs := owned_src0 (l := D.read (fst + secF rs x)) (A := some ⟨kb, 0, none⟩) (cap := cb) (by rw [H1.out.2.2.2]; exact H1.out.2.2.1)
        exact hs.cells _ rfl
      case a2 => exact bv1 _
      case a3 => simp only [maxLen]; omega
      case a4 => omega
      case a5 => have := HW.out.2.1; have := H1.out.1.size; omega
      intro v' W2 ho2 hg2 _
      obtain ⟨A2, cc2, rfl⟩ := owned_slice ho2
      have hkp := own_keeps (S := fun k => k = s0 + 1 + 1 ∨ k = s0 + 1 + 1 + 1) H1.out.2.1 hg2
      have hne : ∀ k, k < W0.heap.size → v.ownBlock ≠ some k := fun k hk e => by have := (owned_ltN H1.out.2.1 e).1; omega
      have hz1 := HZ.out.1
      have hz3 := HZ.out.2.1
      have hb2 : Below w.heap.size W1 W2 := ⟨hg2.os, hg2.tape, hg2.output, hg2.size, fun k hk => hg2.block k (by have := H1.out.1.size; have := HW.out.2.2.2.1.size; omega) fun e => hne k (by have := HBW.out.size; omega) e.symm⟩
      have hsm : ∀ k, k < W0.heap.size → k < W1.heap.size → W2.heap[k]? = W1.heap[k]? := fun k hk hl => hg2.block k hl fun e => hne k hk e.symm
      have hl8 := World.block_lt_of_cell? W1 _ c8'
      have c8'' := (World.cell?_of_block (a := ⟨s0 + 1 + 1, 0, none⟩) (hsm (s0 + 1 + 1) (by omega) hl8)).trans c8'
      have f8'' := (World.frozen?_of_block (a := ⟨s0 + 1 + 1, 0, none⟩) (hsm (s0 + 1 + 1) (by omega) hl8)).trans f8'
      have H2 := hide (And.intro hkp (And.intro hb2 (And.intro hsm ho2)))
      clear hkp hne hb2 hsm ho2 hg2 c8' f8' hl8 hz1 hz3
      gi_wp2_with fail
      obtain ⟨hkp, hb2, hsm, ho2⟩ := H2.out
      have hz1 := HZ.out.1
      have hz3 := HZ.out.2.1
      have hz4 := HZ.out.2.2
      have hz5 := HBW.out.size
      have hw1s : W0.heap.size ≤ W1.heap.size := Nat.le_trans HW.out.2.1 H1.out.1.size
      refine ⟨((keepsFrom_below H1.out.1).trans (hkp.1.from _)).trans ((KeepsOthers.setCell _ _ _).from _), ((KeepsI.below H1.out.1).trans hkp.2).trans (KeepsI.setCell (.inl rfl) (by show s0 + 1 + 1 < _; omega) _ _), ⟨fun h => absurd h hdn, ?_, .slice A2 (64 * pre.length + 64) cc2, ?_, ?_, ?_⟩, ⟨?_, ?_, ?_, ?_⟩, ?_⟩
      · have := hb2.size
        simp
        omega
      · exact World.cell?_setCell_same' _ _ _ (by rw [c8'']; rfl)
      · rw [World.frozen?_setCell]
        exact f8''
      · rw [List.map_append, List.map_cons, List.map_nil, gather_one, List.length_append, List.length_singleton, show 64 * (pre.length + 1) = 64 * pre.length + 64 by omega, show bv (D.gather fst (pre.map (secF rs)) ++ D.read (fst + secF rs x)) = bv (D.gather fst (pre.map (secF rs))) ++ bv (D.read (fst + secF rs x)) by simp [bv]]
        exact owned_keepN ho2 fun k hk _ => Below.heap_setCell _ _ _ _ (fun e => by
          have h1 := (owned_ltN ho2 hk).1
          have e : k = s0 + 1 + 1 := e
          omega)
      · rw [World.cell?_setCell_other _ _ _ _ (fun e => by simp at e), World.cell?_of_block (hsm s0 (by omega) (by omega))]
        exact HCC.out.1
      · rw [World.cell?_setCell_other _ _ _ _ (fun e => by
          have e : w3.heap.size = s0 + 1 + 1 := by first | exact congrArg Addr.block e | exact (congrArg Addr.block e).symm
          omega), World.cell?_of_block (hsm w3.heap.size (by omega) (by omega))]
        exact HCC.out.2.1
      · rw [World.cell?_setCell_other _ _ _ _ (fun e => by simp at e), World.cell?_of_block (hsm (s0 + 1 + 1 + 1) (by omega) (by omega))]
        exact HCC.out.2.2.1
      · rw [World.frozen?_setCell, World.frozen?_of_block (hsm (s0 + 1 + 1 + 1) (by omega) (by omega))]
        exact HCC.out.2.2.2
      · exact ((HW.out.2.2.2.1.next H1.out.1).trans hb2).setCell (p := ⟨s0 + 1 + 1, 0, none⟩) (by show w.heap.size ≤ s0 + 1 + 1; omega) _
  case done =>
    rintro D' ys W hD rfl ⟨⟨hdp, hsz, v, hc8, hf8, ho⟩, ⟨hc4, hc11, hc9, hf9⟩, hB⟩ hK
    rw [List.length_range, secF_range rs _ (Nat.le_refl _), List.take_length] at ho
    obtain ⟨A1, cc1, rfl⟩ := owned_slice ho
    have hml : m ≤ 64 * (pos rs).length := by
      have h := HD.out.2.2.2.2.1
      rw [needP] at h
      split at h <;> omega
    have hmc : m ≤ cc1 := by
      rcases owned_form ho with ⟨e, h0, _⟩ | ⟨g, cap, cur, e, _, h2, _⟩
      · omega
      · injection e with _ _ e
        omega
    have hs1 := run_slice_to (P := Try.prog) 66 5 Try.underlying66 size5 A1 (64 * (pos rs).length) cc1 m hmc
    have HW := hide (And.intro hdp (And.intro hsz (And.intro ho (And.intro hB hml))))
    clear hdp hsz ho hB hml hmc
    go_wp2_with fail
    obtain ⟨hdp, hsz, ho, hB, hml⟩ := HW.out
    have hz1 := HZ.out.1
    have hz3 := HZ.out.2.1
    have hz4 := HZ.out.2.2
    have hz5 := HBW.out.size
    have hDW : D' < W.heap.size := (Array.getElem?_eq_some_iff.1 hK).1
    have hK5 : ((W.setCell ⟨s0 + 1 + 1, 0, none⟩ (.slice A1 m cc1)).setCell ⟨s0 + 1 + 1 + 1, 0, none⟩ (.int .i64 0)).heap[D']? = some (.deferred (some [])) := (KeepsOthers.setCell _ _ _).same D' _ ((KeepsOthers.setCell _ _ _).same D' _ hK rfl) rfl
    have hglen : (D.gather fst (pos rs)).length = 64 * (pos rs).length := by
      have h := ho.1
      rw [bvL] at h
      omega
    have hfs : (firstS l a d).toNat = fst := by rw [← HFS.out]; exact Int.toNat_natCast fst
    have hget : D.get l a d m rs = (0, (D.gather fst (pos rs)).take m) := by
      rw [Dv.get, if_pos HD.out.2.2.1, if_neg, hfs, Int.toNat_natCast]
      rintro ⟨h1, h2⟩
      have h3 := hdp h1
      have h4 := congrArg List.length h3
      rw [List.length_range] at h4
      exact h2 (List.eq_nil_of_length_eq_zero h4)
    have hA : ((W.setCell ⟨s0 + 1 + 1, 0, none⟩ (.slice A1 m cc1)).setCell ⟨s0 + 1 + 1 + 1, 0, none⟩ (.int .i64 0)).cell? ⟨s0 + 1 + 1, 0, none⟩ = some (.slice A1 m cc1) := by
      rw [World.cell?_setCell_other _ _ _ _ (fun e => by simp at e)]
      exact World.cell?_setCell_same' _ _ _ (by rw [hc8]; rfl)
    have hA2 : ((W.setCell ⟨s0 + 1 + 1, 0, none⟩ (.slice A1 m cc1)).setCell ⟨s0 + 1 + 1 + 1, 0, none⟩ (.int .i64 0)).cell? ⟨s0 + 1 + 1 + 1, 0, none⟩ = some (.int .i64 0) :=
      World.cell?_setCell_same' _ _ _ (by rw [World.cell?_setCell_other _ _ _ _ (fun e => by simp at e), hc9]; rfl)
    refine rfinD (R := GetQ (D.get l a d m rs) w) ?hg1 ?hg2 hA hA2 hK5 ?hg3
    case hg1 => rfl
    case hg2 => rfl
    rw [hget]
    have hcut : W.ownsRow W0.heap.size 5 1 (.slice A1 m cc1) m (bv ((D.gather fst (pos rs)).take m)) := by
      have e : bv ((D.gather fst (pos rs)).take m) = (bv (D.gather fst (pos rs))).take m := by simp [bv, List.map_take]
      rw [e]
      rcases owned_form ho with ⟨e, h0, h2⟩ | ⟨g, cap, cur, e, _⟩
      · injection e with e1 e2 e3
        subst e1 e3
        obtain rfl : m = 0 := by omega
        rw [List.take_zero]
        exact World.ownsRow_nil _ _ _ _
      · injection e with e1 e2 e3
        subst e1 e3
        exact own_cut ho hml
    have hlt : ((D.gather fst (pos rs)).take m).length = m := by rw [List.length_take]; omega
    refine ⟨.slice A1 m cc1, rfl, ?_, ?_⟩
    · show (_ : World).ownsRow _ _ _ _ ((D.gather fst (pos rs)).take m).length _
      rw [hlt]
      refine owned_baseN (owned_keepN hcut fun k hk _ => ?_) fun k hk => by have := (owned_ltN hcut hk).1; omega
      have h1 := (owned_ltN hcut hk).1
      have hnD : k ≠ D' := fun e => by
        rcases owned_form hcut with ⟨e2, _⟩ | ⟨g, cap, cur, e2, _, _, _, hh, _⟩
        · rw [e2] at hk
          cases hk
        · rw [e2] at hk
          have hk : some g = some k := hk
          injection hk with hk
          subst hk
          rw [e] at hh
          have hh : W.heap[D']? = _ := hh
          rw [hK] at hh
          cases hh
      exact (World.putObj_heap_other hnD).trans ((Below.heap_setCell _ _ _ _ (by show k ≠ s0 + 1 + 1 + 1; omega)).trans (Below.heap_setCell _ _ _ _ (by show k ≠ s0 + 1 + 1; omega)))
    · exact ((hB.setCell (p := ⟨s0 + 1 + 1, 0, none⟩) (by show w.heap.size ≤ s0 + 1 + 1; omega) _).setCell (p := ⟨s0 + 1 + 1 + 1, 0, none⟩) (by show w.heap.size ≤ s0 + 1 + 1 + 1; omega) _).grown (grownBy_putObj' _ D' (.deferred none)) (by have := hB.size; simp; omega) (fun k e => by cases e; omega)
  case stop =>
    rintro D' c' pre W hD ⟨k, hk, rfl⟩ ⟨⟨rfl, hdn, hc8, hc9⟩, hB⟩ hK
    refine wpIn_wide.2 ?_
    have HB := hide hB
    clear hB
    go_wp2_with fail
    have hz5 := HBW.out.size
    have hget : D.get l a d m rs = (10, []) := by
      rw [Dv.get, if_pos HD.out.2.2.1, if_pos]
      refine ⟨hdn, fun h => ?_⟩
      rw [h] at hk
      simp at hk
    refine rfinD (R := GetQ (D.get l a d m rs) w) ?hg4 ?hg5 hc8 hc9 hK ?hg6
    case hg4 => rfl
    case hg5 => rfl
    rw [hget]
    exact ⟨.slice none 0 0, rfl, World.ownsRow_nil _ _ _ _, HB.out.grown (grownBy_putObj' _ D' (.deferred none)) HB.out.size (fun k e => by cases e; omega)⟩
theorem bread_any {D : Dv} {F : Nat → Prop} {q : Nat} (l a d n : Int) (h64 : rightP l a d → d ≤ 64) (hn : -9223372036854775808 ≤ n ∧ n ≤ 9223372036854775807) (Ar : Option Addr) (cr : Nat) (rs : List Run) (hlen : rs.length ≤ 1000000) (w : World)
    (hd : DevAt w F q D) (hpe : D.pend.length ≤ 90000) (hrs : RunsM w w.heap.size (.slice Ar rs.length cr) rs) :
    Calls Try.prog 39 #[.pointer (some ⟨q, 0, none⟩), .agg #[.int .i64 l, .int .i64 a, .int .i64 d], .int .i64 n, .slice Ar rs.length cr] w (GetQ (D.get l a d n rs) w) := by
  by_cases hE : suitsE D.kept.length l a d n rs = 0
  · have hap : apartP l a d rs := by
      by_cases h : apartP l a d rs
      · exact h
      · rw [suitsE, if_neg (fun h2 => h h2.1)] at hE
        cases hE
    exact bread_in l a d n (h64 hap.1) hn Ar cr rs hlen w hd hpe hrs hE
  · have hE2 : suitsE D.kept.length l a d n rs = 2 := by
      rw [suitsE] at hE ⊢
      split at hE
      · exact absurd rfl hE
      · rename_i h
        rw [if_neg h]
    rw [Dv.get, if_neg hE, hE2]
    obtain ⟨w1, hw1⟩ : ∃ w1, w1 = (((w.alloc (.cells #[.pointer (some ⟨q, 0, none⟩)] 69)).alloc (.cells #[.int .i64 l, .int .i64 a, .int .i64 d] 64)).alloc (.cells #[.slice none 0 0] 66)).alloc (.cells #[.int .i64 0] 34) := ⟨_, rfl⟩
    have b6 : Blk w1 (w.heap.size + 1 + 1) 66 #[.slice none 0 0] := by
      rw [hw1]
      have := (Blk.new ((w.alloc (.cells #[.pointer (some ⟨q, 0, none⟩)] 69)).alloc (.cells #[.int .i64 l, .int .i64 a, .int .i64 d] 64)) 66 #[.slice none 0 0]).alloc (.cells #[.int .i64 0] 34)
      rwa [size_alloc, size_alloc] at this
    have b8 : Blk w1 (w.heap.size + 1 + 1 + 1) 34 #[.int .i64 0] := by
      rw [hw1]
      have := Blk.new (((w.alloc (.cells #[.pointer (some ⟨q, 0, none⟩)] 69)).alloc (.cells #[.int .i64 l, .int .i64 a, .int .i64 d] 64)).alloc (.cells #[.slice none 0 0] 66)) 34 #[.int .i64 0]
      rwa [size_alloc, size_alloc, size_alloc] at this
    have hb1 : Below w.heap.size w w1 := by rw [hw1]; exact ((((Below.refl _ w).alloc (Nat.le_refl _) _).al _).al _).al _
    have HD := hide (And.intro hd hrs)
    have H1 := hide (And.intro b6 (And.intro b8 hb1))
    clear hd hrs hE b6 b8 hb1
    go_enter Try.func39, Try.ntmps39
    go_wp2_with fail
    rw [← hw1]
    have HW1 := hide hw1
    clear hw1
    refine (suits_any l a d h64 n hn _ rs hlen w1 (HD.out.2.below H1.out.2.2) (HD.out.1.keep fun k hk _ => H1.out.2.2.block k hk)).mono ?_
    rintro e w2 ⟨rfl, hb2⟩
    rw [hE2]
    have h6 := H1.out.1.below hb2 H1.out.1.lt
    have h8 := H1.out.2.1.below hb2 H1.out.2.1.lt
    have c6 := h6.cell 0
    have f6 := h6.frozen 0
    have c8 := h8.cell 0
    have f8 := h8.frozen 0
    have hlt6 := h6.lt
    have hlt8 := h8.lt
    have H2 := hide (H1.out.2.2.next hb2)
    clear hb2 H1 HW1 h6 h8
    dsimp only
    go_wp2_with fail
    have hA : ((w2.setCell ⟨w.heap.size + 1 + 1, 0, none⟩ (.slice none 0 0)).setCell ⟨w.heap.size + 1 + 1 + 1, 0, none⟩ (.int .i64 2)).cell? ⟨w.heap.size + 1 + 1, 0, none⟩ = some (.slice none 0 0) := by
      rw [World.cell?_setCell_other _ _ _ _ (fun e => by simp at e)]
      exact World.cell?_setCell_same' _ _ _ (by rw [c6]; rfl)
    have hA2 : ((w2.setCell ⟨w.heap.size + 1 + 1, 0, none⟩ (.slice none 0 0)).setCell ⟨w.heap.size + 1 + 1 + 1, 0, none⟩ (.int .i64 2)).cell? ⟨w.heap.size + 1 + 1 + 1, 0, none⟩ = some (.int .i64 2) :=
      World.cell?_setCell_same' _ _ _ (by rw [World.cell?_setCell_other _ _ _ _ (fun e => by simp at e), c8]; rfl)
    refine bodyPost_ret (v := .tuple #[.slice none 0 0, .int .i64 2]) (by simp [results, Try.f39, go_sem, hA, hA2]) rfl ⟨.slice none 0 0, rfl, World.ownsRow_nil _ _ _ _, ?_⟩
    exact (H2.out.setCell (p := ⟨w.heap.size + 1 + 1, 0, none⟩) (by show w.heap.size ≤ w.heap.size + 1 + 1; omega) _).setCell (p := ⟨w.heap.size + 1 + 1 + 1, 0, none⟩) (by show w.heap.size ≤ w.heap.size + 1 + 1 + 1; omega) _
end Go.Proofs.Ytfppddnfdinipaa
end
section
namespace Go.Proofs.Ytfppddnfdinipaa
open Go Go.RowKit
set_option maxRecDepth 100000
theorem suits_no (l a d n : Int) (v : Value) (w : World) : Calls Try.prog 64 #[.pointer none, .agg #[.int .i64 l, .int .i64 a, .int .i64 d], .int .i64 n, v] w fun e w' => e = .returned (.int .i64 1) ∧ Below w.heap.size w w' := by
  have hfs := field_stat 0 0 0 false
  have hb0 := (Below.refl _ w).alloc (Nat.le_refl _) (.cells #[.int .i64 l, .int .i64 a, .int .i64 d] 64)
  have HB := hide hb0
  clear hb0
  go_enter Try.func64, Try.ntmps64
  go_wp2_with fail
  refine (stat_no none _ (.inl rfl)).mono ?_
  rintro e w1 ⟨rfl, hb1⟩
  have H1 := hide (HB.out.next hb1)
  clear hb1
  dsimp only
  go_wp2_with fail
  go_ret
  exact ⟨rfl, H1.out⟩
theorem bwrite_no (l a d : Int) (w : World) : Calls Try.prog 35 #[.pointer none, .agg #[.int .i64 l, .int .i64 a, .int .i64 d], .slice none 0 0, .slice none 0 0] w fun e w' => e = .returned (.int .i64 1) ∧ Below w.heap.size w w' := by
  obtain ⟨w1, hw1⟩ : ∃ w1, w1 = (((w.alloc (.cells #[.pointer none] 69)).alloc (.cells #[.int .i64 l, .int .i64 a, .int .i64 d] 64)).alloc (.cells #[.slice none 0 0] 66)).alloc (.cells #[.int .i64 0] 34) := ⟨_, rfl⟩
  have b8 : Blk w1 (w.heap.size + 1 + 1 + 1) 34 #[.int .i64 0] := by
    rw [hw1]
    have := Blk.new (((w.alloc (.cells #[.pointer none] 69)).alloc (.cells #[.int .i64 l, .int .i64 a, .int .i64 d] 64)).alloc (.cells #[.slice none 0 0] 66)) 34 #[.int .i64 0]
    rwa [size_alloc, size_alloc, size_alloc] at this
  have hb1 : Below w.heap.size w w1 := by rw [hw1]; exact ((((Below.refl _ w).alloc (Nat.le_refl _) _).al _).al _).al _
  have H1 := hide (And.intro b8 hb1)
  clear b8 hb1
  go_enter Try.func35, Try.ntmps35
  go_wp2_with fail
  rw [← hw1]
  have HW1 := hide hw1
  clear hw1
  refine (suits_no l a d 0 (.slice none 0 0) w1).mono ?_
  rintro e w2 ⟨rfl, hb2⟩
  have h8 := H1.out.1.below hb2 H1.out.1.lt
  have c8 := h8.cell 0
  have f8 := h8.frozen 0
  have hlt8 := h8.lt
  have H2 := hide (And.intro h8 (H1.out.2.next hb2))
  clear hb2 H1 HW1 h8
  dsimp only
  go_wp2_with fail
  have hc := World.cell?_setCell_same' w2 ⟨w.heap.size + 1 + 1 + 1, 0, none⟩ (.int .i64 1) (by rw [c8]; rfl)
  refine bodyPost_ret (v := .int .i64 1) (by simp [results, Try.f35, go_sem, hc]) rfl ⟨rfl, ?_⟩
  have hB := H2.out.2.setCell (p := ⟨w.heap.size + 1 + 1 + 1, 0, none⟩) (by show w.heap.size ≤ w.heap.size + 1 + 1 + 1; omega) (.int .i64 1)
  exact hB
theorem bread_no (l a d : Int) (w : World) : Calls Try.prog 39 #[.pointer none, .agg #[.int .i64 l, .int .i64 a, .int .i64 d], .int .i64 0, .slice none 0 0] w fun e w' => e = .returned (.tuple #[.slice none 0 0, .int .i64 1]) ∧ Below w.heap.size w w' := by
  obtain ⟨w1, hw1⟩ : ∃ w1, w1 = (((w.alloc (.cells #[.pointer none] 69)).alloc (.cells #[.int .i64 l, .int .i64 a, .int .i64 d] 64)).alloc (.cells #[.slice none 0 0] 66)).alloc (.cells #[.int .i64 0] 34) := ⟨_, rfl⟩
  have b6 : Blk w1 (w.heap.size + 1 + 1) 66 #[.slice none 0 0] := by
    rw [hw1]
    have := (Blk.new ((w.alloc (.cells #[.pointer none] 69)).alloc (.cells #[.int .i64 l, .int .i64 a, .int .i64 d] 64)) 66 #[.slice none 0 0]).alloc (.cells #[.int .i64 0] 34)
    rwa [size_alloc, size_alloc] at this
  have b8 : Blk w1 (w.heap.size + 1 + 1 + 1) 34 #[.int .i64 0] := by
    rw [hw1]
    have := Blk.new (((w.alloc (.cells #[.pointer none] 69)).alloc (.cells #[.int .i64 l, .int .i64 a, .int .i64 d] 64)).alloc (.cells #[.slice none 0 0] 66)) 34 #[.int .i64 0]
    rwa [size_alloc, size_alloc, size_alloc] at this
  have hb1 : Below w.heap.size w w1 := by rw [hw1]; exact ((((Below.refl _ w).alloc (Nat.le_refl _) _).al _).al _).al _
  have H1 := hide (And.intro b6 (And.intro b8 hb1))
  clear b6 b8 hb1
  go_enter Try.func39, Try.ntmps39
  go_wp2_with fail
  rw [← hw1]
  have HW1 := hide hw1
  clear hw1
  refine (suits_no l a d 0 (.slice none 0 0) w1).mono ?_
  rintro e w2 ⟨rfl, hb2⟩
  have h6 := H1.out.1.below hb2 H1.out.1.lt
  have h8 := H1.out.2.1.below hb2 H1.out.2.1.lt
  have c6 := h6.cell 0
  have f6 := h6.frozen 0
  have c8 := h8.cell 0
  have f8 := h8.frozen 0
  have hlt6 := h6.lt
  have hlt8 := h8.lt
  have H2 := hide (H1.out.2.2.next hb2)
  clear hb2 H1 HW1 h6 h8
  dsimp only
  go_wp2_with fail
  have hA : ((w2.setCell ⟨w.heap.size + 1 + 1, 0, none⟩ (.slice none 0 0)).setCell ⟨w.heap.size + 1 + 1 + 1, 0, none⟩ (.int .i64 1)).cell? ⟨w.heap.size + 1 + 1, 0, none⟩ = some (.slice none 0 0) := by
    rw [World.cell?_setCell_other _ _ _ _ (fun e => by simp at e)]
    exact World.cell?_setCell_same' _ _ _ (by rw [c6]; rfl)
  have hA2 : ((w2.setCell ⟨w.heap.size + 1 + 1, 0, none⟩ (.slice none 0 0)).setCell ⟨w.heap.size + 1 + 1 + 1, 0, none⟩ (.int .i64 1)).cell? ⟨w.heap.size + 1 + 1 + 1, 0, none⟩ = some (.int .i64 1) :=
    World.cell?_setCell_same' _ _ _ (by rw [World.cell?_setCell_other _ _ _ _ (fun e => by simp at e), c8]; rfl)
  refine bodyPost_ret (v := .tuple #[.slice none 0 0, .int .i64 1]) (by simp [results, Try.f39, go_sem, hA, hA2]) rfl ⟨rfl, ?_⟩
  exact (H2.out.setCell (p := ⟨w.heap.size + 1 + 1, 0, none⟩) (by show w.heap.size ≤ w.heap.size + 1 + 1; omega) _).setCell (p := ⟨w.heap.size + 1 + 1 + 1, 0, none⟩) (by show w.heap.size ≤ w.heap.size + 1 + 1 + 1; omega) _
end Go.Proofs.Ytfppddnfdinipaa
end
section
namespace Go.Proofs.Ytfppddnfdinipaa
open Go Go.RowKit
set_option maxRecDepth 100000
theorem rneed_any (n : Int) (hn : -9223372036854775808 ≤ n ∧ n ≤ 9223372036854775807) (w : World) : Calls Try.prog 42 #[.int .i64 n] w fun e w' => e = .returned (.int .i64 (needP n)) ∧ w' = w := by
  by_cases h : n ≤ 0
  · rw [needP, if_pos h]
    have h1 : n < 1 := by omega
    go_enter Try.func42, Try.ntmps42
    go_wp2
    go_ret
    exact ⟨rfl, rfl⟩
  · rw [needP, if_neg h]
    have h1 : ¬ n < 1 := by omega
    have q1 : 0 ≤ (n - 1) / 64 := by omega
    have q2 : (n - 1) / 64 < 9223372036854775807 := by omega
    have q3 : Int.tdiv (n - 1) 64 = (n - 1) / 64 := Int.tdiv_eq_ediv_of_nonneg (by omega)
    go_enter Try.func42, Try.ntmps42
    go_wp2
    go_ret
    exact ⟨rfl, rfl⟩
theorem rokr_any (d : Int) (r : Run) (hd : 0 ≤ d ∧ d ≤ 100000) (hr : r64 r) (w : World) : Calls Try.prog 164 #[.int .i64 d, .agg #[.int .i64 r.1, .int .i64 r.2]] w fun e w' => e = .returned (.bool (decide (okRun d r))) ∧ w' = w.alloc (.cells #[.int .i64 r.1, .int .i64 r.2] 88) := by
  obtain ⟨d1, d2⟩ := hd
  obtain ⟨⟨r1, r2⟩, r3, r4⟩ := hr
  by_cases q1 : 0 ≤ r.1
  · by_cases q2 : r.1 < d
    · by_cases q3 : 1 ≤ r.2
      · by_cases q4 : r.2 ≤ d - r.1
        · have h := decide_eq_true (show okRun d r from ⟨q1, q2, q3, q4⟩)
          go_enter Try.func164, Try.ntmps164
          go_wp2
          go_ret
          first | exact ⟨rfl, rfl⟩ | (rw [h]; exact ⟨rfl, rfl⟩)
        · have h := decide_eq_false (show ¬ okRun d r from fun h => q4 h.2.2.2)
          go_enter Try.func164, Try.ntmps164
          go_wp2
          go_ret
          first | exact ⟨rfl, rfl⟩ | (rw [h]; exact ⟨rfl, rfl⟩)
      · have h := decide_eq_false (show ¬ okRun d r from fun h => q3 h.2.2.1)
        go_enter Try.func164, Try.ntmps164
        go_wp2
        go_ret
        first | exact ⟨rfl, rfl⟩ | (rw [h]; exact ⟨rfl, rfl⟩)
    · have h := decide_eq_false (show ¬ okRun d r from fun h => q2 h.2.1)
      go_enter Try.func164, Try.ntmps164
      go_wp2
      go_ret
      first | exact ⟨rfl, rfl⟩ | (rw [h]; exact ⟨rfl, rfl⟩)
  · have h := decide_eq_false (show ¬ okRun d r from fun h => q1 h.1)
    go_enter Try.func164, Try.ntmps164
    go_wp2
    go_ret
    first | exact ⟨rfl, rfl⟩ | (rw [h]; exact ⟨rfl, rfl⟩)
/-- which of d sectors are marked -/
def marksC (d : Nat) (l : List Nat) : List Value := (List.range d).map fun x => .bool (l.contains x)
theorem marksC_len (d : Nat) (l : List Nat) : (marksC d l).length = d := by simp [marksC]
theorem marksC_nil (d : Nat) : marksC d [] = List.replicate d (.bool false) := by
  unfold marksC
  apply List.ext_getElem
  · simp
  · intro i h1 h2
    simp
theorem marksC_at {d x : Nat} (l : List Nat) (h : x < d) : (marksC d l)[x]? = some (.bool (l.contains x)) := by
  simp [marksC, h]
theorem marksC_set {d p : Nat} (l : List Nat) (h : p < d) : (marksC d l).take p ++ ([.bool true] ++ (marksC d l).drop (p + 1)) = marksC d (l ++ [p]) := by
  apply List.ext_getElem?
  intro i
  rcases Nat.lt_or_ge i d with hi | hi
  · rw [marksC_at _ hi]
    have h3 : (List.take p (marksC d l)).length = p := by rw [List.length_take, marksC_len]; omega
    rcases Nat.lt_trichotomy i p with h2 | h2 | h2
    · rw [List.getElem?_append_left (by omega), List.getElem?_take_of_lt h2, marksC_at _ hi]
      congr 2
      rw [Bool.eq_iff_iff, List.contains_iff_mem, List.contains_iff_mem, List.mem_append]
      constructor
      · exact .inl
      · rintro (h | h)
        · exact h
        · have := List.mem_singleton.1 h
          omega
    · subst h2
      rw [List.getElem?_append_right (by omega), h3, Nat.sub_self]
      simp
    · rw [List.getElem?_append_right (by omega), h3, List.getElem?_append_right (by simp; omega), List.getElem?_drop, show p + 1 + (i - p - [Value.bool true].length) = i by simp; omega, marksC_at _ hi]
      congr 2
      rw [Bool.eq_iff_iff, List.contains_iff_mem, List.contains_iff_mem, List.mem_append]
      constructor
      · exact .inl
      · rintro (h | h)
        · exact h
        · have := List.mem_singleton.1 h
          omega
  · rw [List.getElem?_eq_none (by rw [List.length_append, List.length_append, List.length_take, List.length_drop, marksC_len]; simp; omega), List.getElem?_eq_none (by rw [marksC_len]; omega)]
end Go.Proofs.Ytfppddnfdinipaa
end
section
namespace Go.Proofs.Ytfppddnfdinipaa
open Go Go.RowKit
set_option maxRecDepth 100000
theorem info_bool : (Try.prog.info? 4).map (fun i => (i.zero, i.size, i.bytes)) = some (some (.bool false), 1, 1) := by kernel_rfl
theorem made_marks (n : Nat) : (madeCells #[.bool false] n).toList = marksC n [] := by
  rw [marksC_nil]
  apply List.ext_getElem?
  intro j
  by_cases hj : j < n
  · simp [madeCells, hj, Nat.mod_one]
  · simp [madeCells, hj]
theorem exec_index_off {P : Program} {ρ : Operand → Value} {o : Oper} (ty e : TypeId) (x i : Operand) (ho : o.op = .indexAddr ty x i) (b off n cap : Nat) (k : Int) (kk : IntKind) (hx : ρ x = .slice (some ⟨b, off, none⟩) n cap) (hi : ρ i = .int kk k) (hk : 0 ≤ k ∧ k < (n : Int)) (s : Nat) (hu : P.underlying ty = some (.slice e)) (hs : (P.info? e).map (·.size) = some s) (w : World) :
    (execOp ρ o).run P w = .ok (.value (.pointer (some ⟨b, off + k.toNat * s, none⟩))) w := by
  have e2 : P.elem ty = e := by simp [Program.elem, hu]
  unfold execOp
  simp only [ho, hx, hi, Sem.run_bind, Sem.run_pure, run_indexAt_slice w ty _ _ _ kk k (by rw [e2]; exact hu), e2, if_pos hk]
  cases hq : P.info? e with
  | none => simp [hq] at hs
  | some i =>
    have h1 : i.size = s := by simpa [hq] using hs
    have e0 : (⟨b, off, none⟩ : Addr).add (k.toNat * s) = ⟨b, off + k.toNat * s, none⟩ := by rw [Addr.add_mid]
    simp [sizeOf, typeInfo, hq, h1, e0]
theorem sz_run : (Try.prog.info? 88).map (·.size) = some 2 := by kernel_rfl
/-- what marks is in its loops: the first q sectors are marked -/
structure MarkAt (w0 w : World) (h : Nat) (l a : Int) (D : Nat) (rs : List Run) (q : Nat) : Prop where
  own : w.ownsRow w0.heap.size 4 1 (.slice (some ⟨h, 0, none⟩) D D) D (marksC D ((pos rs).take q))
  nodup : ((pos rs).take q).Nodup
  shape : Blk w w0.heap.size 64 #[.int .i64 l, .int .i64 a, .int .i64 (D : Int)]
  below : Below w0.heap.size w0 w
  lt : w0.heap.size < h
theorem MarkAt.grow {w0 w w' : World} {h : Nat} {l a : Int} {D : Nat} {rs : List Run} {q : Nat} (m : MarkAt w0 w h l a D rs q) (hb : Below w.heap.size w w') : MarkAt w0 w' h l a D rs q :=
  ⟨owned_keepN m.own fun k _ hl => hb.block k hl, m.nodup, m.shape.below hb m.shape.lt, m.below.next hb, m.lt⟩
set_option maxHeartbeats 2000000 in
theorem marks_any (l a d : Int) (v : Value) (rs : List Run) (hlen : rs.length ≤ 1000000) (w : World) (hrs : RunsM w w.heap.size v rs) :
    Calls Try.prog 130 #[.agg #[.int .i64 l, .int .i64 a, .int .i64 d], v] w fun e w' => Below w.heap.size w w' ∧
      ((apartP l a d rs ∧ ∃ h, e = .returned (.tuple #[.slice (some ⟨h, 0, none⟩) d.toNat d.toNat, .bool true]) ∧ w'.ownsRow w.heap.size 4 1 (.slice (some ⟨h, 0, none⟩) d.toNat d.toNat) d.toNat (marksC d.toNat (pos rs))) ∨ (¬ apartP l a d rs ∧ e = .returned (.tuple #[.slice none 0 0, .bool false]))) := by
  obtain ⟨A, cp, rfl, hcp, hnil, hrow, hr64⟩ := hrs
  have HROW := hide (And.intro hrow hr64)
  clear hrow hr64 hnil hcp
  by_cases hR : rightP l a d
  · obtain ⟨D, rfl⟩ : ∃ D : Nat, d = (D : Int) := ⟨d.toNat, by have := hR.2.2.1.1; omega⟩
    rw [Int.toNat_natCast]
    have hr := decide_eq_true hR
    have hD := hR.2.2.1
    unfold inW at hD
    by_cases hl : (D : Int) < (rs.length : Int)
    · have hno : ¬ apartP l a D rs := fun h => by
        have h1 := pos_len_le rs (fun r hr => (h.2.1 r hr).2.2.1)
        have h2 := apart_count h
        rw [Int.toNat_natCast] at h2
        omega
      go_enter Try.func130, Try.ntmps130
      go_wp2_with fail
      refine (rright_any l a D _).mono ?_
      rintro e w1 ⟨rfl, rfl⟩
      rw [hr]
      dsimp only
      go_wp2_with fail
      refine bodyPost_ret (v := .tuple #[.slice none 0 0, .bool false]) (by simp [results, Try.f130, go_sem]) rfl ⟨?_, .inr ⟨hno, rfl⟩⟩
      exact ((Below.refl _ w).alloc (Nat.le_refl _) _).al _
    · have HR := hide hR
      clear hR
      obtain ⟨i, hi, hz0, hz1, hz2⟩ := info_parts info_bool
      go_enter Try.func130, Try.ntmps130
      go_wp2_with (at_make; refine wpList_make_full _ rfl _ _ 220 rfl w.heap.size 4 i (.bool false) 1 Try.underlying220 hi hz0 hz1 _ _ _ _ D rfl rfl ?e0 ?e1 ?e2 ?e3 ?e4 ?_)
      refine (rright_any l a D _).mono ?_
      rintro e w1 ⟨rfl, hw1⟩
      rw [hr]
      dsimp only
      have hs1 : Blk w1 w.heap.size 64 #[.int .i64 l, .int .i64 a, .int .i64 (D : Int)] := by rw [hw1]; exact (Blk.new w _ _).alloc _
      have hb1 : Below w.heap.size w w1 := by rw [hw1]; exact ((Below.refl _ w).alloc (Nat.le_refl _) _).al _
      have hz : w1.heap.size = w.heap.size + 1 + 1 := by rw [hw1]; simp
      have c2 := hs1.cell 2
      have hlt1 := hs1.lt
      have H1 := hide (And.intro hs1 (And.intro hb1 hz))
      clear hw1 hs1 hb1 hz
      go_wp2_with (at_make; refine wpList_make_full _ rfl _ _ 220 rfl w.heap.size 4 i (.bool false) 1 Try.underlying220 hi hz0 hz1 _ _ _ _ D rfl rfl ?e0 ?e1 ?e2 ?e3 ?e4 ?_)
      case e0 => rfl
      case e1 => rfl
      case e2 => rw [hz2]; omega
      case e3 => simp only [maxLen]; omega
      case e4 => omega
      intro w2 own2 gr2
      have hM : MarkAt w w2 w1.heap.size l a D rs 0 := by
        have hb2 : Below w1.heap.size w1 w2 := (Below.refl _ _).grown gr2 (Nat.le_refl _) (by intro k hk; cases hk)
        refine ⟨?_, by simp, H1.out.1.below hb2 H1.out.1.lt, H1.out.2.1.next hb2, by have := H1.out.2.2; omega⟩
        rw [List.take_zero, ← made_marks]
        exact own2
      generalize w1.heap.size = h at hM ⊢
      have HM := hide hM
      clear hM own2 gr2 H1 c2 hlt1 hi hz0 hz1 hz2
      go_wp2_with fail
      go_loopw [7] (fun v wr => ∃ k : Nat, k ≤ rs.length ∧ v = .int .i64 (k : Int) ∧ (∀ j r, j < k → rs[j]? = some r → okRun D r) ∧ MarkAt w wr h l a D rs (pos (rs.take k)).length) (fun v _ => rs.length - (intOf v).toNat)
      case atStart => exact ⟨0, by omega, rfl, (fun j r h => by omega), HM.out⟩
      case round =>
        obtain ⟨k, hk, rfl, hok, hm⟩ := hrel
        have c2 := hm.shape.cell 2
        have hltS := hm.shape.lt
        have HK := hide (And.intro hok hm)
        by_cases hk2 : k < rs.length
        · obtain ⟨r, hrk⟩ : ∃ r, rs[k]? = some r := ⟨_, List.getElem?_eq_getElem hk2⟩
          obtain ⟨bb, off, hA, hbn, hcs⟩ := HROW.out.1 (by omega)
          subst hA
          have hr64 := HROW.out.2 r (List.mem_of_getElem? hrk)
          have HCS : Hid (∀ W, Below w.heap.size w W → W.cell? ⟨bb, off + k * 2, none⟩ = some (.int .i64 r.1) ∧ W.cell? ⟨bb, off + k * 2 + 1, none⟩ = some (.int .i64 r.2)) := hide fun W hW =>
            ⟨(hW.cell (p := ⟨bb, off + k * 2, none⟩) hbn).trans (hcs k r hrk).1, (hW.cell (p := ⟨bb, off + k * 2 + 1, none⟩) hbn).trans (hcs k r hrk).2⟩
          have HRK := hide hrk
          have n1 : (k : Int) < (rs.length : Int) := by omega
          have n2 : (0 : Int) ≤ (k : Int) := by omega
          clear hok hm hrk hcs
          go_wp2_with fail
          refine wp_made 7 [] (by kernel_rfl) (by kernel_rfl) (by intro p hp; cases hp) List.nodup_nil (by intro t ht; cases ht) ?_
          simp only [List.take_succ_cons, List.take_zero, List.drop_succ_cons, List.drop_zero]
          refine made_val (.pointer (some ⟨w.heap.size, 2, none⟩)) (by kernel_rfl) (by kernel_rfl) (by kernel_rfl) (fun _ _ => by kernel_rfl) ?_
          simp only [Act.put, List.setIfInBounds_toArray, List.set_cons_zero, List.set_cons_succ]
          refine made_val (.int .i64 (D : Int)) (by kernel_rfl) (by kernel_rfl) (by kernel_rfl) (fun W hW => exec_load_cell (o := ⟨some 29, _, _, _, _, _⟩) 3 (.tmp 28) rfl ⟨w.heap.size, 2, none⟩ rfl _ _ W Try.underlying3 rfl (((HK.out.2.grow hW).shape).cell 2)) ?_
          simp only [Act.put, List.setIfInBounds_toArray, List.set_cons_zero, List.set_cons_succ]
          refine made_val (.slice (some ⟨bb, off, none⟩) rs.length cp) (by kernel_rfl) (by kernel_rfl) (by kernel_rfl) (fun _ _ => by kernel_rfl) ?_
          simp only [Act.put, List.setIfInBounds_toArray, List.set_cons_zero, List.set_cons_succ]
          refine made_val (.int .i64 (k : Int)) (by kernel_rfl) (by kernel_rfl) (by kernel_rfl) (fun _ _ => by kernel_rfl) ?_
          simp only [Act.put, List.setIfInBounds_toArray, List.set_cons_zero, List.set_cons_succ]
          refine made_val (.pointer (some ⟨bb, off + (k : Int).toNat * 2, none⟩)) (by kernel_rfl) (by kernel_rfl) (by kernel_rfl) (fun W _ => exec_index_off (o := ⟨some 32, _, _, _, _, _⟩) 73 88 (.tmp 30) (.tmp 31) rfl bb off rs.length cp (k : Int) .i64 rfl rfl ⟨n2, n1⟩ 2 Try.underlying73 sz_run W) ?_
          simp only [Act.put, List.setIfInBounds_toArray, List.set_cons_zero, List.set_cons_succ]
          rw [show (k : Int).toNat = k from Int.toNat_natCast k]
          refine made_val (.agg #[.int .i64 r.1, .int .i64 r.2]) (by kernel_rfl) (by kernel_rfl) (by kernel_rfl) (fun W hW => exec_load_mid (o := ⟨some 33, _, _, _, _, _⟩) 88 (.tmp 32) rfl bb (off + k * 2) rfl [.int .i64 r.1, .int .i64 r.2] _ W ?hrg Try.underlying88 rfl sz_run) ?_
          case hrg =>
            have h := HCS.out W (HK.out.2.grow hW).below
            intro j u hu
            match j, hu with
            | 0, hu => injection hu with hu; subst hu; exact h.1
            | 1, hu => injection hu with hu; subst hu; exact h.2
          simp only [Act.put, List.setIfInBounds_toArray, List.set_cons_zero, List.set_cons_succ]
          refine made_call (.bool (decide (okRun D r))) 164 #[.int .i64 (D : Int), .agg #[.int .i64 r.1, .int .i64 r.2]] (by kernel_rfl) (by kernel_rfl) (by kernel_rfl) (fun W => by kernel_rfl) (fun W _ => (rokr_any D r ⟨by omega, by omega⟩ hr64 W).mono fun e w' ⟨h1, h2⟩ => ⟨h1, by rw [h2]; exact (Below.refl _ _).alloc (Nat.le_refl _) _⟩) ?_
          simp only [Act.put, List.setIfInBounds_toArray, List.set_cons_zero, List.set_cons_succ]
          show ∀ w', _ → _
          intro w4 hb4
          simp only [ended]
          have H4 := hide (HK.out.2.grow hb4)
          clear hb4
          by_cases hokr : okRun D r
          · rw [decide_eq_true hokr]
            obtain ⟨r1, r2, r3, r4⟩ := hokr
            obtain ⟨⟨R1, hR1⟩, R2, hR2⟩ : (∃ R1 : Nat, r.1 = (R1 : Int)) ∧ ∃ R2 : Nat, r.2 = (R2 : Int) := ⟨⟨r.1.toNat, by omega⟩, r.2.toNat, by omega⟩
            go_wp2_with fail
            obtain ⟨q, hq⟩ : ∃ q, q = (pos (rs.take k)).length := ⟨_, rfl⟩
            have h4 := H4.out
            rw [← hq] at h4
            have hpt := pos_take rs k r HRK.out
            rw [← hq, hR2, Int.toNat_natCast] at hpt
            have HQ := hide (And.intro hpt (And.intro h4 (And.intro hR1 hR2)))
            have HOK := hide (And.intro r1 (And.intro r2 (And.intro r3 r4)))
            have m1 : R1 + R2 ≤ D := by omega
            have HEQ := hide hq
            clear hq h4 hpt H4 r1 r2 r3 r4 hR1 hR2
            go_loopw [8] (fun v w5 => ∃ j : Nat, j ≤ R2 ∧ v = .int .i64 (j : Int) ∧ MarkAt w w5 h l a D rs (q + j)) (fun v _ => R2 - (intOf v).toNat)
            case atStart => exact ⟨0, by omega, rfl, HQ.out.2.1⟩
            case round =>
              obtain ⟨j, hj, rfl, hm⟩ := hrel
              have hc := HCS.out _ hm.below
              rw [HQ.out.2.2.1, HQ.out.2.2.2] at hc
              obtain ⟨e1, e2⟩ := hc
              have HM := hide hm
              clear hm
              by_cases hj2 : j < R2
              · have n3 : (j : Int) < (R2 : Int) := by omega
                have n4 : (0 : Int) ≤ (R1 : Int) + (j : Int) := by omega
                have n5 : (R1 : Int) + (j : Int) < (D : Int) := by omega
                have n6 : (D : Int) ≤ 8192 := hD.2
                have hqj : (pos rs)[q + j]? = some (R1 + j) := by
                  have := pos_at rs k r j HRK.out (by rw [HQ.out.2.2.2]; exact hj2)
                  rwa [← HEQ.out, HQ.out.2.2.1, Int.toNat_natCast] at this
                have htk : (pos rs).take (q + j + 1) = (pos rs).take (q + j) ++ [R1 + j] := by
                  rw [List.take_add_one, hqj]
                  rfl
                have hmc := marksC_at ((pos rs).take (q + j)) (show R1 + j < D by omega)
                have hcell : wr.cell? ⟨h, R1 + j, none⟩ = some (.bool (((pos rs).take (q + j)).contains (R1 + j))) := by
                  have := own_range HM.out.own (R1 + j) 1 [.bool (((pos rs).take (q + j)).contains (R1 + j))] (by
                    obtain ⟨hi, he⟩ := List.getElem?_eq_some_iff.1 hmc
                    rw [List.drop_eq_getElem_cons hi, he]
                    rfl)
                  exact this 0 _ rfl
                have hfz := (own_there HM.out.own (R1 + j) 1 (by omega) 0 (by omega)).2
                rw [Nat.add_zero] at hfz
                cases hcon : ((pos rs).take (q + j)).contains (R1 + j) with
                | true =>
                  rw [hcon] at hcell
                  go_wp2_with fail
                  refine bodyPost_ret (v := .tuple #[.slice none 0 0, .bool false]) (by simp [results, Try.f130, go_sem]) rfl ⟨HM.out.below, .inr ⟨fun h => ?_, rfl⟩⟩
                  have hn := List.Pairwise.sublist (List.take_sublist (q + j + 1) _) h.2.2
                  rw [htk] at hn
                  exact (List.nodup_append.1 hn).2.2 _ (List.contains_iff_mem.1 hcon) _ (by simp) rfl
                | false =>
                  rw [hcon] at hcell
                  go_wp2_with fail
                  refine ⟨⟨j + 1, by omega, by go_num, ?_⟩, by simp [intOf]; omega⟩
                  have hm := HM.out
                  have hlt := hm.lt
                  rw [← Nat.add_assoc]
                  refine ⟨?_, ?_, hm.shape.far (by show w.heap.size ≠ h; omega) _, hm.below.setCell (by show w.heap.size ≤ h; omega) _, hlt⟩
                  · rw [htk, ← marksC_set _ (show R1 + j < D by omega)]
                    exact own_setCells hm.own (R1 + j) [.bool true] (by simp; omega)
                  · rw [htk, List.nodup_append]
                    refine ⟨hm.nodup, by simp, fun x hx y hy e => ?_⟩
                    subst e
                    have hy := List.mem_singleton.1 hy
                    subst hy
                    rw [List.contains_iff_mem.2 hx] at hcon
                    cases hcon
              · have n3 : ¬ (j : Int) < (R2 : Int) := by omega
                obtain rfl : j = R2 := by omega
                go_wp2_with fail
                have hmm := HM.out
                rw [← HQ.out.1] at hmm
                refine ⟨⟨k + 1, by omega, by go_num, fun i q hi hq => ?_, hmm⟩, by simp [intOf]; omega⟩
                by_cases hik : i = k
                · subst hik
                  rw [HRK.out] at hq
                  injection hq with hq
                  subst hq
                  exact HOK.out
                · exact HK.out.1 i q (by omega) hq
          · rw [decide_eq_false hokr]
            go_wp2_with fail
            refine bodyPost_ret (v := .tuple #[.slice none 0 0, .bool false]) (by simp [results, Try.f130, go_sem]) rfl ⟨H4.out.below, .inr ⟨fun h => hokr (h.2.1 r (List.mem_of_getElem? HRK.out)), rfl⟩⟩
        · obtain rfl : k = rs.length := by omega
          go_wp2_with fail
          refine bodyPost_ret (v := .tuple #[.slice (some ⟨h, 0, none⟩) D D, .bool true]) (by simp [results, Try.f130, go_sem]) rfl ⟨HK.out.2.below, .inl ⟨?_, h, rfl, ?_⟩⟩
          · refine ⟨HR.out, fun r hr => ?_, ?_⟩
            · obtain ⟨j, hj, e⟩ := List.getElem_of_mem hr
              exact HK.out.1 j r hj (by rw [List.getElem?_eq_getElem hj, e])
            · have := HK.out.2.nodup
              rwa [List.take_length, List.take_length] at this
          · have := HK.out.2.own
            rwa [List.take_length, List.take_length] at this
  · have hr := decide_eq_false hR
    have hno : ¬ apartP l a d rs := fun h => hR h.1
    go_enter Try.func130, Try.ntmps130
    go_wp2_with fail
    refine (rright_any l a d _).mono ?_
    rintro e w1 ⟨rfl, rfl⟩
    rw [hr]
    dsimp only
    go_wp2_with fail
    refine bodyPost_ret (v := .tuple #[.slice none 0 0, .bool false]) (by simp [results, Try.f130, go_sem]) rfl ⟨?_, .inr ⟨hno, rfl⟩⟩
    exact ((Below.refl _ w).alloc (Nat.le_refl _) _).al _
end Go.Proofs.Ytfppddnfdinipaa
end
