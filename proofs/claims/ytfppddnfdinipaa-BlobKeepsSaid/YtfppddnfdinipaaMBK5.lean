/- the region law of XQuietTail within a round of a loop over a function. package blob: Write. package blob: Read. package blob: what is found, plain. spencelaw07: BlobKeeps' plain law: what is written is read again. spencelaw07: BlobKeeps' memory: a device, rows, the runs in which each lies. spenceref07: Need, right, marks. -/
import Derived.Test.YtfppddnfdinipaaMBK1
import Derived.OrdersIn
import Derived.RangeFuncCalls
import Derived.TacticsIn
import Derived.Test.YtfppddnfdinipaaMBK4
import Derived.Test.YtfppddnfdinipaaMBK2
import Derived.Test.YtfppddnfdinipaaMBK3
import Derived.ArgAppend
section
namespace Go.Proofs.Ytfppddnfdinipaa
open Go
section
variable {P : Program} {ops : Array Oper} {md : Region.Mode} {C : World → Prop} {lr n : Nat}
def noDeferB (ops : Array Oper) : Bool := ops.all fun o => match o.op with | .defer _ => false | _ => true
theorem noDefer_at (h : noDeferB ops = true) {i : Nat} {o : Oper} (ho : ops[i]? = some o) : ∀ c, o.op ≠ .defer c := by
  intro c e
  have h1 := Array.all_eq_true.1 h
  obtain ⟨hi, he⟩ := Array.getElem?_eq_some_iff.1 ho
  have h2 := h1 i hi
  rw [he, e] at h2
  cases h2
theorem wpIn_of_quiet {o : Oper} {a : Act} {K : Act → Prop} {K' : Act → World → Prop} {Q' : Exit → Act → World → Prop} {w : World} (hnd : ∀ c, o.op ≠ .defer c) (hw : C w) (h : ∀ a w', C w' → K a → K' a w') (hh : o.quiet P a C K) : o.wpIn (Fence.wide.inRound lr) n P a w K' Q' := by
  obtain ⟨v, h1, h2⟩ := hh
  have h3 := h1 w hw
  unfold Oper.quietAt at h3
  unfold Oper.wpIn
  refine ⟨fun _ _ => trivial, ?_⟩
  rw [Fence.inRound_round, Oper.semAt_some lr _ _ hnd]
  generalize (execOp a.eval o).run P w = r at *
  cases r with
  | ok n w' =>
    cases n <;> simp only [Oper.quietUpon] at h3 <;> simp only [Oper.uponIn]
    case value u =>
      obtain ⟨e1, e2⟩ := h3
      rw [e1, e2]
      exact h _ _ hw h2
    case skip =>
      obtain ⟨e1, e2⟩ := h3
      rw [e1, ← e2]
      exact h _ _ hw h2
    case enter f args =>
      obtain ⟨e1, hc⟩ := h3
      rw [e1]
      exact ⟨(fun hd => by cases hd), (CallsIn.inRound lr (callsIn_wide.2 hc)).mono fun e w'' ⟨he, hw''⟩ => by subst he; exact h _ _ hw'' h2⟩
  | halt x w' => simp only [Oper.quietUpon] at h3
theorem wpOpIn_of_qOp {i : Nat} {a : Act} {K : Act → Prop} {K' : Act → World → Prop} {Q' : Exit → Act → World → Prop} {w : World} (hnd : noDeferB ops = true) (hC : C w) (h : ∀ a w', C w' → K a → K' a w') (hh : qOp P ops C i K a) : wpOpIn (Fence.wide.inRound lr) n P ops Q' i K' a w := by
  unfold qOp at hh
  unfold wpOpIn
  split
  · rename_i ho; simp only [ho] at hh; exact h _ _ hC hh
  · rename_i o ho
    simp only [ho] at hh
    split
    · rename_i hw; simp only [hw, if_true] at hh; exact wpIn_of_quiet (noDefer_at hnd ho) hC h hh
    · rename_i hw; simp only [hw] at hh; exact ⟨fun _ _ => trivial, h _ _ hC hh⟩
theorem anyIn_of_headQ {m g : Nat} {L : Array Bool → Act → Prop} {Q' : Exit → Act → World → Prop} (hnd : noDeferB ops = true) (hL : ∀ d a w, C w → L d a → wpAnyIn (Fence.wide.inRound lr) n P md ops Q' g d a w) :
    ∀ (f : Nat) (d : Array Bool) (a : Act) (w : World), C w → headQ P md ops C m L f d a → wpAnyIn (Fence.wide.inRound lr) n P md ops Q' (f + g) d a w
  | 0, d, a, w, hw, h => by
    rw [Nat.zero_add]
    exact hL _ _ _ hw h
  | f + 1, d, a, w, hw, h => by
    rw [Nat.add_right_comm]
    exact ⟨fun he => absurd he h.1, fun i hi => wpOpIn_of_qOp hnd hw (fun a' w' hw' h' => anyIn_of_headQ hnd hL f _ a' w' hw' h') (h.2 i hi).2⟩
theorem wpAnyIn_of_seq {F : Fence} {Q' : Exit → Act → World → Prop} : ∀ (l : List Oper) (k : Nat) (listed : Array Bool) (a : Act) (w : World), (∀ j, l[j]? = ops[k + j]?) →
    Region.seqB md ops l.length k listed = true → wpListIn F n P ops Q' l a w → wpAnyIn F n P md ops Q' l.length listed a w
  | [], _, _, _, _, _, hB, h => ⟨by simpa [Region.seqB] using hB, h⟩
  | o :: l, k, listed, a, w, hl, hB, h => by
    have h0 : ops[k]? = some o := by simpa using (hl 0).symm
    simp only [List.length_cons, Region.seqB, Bool.and_eq_true, decide_eq_true_eq] at hB
    refine ⟨fun h1 => (by rw [hB.1] at h1; cases h1), fun i hi => ?_⟩
    rw [hB.1] at hi
    have hik : i = k := by simpa using hi
    subst hik
    have hw : wpOpIn F n P ops Q' i (wpListIn F n P ops Q' l) a w := by unfold wpOpIn; simp only [h0]; exact h
    exact wpOpIn_mono (fun a' w' h' => wpAnyIn_of_seq l (i + 1) _ a' w' (fun j => by have := hl (j + 1); simpa [Nat.add_assoc, Nat.add_comm 1 j] using this) hB.2 h') hw
theorem wpIn_quiet_tail_drewN {id : Nat} {Q : Exit → Act → World → Prop} {a : Act} {w : World} {l : List Oper} (m : Nat) (hm : P.follows .mixedOrders = true) (hB : (Region.lexTailB .any l.toArray m && noDeferB l.toArray) = true)
    (h : wpQuiet P l.toArray (fun w' => ∃ k, w' = w.drewN k) (fun a' => ∀ k, wpListIn (Fence.wide.inRound lr) n P l.toArray Q (l.drop m) a' (w.drewN k)) (l.take m) a) : (Code.region id l.toArray true).wpIn (Fence.wide.inRound lr) n P Q a w := by
  simp only [Region.lexTailB, Bool.and_eq_true, decide_eq_true_eq] at hB
  obtain ⟨⟨⟨⟨⟨hsel, hn⟩, hs⟩, hc⟩, hlex⟩, hnd⟩ := hB
  have hn' : m < l.length := by simpa using hn
  have htl : (l.take m).length = m := by simp; omega
  have hdl : (l.drop m).length = l.toArray.size - m := by simp
  have inv0 : HeadInv .any l.toArray m (Array.replicate l.toArray.size false) :=
    ⟨by simp, fun j oj _ hl => (by rw [getD_replicate_false] at hl; cases hl), fun t _ ht => getD_in (by simpa using ht) (getD_replicate_false _ _)⟩
  have H := headQ_lex (C := fun w' => ∃ k, w' = w.drewN k) (md := .any) (g := l.toArray.size - m) hsel hs hc hn (l.take m) 0 _ a (fun j hj => by
    have hj' : j < m := by rw [htl] at hj; exact hj
    simp [hj']) (by simpa using htl) inv0 (by rw [htl]; exact hlex) h
  refine wpIn_region_any hm ?_
  have hfin := anyIn_of_headQ (lr := lr) (n := n) (Q' := Q) (g := l.toArray.size - m) hnd (fun d a' w' hw' hL => by
    obtain ⟨k, rfl⟩ := hw'
    have h2 := wpAnyIn_of_seq (F := Fence.wide.inRound lr) (n := n) (md := .any) (Q' := Q) (l.drop m) m d a' (w.drewN k) (fun j => by simp [List.getElem?_drop]) (by rw [hdl]; exact hL.1) (hL.2 k)
    rwa [hdl] at h2) _ _ _ w.drew ⟨1, rfl⟩ H
  rw [htl, show m + (l.toArray.size - m) = l.toArray.size by omega] at hfin
  exact hfin
end
end Go.Proofs.Ytfppddnfdinipaa
end
section
namespace Go.Proofs.Ytfppddnfdinipaa
open Go Go.RowKit Go.Shelf
attribute [local go_sem] Oper.semAt_some
set_option maxRecDepth 100000
/-- bytes written to sectors, one behind the other -/
def writeS (D : Dv) (fst : Int) (l : List UInt8) : List Nat → Int × Dv
  | [] => D.flush
  | p :: ps => if (D.write (fst + (p : Int)) (l.take 64)).1 = 0 then writeS (D.write (fst + (p : Int)) (l.take 64)).2 fst (l.drop 64) ps else D.write (fst + (p : Int)) (l.take 64)
def Dv.put (D : Dv) (l a d : Int) (b : List UInt8) (rs : List Run) : Int × Dv :=
  if suitsE D.kept.length l a d b.length rs = 0 then writeS D (firstS l a d) b (pos rs) else (suitsE D.kept.length l a d b.length rs, D)
theorem DevAt.types {w : World} {F : Nat → Prop} {g : Nat} {D : Dv} (h : DevAt w F g D) {k : Nat} (hk : F k) : ∃ cs t, w.heap[k]? = some (.cells cs t (0, 0)) ∧ t ≠ 88 := by
  obtain ⟨rk, c, vp, rfl, h1, h2, h3, h4⟩ := h
  rcases hk with rfl | rfl | hk
  · exact ⟨_, _, h1, by decide⟩
  · rcases owned_formN h2 with ⟨h, _⟩ | ⟨g', cap', cur, h', _, _, _, hh, _⟩
    · cases h
    · injection h' with e1 _ _
      injection e1 with e1
      injection e1 with e1
      subst e1
      exact ⟨_, _, hh, by decide⟩
  · rcases owned_formN h3 with ⟨rfl, _⟩ | ⟨g', cap', cur, rfl, _, _, _, hh, _⟩
    · cases hk
    · have hk : some g' = some k := hk
      injection hk with hk
      subst hk
      exact ⟨_, _, hh, by decide⟩
section
variable {W W2 : World} {F F' : Nat → Prop} {q n₀ : Nat} {D D2 : Dv} {S : Nat → Prop}
theorem Left.keeps (h : DevAt W F' q D) (hl : Left W F' q D2 W2) : KeepsOthers W W2 := by
  obtain ⟨F2, _, ht, _⟩ := hl
  refine ⟨ht.size, fun k o hk ho => ?_⟩
  have hlt := (Array.getElem?_eq_some_iff.1 hk).1
  refine (ht.block k hlt fun hF => ?_).trans hk
  obtain ⟨cs, t, h1, _⟩ := h.types hF
  rw [h1] at hk
  injection hk with hk
  subst hk
  cases ho
theorem Left.keepsI (h : DevAt W F' q D) (hl : Left W F' q D2 W2) (hF : ∀ k, F' k → F k ∨ n₀ ≤ k) (hS : ∀ k, F k → S k) : KeepsI S n₀ W W2 := by
  obtain ⟨F2, _, ht, _⟩ := hl
  refine ⟨ht.size, fun k o hk hs ho _ => ?_, fun k cs fr hk ho => ?_⟩
  · have hlt := (Array.getElem?_eq_some_iff.1 ho).1
    refine (ht.block k hlt fun hf => ?_).trans ho
    rcases hF k hf with h | h
    · exact hs (hS k h)
    · omega
  · have hlt := (Array.getElem?_eq_some_iff.1 ho).1
    refine (ht.block k hlt fun hf => ?_).trans ho
    obtain ⟨cs', t, h1, h2⟩ := h.types hf
    rw [h1] at ho
    injection ho with ho
    injection ho with _ ho
    exact h2 ho
theorem Left.of_draw {n : Nat} (h : Left (W.drewN n) F' q D2 W2) : Left W F' q D2 W2 := by
  obtain ⟨F2, h1, h2, h3⟩ := h
  exact ⟨F2, h1, ⟨h2.os, h2.tape, h2.output, h2.size, h2.block⟩, h3⟩
theorem KeepsI.setCell {p : Addr} (hp : S p.block) (hn : p.block < n₀) (W : World) (v : Value) : KeepsI S n₀ W (W.setCell p v) :=
  ⟨by simp, fun k o _ hs ho _ => (Below.heap_setCell _ _ _ _ (fun e => hs (by rw [e]; exact hp))).trans ho, fun k cs fr hk ho => (Below.heap_setCell _ _ _ _ (by omega)).trans ho⟩
theorem DevAt.grown {row : Option Nat} (h : DevAt W F' q D) (hg : W.grownBy W2 row) (hr : ∀ r, row = some r → ∃ o : Obj, W.heap[r]? = some o ∧ o.isCells = false) : DevAt W2 F' q D :=
  h.keep fun k hk hf => hg.block k hk fun e => by
    obtain ⟨o, h1, h2⟩ := hr k e.symm
    obtain ⟨cs, t, h3, _⟩ := h.types hf
    rw [h1] at h3
    injection h3 with h3
    subst h3
    cases h2
theorem Src.grown {row : Option Nat} {A : Option Addr} {m c : Nat} {xs : List Value} (h : Src W A m c xs) (hg : W.grownBy W2 row) (hr : ∀ r, row = some r → ∃ o : Obj, W.heap[r]? = some o ∧ o.isCells = false) : Src W2 A m c xs :=
  ⟨h.len, h.none_, h.one, fun ad ha j u hu => cell_kept (h.cells ad ha j u hu) hg hr⟩
theorem ownFrom_turned {β : Type} {B : Nat} {w : World} (hB : w.heap.size ≤ B) : OwnFrom B (fun (_ : β) W => Turned F w W) :=
  fun _ A _ _ hs hg hr => ⟨hg.os.trans hs.os, hg.tape.trans hs.tape, hg.output.trans hs.output, Nat.le_trans hs.size hg.size, fun k hk hF => (hg.block k (Nat.lt_of_lt_of_le hk hs.size) fun e => by have := (hr k e.symm).1; omega).trans (hs.block k hk hF)⟩
theorem Src.take {A : Option Addr} {c : Nat} {l : List UInt8} (h : Src W A l.length c (bv l)) (k : Nat) : Src W A (l.take k).length c (bv (l.take k)) :=
  ⟨bvL _, fun e => by have := h.none_ e; exact ⟨by rw [List.length_take]; omega, this.2⟩, bv1 _, fun ad ha j u hu => h.cells ad ha j u (by
    have e : bv (l.take k) = (bv l).take k := by simp [bv, List.map_take]
    rw [e, List.getElem?_take] at hu
    split at hu
    · exact hu
    · cases hu)⟩
theorem Src.drop {A : Option Addr} {c : Nat} {l : List UInt8} (h : Src W A l.length c (bv l)) (k : Nat) (hc : l.length ≤ c) : Src W (if c = k then A else A.map (·.add k)) (l.drop k).length (c - k) (bv (l.drop k)) := by
  have e : bv (l.drop k) = (bv l).drop k := by simp [bv, List.map_drop]
  refine ⟨bvL _, fun h0 => ?_, bv1 _, fun ad ha j u hu => ?_⟩
  · have : A = none := by
      split at h0
      · exact h0
      · cases A with
        | none => rfl
        | some ad => cases h0
    have := h.none_ this
    rw [List.length_drop]
    omega
  · rw [e, List.getElem?_drop] at hu
    have hlt := (List.getElem?_eq_some_iff.1 hu).1
    rw [bvL] at hlt
    rw [if_neg (by omega)] at ha
    obtain ⟨ad', rfl, rfl⟩ := Option.map_eq_some_iff.1 ha
    have := h.cells ad' rfl (k + j) u hu
    rwa [Addr.add_add]
end
/-- what the loop of Write goes on with -/
structure PutAt (F : Nat → Prop) (q n₀ s0 b6 : Nat) (D : Dv) (fst : Int) (bs : List UInt8) (W : World) (ps : List Nat) (F' : Nat → Prop) (Dk : Dv) (A : Option Addr) (c : Nat) (rest : List UInt8) : Prop where
  dev : DevAt W F' q Dk
  foot : ∀ k, F' k → F k ∨ n₀ ≤ k
  de : Dk.de ≤ D.de + (ps.length : Int)
  pend : Dk.pend.length ≤ D.pend.length + ps.length
  len : rest.length ≤ bs.length
  cap : rest.length ≤ c
  box : W.cell? ⟨b6, 0, none⟩ = some (.slice A rest.length c)
  frz : W.frozen? ⟨b6, 0, none⟩ = false
  src : Src W A rest.length c (bv rest)
  sep : ∀ ad, A = some ad → 0 < rest.length → ad.block < s0 ∧ ¬ F ad.block
  law : ∀ Q, writeS D fst bs (ps ++ Q) = writeS Dk fst rest Q
  sz : n₀ ≤ W.heap.size
theorem write_more (D : Dv) (x : Int) (l : List UInt8) : (D.write x l).2.de ≤ D.de + 1 ∧ (D.write x l).2.pend.length ≤ D.pend.length + 1 ∧ (D.write x l).2.kept = D.kept := by
  unfold Dv.write
  by_cases h1 : D.dn = true
  · rw [if_pos h1]
    exact ⟨(by show D.de ≤ _; omega), (by show D.pend.length ≤ _; omega), rfl⟩
  · rw [if_neg h1]
    split
    · exact ⟨(by show D.de ≤ _; omega), (by show D.pend.length ≤ _; omega), rfl⟩
    · refine ⟨?_, ?_, rfl⟩
      · show (tick D.de D.fu D.dn).2.1 ≤ _
        unfold tick
        split
        · show D.de ≤ _; omega
        · split <;> (show D.de + 1 ≤ _; omega)
      · show (if (tick D.de D.fu D.dn).1 = 0 then D.pend ++ [(x, pad l)] else D.pend).length ≤ _
        split
        · simp
        · omega
section
variable {F F' : Nat → Prop} {q n₀ s0 b6 c m : Nat} {D Dk D2 : Dv} {fst : Int} {bs rest : List UInt8} {W W2 : World} {ps : List Nat} {A : Option Addr}
/-- what lies apart stays while the device is turned -/
theorem PutAt.same (hP : PutAt F q n₀ s0 b6 D fst bs W ps F' Dk A c rest) (hL : Left W F' q D2 W2) {j : Nat} (hj : j < n₀) (hF : ¬ F j) : W2.heap[j]? = W.heap[j]? := by
  obtain ⟨F2, _, ht, _⟩ := hL
  have hn := hP.sz
  refine ht.block j (by omega) fun h => ?_
  rcases hP.foot j h with h | h
  · exact hF h
  · omega
theorem PutAt.next {p : Nat} (hP : PutAt F q n₀ s0 b6 D fst bs W ps F' Dk A c rest) (hL : Left W F' q (Dk.write (fst + (p : Int)) (rest.take 64)).2 W2) (h0 : (Dk.write (fst + (p : Int)) (rest.take 64)).1 = 0) (hm : m = (rest.take 64).length) (hs : s0 ≤ n₀) (hb : b6 < n₀ ∧ s0 ≤ b6) (hF : ¬ F b6) :
    ∃ F2, PutAt F q n₀ s0 b6 D fst bs (W2.setCell ⟨b6, 0, none⟩ (.slice (if c = m then A else A.map (·.add m)) (rest.length - m) (c - m))) (ps ++ [p]) F2 (Dk.write (fst + (p : Int)) (rest.take 64)).2 (if c = m then A else A.map (·.add m)) (c - m) (rest.drop 64) := by
  have hn := hP.sz
  have hsame := fun {j : Nat} => hP.same hL (j := j)
  have hm2 : m = min 64 rest.length := by rw [hm, List.length_take]
  have hdl : (rest.drop 64).length = rest.length - m := by rw [List.length_drop]; omega
  have hdr : rest.drop 64 = rest.drop m := by
    rw [hm2]
    rcases Nat.le_total 64 rest.length with h | h
    · rw [Nat.min_eq_left h]
    · rw [Nat.min_eq_right h, List.drop_eq_nil_of_le h, List.drop_eq_nil_of_le (Nat.le_refl _)]
  have hw := write_more Dk (fst + (p : Int)) (rest.take 64)
  have hde := hP.de
  have hpe := hP.pend
  have hln := hP.len
  have hcp := hP.cap
  have hsrc := hP.src.drop m hP.cap
  have hblk : ∀ ad, (if c = m then A else A.map (·.add m)) = some ad → 0 < (rest.drop 64).length → ad.block < s0 ∧ ¬ F ad.block := by
    intro ad ha h1
    split at ha
    · exact hP.sep ad ha (by omega)
    · obtain ⟨ad', ha', rfl⟩ := Option.map_eq_some_iff.1 ha
      have e : (ad'.add m).block = ad'.block := by cases m <;> simp [Addr.add]
      rw [e]
      exact hP.sep ad' ha' (by omega)
  obtain ⟨F2, h1, h2, h3⟩ := hL
  have hnF2 : ¬ F2 b6 := fun h => by
    rcases h3 b6 h with h | h
    · rcases hP.foot b6 h with h | h
      · exact hF h
      · omega
    · omega
  refine ⟨F2, h1.keep fun k _ hk => Below.heap_setCell _ _ _ _ (fun e => hnF2 (by have e : k = b6 := e; rw [← e]; exact hk)), fun k hk => ?_, ?_, ?_, ?_, ?_, ?_, ?_, ?_, hblk, fun Q => ?_, by have := h2.size; simp; omega⟩
  · rcases h3 k hk with h | h
    · exact hP.foot k h
    · exact .inr (by omega)
  · rw [List.length_append]
    simp
    omega
  · rw [List.length_append]
    simp
    omega
  · rw [hdl]
    omega
  · rw [hdl]
    omega
  · rw [hdl]
    exact World.cell?_setCell_same' _ _ _ (by rw [World.cell?_of_block (hsame hb.1 hF), hP.box]; rfl)
  · rw [World.frozen?_setCell, World.frozen?_of_block (hsame hb.1 hF)]
    exact hP.frz
  · refine ⟨bvL _, fun e => ?_, bv1 _, fun ad ha j u hu => ?_⟩
    · have := hsrc.none_ e
      rw [← hdr] at this
      exact this
    · have hlt := (List.getElem?_eq_some_iff.1 hu).1
      rw [bvL] at hlt
      obtain ⟨k1, k2⟩ := hblk ad ha (by omega)
      have hbk : (ad.add j).block = ad.block := by cases j <;> simp [Addr.add]
      rw [World.cell?_setCell_other _ _ _ _ (fun e => by first | (have h : (ad.add j).block = b6 := congrArg Addr.block e; omega) | (have h : b6 = (ad.add j).block := congrArg Addr.block e; omega)), World.cell?_of_block (hsame (j := (ad.add j).block) (by rw [hbk]; omega) (by rw [hbk]; exact k2))]
      exact hsrc.cells ad ha j u (by rw [← hdr]; exact hu)
  · rw [List.append_assoc, hP.law]
    show writeS Dk fst rest (p :: Q) = _
    rw [writeS, if_pos h0]
end
theorem putTurned {F F' : Nat → Prop} {q n₀ s0 b6 c : Nat} {D Dk D2 : Dv} {fst : Int} {bs rest : List UInt8} {W W2 w : World} {ps : List Nat} {A : Option Addr} {p : Addr} (hT : Turned F w W) (hP : PutAt F q n₀ s0 b6 D fst bs W ps F' Dk A c rest) (hL : Left W F' q D2 W2) (hp : w.heap.size ≤ p.block) (v : Value) (hn : w.heap.size ≤ n₀ := by omega) : Turned F w (W2.setCell p v) := by
  obtain ⟨F2, _, ht, _⟩ := hL
  refine (hT.then_ ht fun k hk hF => ?_).setCell (fun h => absurd h (by omega)) v
  rcases hP.foot k hF with h | h
  · exact h
  · omega
def PutQ (F : Nat → Prop) (q : Nat) (r : Int × Dv) (w : World) (e : Ending) (w' : World) : Prop := e = .returned (.int .i64 r.1) ∧ Left w F q r.2 w'
theorem put_step {F F' : Nat → Prop} {q n₀ s0 b6 c m : Nat} {D Dk : Dv} {fst x : Int} {bs rest : List UInt8} {W : World} {ps : List Nat} {A : Option Addr} (hP : PutAt F q n₀ s0 b6 D fst bs W ps F' Dk A c rest) (hm : m = (rest.take 64).length) (hps : ps.length ≤ 64) (hde : D.de ≤ 900000000) (hpe : D.pend.length ≤ 90000) (hs : s0 ≤ n₀) (hx : 0 ≤ x ∧ x ≤ 100000) (nq : Nat) :
    Calls Try.prog 67 #[.pointer (some ⟨q, 0, none⟩), .int .i64 x, .slice A m c] (W.drewN nq) fun e w' => e = .returned (.int .i64 (Dk.write x (rest.take 64)).1) ∧ Left (W.drewN nq) F' q (Dk.write x (rest.take 64)).2 w' := by
  subst hm
  have hsr := hP.src.take 64
  have h1 := hP.de
  have h2 := hP.pend
  have h3 : (rest.take 64).length ≤ 64 := List.length_take_le ..
  refine write_any x (rest.take 64) A c (W.drewN nq) (hP.dev.keep fun _ _ _ => rfl) (by omega) (by omega) (by omega) (by omega) ⟨hsr.len, hsr.none_, hsr.one, hsr.cells⟩ fun ad ha h0 hF => ?_
  rw [List.length_take] at h0
  obtain ⟨k1, k2⟩ := hP.sep ad ha (by omega)
  rcases hP.foot _ hF with h | h
  · exact k2 h
  · omega
theorem wfinD {tmps : Array Value} {B D : Nat} {W : World} {v : Value} {R : Ending → World → Prop} (h4 : tmps.getD 8 undef = .pointer (some ⟨B, 0, none⟩)) (hc : W.cell? ⟨B, 0, none⟩ = some v) (hK : W.heap[D]? = some (.deferred (some []))) (hR : R (.returned v) (W.putObj D (.deferred none))) :
    bodyPostM Fence.wide 5 Try.prog Try.f35 R .ret { tmps := tmps, defers := [{ target := .collected D, args := #[] }] } W := by
  have h4' : tmps[8]?.getD undef = .pointer (some ⟨B, 0, none⟩) := by simpa using h4
  have hc' := cell_kept hc (grownBy_putObj' _ D (.deferred none)) (fun r e => by cases e; exact ⟨_, hK, rfl⟩)
  exact ⟨by simp, .inl ⟨_, _, rfl, run_takeDeferred hK, v, by simp [results, Try.f35, go_sem, h4', hc'], hR⟩⟩
set_option maxHeartbeats 1000000 in
theorem bwrite_in {D : Dv} {F : Nat → Prop} {q : Nat} (l a d : Int) (h64 : d ≤ 64) (bs : List UInt8) (hbs : bs.length ≤ 1000000) (A : Option Addr) (cap : Nat) (hcap : bs.length ≤ cap) (Ar : Option Addr) (cr : Nat) (rs : List Run) (hlen : rs.length ≤ 1000000) (w : World)
    (hd : DevAt w F q D) (hde : D.de ≤ 900000000) (hpe : D.pend.length ≤ 90000) (hrs : RunsM w w.heap.size (.slice Ar rs.length cr) rs) (hsep : ∀ ad, Ar = some ad → 0 < rs.length → ¬ F ad.block)
    (hs : Src w A bs.length cap (bv bs)) (hsb : ∀ ad, A = some ad → 0 < bs.length → ¬ F ad.block) (hE : suitsE D.kept.length l a d bs.length rs = 0) :
    Calls Try.prog 35 #[.pointer (some ⟨q, 0, none⟩), .agg #[.int .i64 l, .int .i64 a, .int .i64 d], .slice A bs.length cap, .slice Ar rs.length cr] w (PutQ F q (writeS D (firstS l a d) bs (pos rs)) w) := by
  have hap : apartP l a d rs := by
    by_cases h : apartP l a d rs
    · exact h
    · rw [suitsE, if_neg (fun h2 => h h2.1)] at hE
      cases hE
  have hR := hap.1
  have hfst : 0 ≤ firstS l a d ∧ firstS l a d ≤ 8192 := by
    have h1 := hR.1
    have h2 := hR.2.1
    have h3 := hR.2.2.1
    have h4 := hR.2.2.2
    rw [firstS, if_pos hR]
    unfold inW at h1 h2 h3
    omega
  have hcnt := apart_count hap
  have hN : (pos rs).length ≤ 64 := by have := (apart_d hap).2; omega
  have HD := hide (And.intro hd (And.intro hrs (And.intro hs (And.intro hsep (And.intro hsb (And.intro hE hap))))))
  clear hd hrs hs hsep hsb hE hap hR
  refine (callsIn_wide (n := 5)).1 ?_
  refine callsIn_of_wp_marks Try.func35 rfl trivial ?_ rfl
  simp only [Try.ntmps35, List.size_toArray, List.length_cons, List.length_nil, Nat.reduceAdd, Nat.reduceSub, Array.replicate_succ, Array.replicate_zero, List.push_toArray, List.append_toArray, List.nil_append, List.cons_append]
  refine wpIn_wide.2 ?_
  obtain ⟨w1, hw1⟩ : ∃ w1, w1 = (((w.alloc (.cells #[.pointer (some ⟨q, 0, none⟩)] 69)).alloc (.cells #[.int .i64 l, .int .i64 a, .int .i64 d] 64)).alloc (.cells #[.slice A bs.length cap] 66)).alloc (.cells #[.int .i64 0] 34) := ⟨_, rfl⟩
  have b4 : Blk w1 w.heap.size 69 #[.pointer (some ⟨q, 0, none⟩)] := by rw [hw1]; exact (((Blk.new w _ _).alloc _).alloc _).alloc _
  have b5 : Blk w1 (w.heap.size + 1) 64 #[.int .i64 l, .int .i64 a, .int .i64 d] := by
    rw [hw1]
    have := ((Blk.new (w.alloc (.cells #[.pointer (some ⟨q, 0, none⟩)] 69)) 64 #[.int .i64 l, .int .i64 a, .int .i64 d]).alloc (.cells #[.slice A bs.length cap] 66)).alloc (.cells #[.int .i64 0] 34)
    rwa [size_alloc] at this
  have b6 : Blk w1 (w.heap.size + 1 + 1) 66 #[.slice A bs.length cap] := by
    rw [hw1]
    have := (Blk.new ((w.alloc (.cells #[.pointer (some ⟨q, 0, none⟩)] 69)).alloc (.cells #[.int .i64 l, .int .i64 a, .int .i64 d] 64)) 66 #[.slice A bs.length cap]).alloc (.cells #[.int .i64 0] 34)
    rwa [size_alloc, size_alloc] at this
  have b8 : Blk w1 (w.heap.size + 1 + 1 + 1) 34 #[.int .i64 0] := by
    rw [hw1]
    have := Blk.new (((w.alloc (.cells #[.pointer (some ⟨q, 0, none⟩)] 69)).alloc (.cells #[.int .i64 l, .int .i64 a, .int .i64 d] 64)).alloc (.cells #[.slice A bs.length cap] 66)) 34 #[.int .i64 0]
    rwa [size_alloc, size_alloc, size_alloc] at this
  have hb1 : Below w.heap.size w w1 := by rw [hw1]; exact ((((Below.refl _ w).alloc (Nat.le_refl _) _).al _).al _).al _
  have H1 := hide (And.intro b4 (And.intro b5 (And.intro b6 (And.intro b8 hb1))))
  clear b4 b5 b6 b8 hb1
  go_wp2_with fail
  rw [← hw1]
  have HW1 := hide hw1
  clear hw1
  refine (suits_any l a d (fun _ => h64) (bs.length : Int) (by omega) _ rs hlen w1 (HD.out.2.1.below H1.out.2.2.2.2) (HD.out.1.keep fun k hk _ => H1.out.2.2.2.2.block k hk)).mono ?_
  rintro e w2 ⟨rfl, hb2⟩
  rw [HD.out.2.2.2.2.2.1]
  have H2 := hide (And.intro (H1.out.1.below hb2 H1.out.1.lt) (And.intro (H1.out.2.1.below hb2 H1.out.2.1.lt) (And.intro (H1.out.2.2.1.below hb2 H1.out.2.2.1.lt) (And.intro (H1.out.2.2.2.1.below hb2 H1.out.2.2.2.1.lt) (H1.out.2.2.2.2.next hb2)))))
  have c0 := H2.out.2.1.cell 0
  have c1 := H2.out.2.1.cell 1
  have c2 := H2.out.2.1.cell 2
  have hlt := H2.out.2.1.lt
  clear hb2 HW1 H1
  dsimp only
  go_wp2_with fail
  refine (lfirst_any l a d w2).mono ?_
  rintro e w3 ⟨rfl, hb3⟩
  have H3 := hide (And.intro (H2.out.1.below hb3 H2.out.1.lt) (And.intro (H2.out.2.2.1.below hb3 H2.out.2.2.1.lt) (And.intro (H2.out.2.2.2.1.below hb3 H2.out.2.2.2.1.lt) (H2.out.2.2.2.2.next hb3))))
  clear hb3 c0 c1 c2 hlt H2
  obtain ⟨fst, hfs⟩ : ∃ fst, fst = firstS l a d := ⟨_, rfl⟩
  rw [← hfs] at hfst ⊢
  have HFS := hide hfs
  clear hfs
  dsimp only
  go_wp2_with fail
  refine (each_any _ _ _ _).mono ?_
  rintro e W0 ⟨rfl, hW0⟩
  obtain ⟨s0, hs0⟩ : ∃ s0, s0 = w.heap.size := ⟨_, rfl⟩
  have e4 : W0.heap.size = w3.heap.size + 1 + 1 := by rw [hW0, size_alloc, size_alloc]
  have hb0 : Below w3.heap.size w3 W0 := by rw [hW0]; exact ((Below.refl _ w3).alloc (Nat.le_refl _) _).al _
  have hB10 : Blk W0 w3.heap.size 3 #[.int .i64 fst] := by rw [hW0]; exact (Blk.new w3 _ _).alloc _
  have hBd : Blk W0 (w3.heap.size + 1) 73 #[.slice Ar rs.length cr] := by
    rw [hW0]
    have := Blk.new (w3.alloc (.cells #[.int .i64 fst] 3)) 73 #[.slice Ar rs.length cr]
    rwa [size_alloc] at this
  have h3 := H3.out
  rw [← hs0] at h3
  have hB4 := h3.1.below hb0 h3.1.lt
  have hB6 := h3.2.1.below hb0 h3.2.1.lt
  have hB8 := h3.2.2.1.below hb0 h3.2.2.1.lt
  have hbw : Below w.heap.size w W0 := by rw [← hs0]; exact (show Below w.heap.size w w3 by rw [← hs0]; exact h3.2.2.2).next hb0 |> fun h => by rwa [hs0]
  have hlt8 := h3.2.2.1.lt
  clear h3
  rw [← hs0]
  have cells : 0 < rs.length → ∃ b off, Ar = some ⟨b, off, none⟩ ∧ b < W0.heap.size ∧ ¬ (F b ∨ b = s0 + 1 + 1 ∨ b = s0 + 1 + 1 + 1) ∧ ∀ j r, rs[j]? = some r → W0.cell? ⟨b, off + j * 2, none⟩ = some (.int .i64 r.1) ∧ W0.cell? ⟨b, off + j * 2 + 1, none⟩ = some (.int .i64 r.2) := by
    intro h
    obtain ⟨A', cp', hv, _, _, hA, _⟩ := HD.out.2.1
    injection hv with e1 _ _
    subst e1
    obtain ⟨b, off, e1, e2, e3⟩ := hA h
    have hnF := HD.out.2.2.2.1 _ e1 h
    refine ⟨b, off, e1, by omega, ?_, fun j r hj => ⟨(hbw.cell (p := ⟨b, off + j * 2, none⟩) e2).trans (e3 j r hj).1, (hbw.cell (p := ⟨b, off + j * 2 + 1, none⟩) e2).trans (e3 j r hj).2⟩⟩
    rintro (h | h | h)
    · exact hnF h
    · omega
    · omega
  have hP0 : PutAt F q W0.heap.size s0 (s0 + 1 + 1) D fst bs W0 (([] : List Nat).map (secF rs)) F D A cap bs := by
    have hsrc : Src W0 A bs.length cap (bv bs) := ⟨HD.out.2.2.1.len, HD.out.2.2.1.none_, HD.out.2.2.1.one, fun ad ha j u hu => by
      have h := HD.out.2.2.1.cells ad ha j u hu
      exact (hbw.cell (World.block_lt_of_cell? w _ h)).trans h⟩
    refine ⟨HD.out.1.keep fun k hk _ => hbw.block k hk, fun k hk => .inl hk, by simp, by simp, Nat.le_refl _, hcap, hB6.cell 0, hB6.frozen 0, hsrc, fun ad ha h0 => ⟨?_, HD.out.2.2.2.2.1 ad ha h0⟩, fun Q => rfl, Nat.le_refl _⟩
    obtain ⟨u, hu⟩ : ∃ u, (bv bs)[0]? = some u := ⟨_, List.getElem?_eq_getElem (by rw [bvL]; exact h0)⟩
    have h := World.block_lt_of_cell? w _ (HD.out.2.2.1.cells ad ha 0 _ hu)
    rw [hs0]
    simpa [Addr.add] using h
  have hFlt : ∀ k, F k → k < s0 := fun k hk => by rw [hs0]; exact HD.out.1.lt k hk
  have HI := hide (And.intro hP0 (And.intro (hB4.cell 0) (And.intro (hB10.cell 0) (And.intro (hB8.cell 0) (hB8.frozen 0)))))
  have HC := hide (And.intro cells (And.intro HD.out.2.2.2.2.2.2.2.1 (hBd.cell 0)))
  have HZ := hide (And.intro e4 (And.intro hFlt (And.intro hlt8 hs0)))
  have HBW := hide hbw
  clear hs0 e4 hb0 hB10 hBd hB4 hB6 hB8 hbw hlt8 cells hP0 hFlt H3 hW0
  rw [size_alloc]
  dsimp only
  go_wp2_with fail
  refine (wpIn_wide (n := 5)).1 ?_
  refine wpIn_rangeFunc_ownG (F := Fence.wide) (n := 5) (α := Nat) rfl (by omega) (gf := 122) (lb := #[.pointer (some ⟨w3.heap.size + 1, 0, none⟩)]) rfl trivial (enters_of Try.func122 (by kernel_rfl) rfl)
    (each_stops (n₀ := W0.heap.size) (S := fun k => F k ∨ k = s0 + 1 + 1 ∨ k = s0 + 1 + 1 + 1) Fence.wide 4 trivial rfl (by omega) (w3.heap.size + 1) cr Ar rs hlen (fun r hr => by have := HC.out.2.1 r hr; unfold okRun at this; omega) W0 (Nat.le_refl _) (by have := HZ.out.1; omega) HC.out.2.2 HC.out.1) KeepsI.trans (KeepsI.putObj (Nat.le_refl _)) (Below.refl _ _) (fun _ => rfl)
    (fun pre W => (∃ F' Dk A' c' rest, PutAt F q W0.heap.size s0 (s0 + 1 + 1) D fst bs W (pre.map (secF rs)) F' Dk A' c' rest) ∧ (W.cell? ⟨s0, 0, none⟩ = some (.pointer (some ⟨q, 0, none⟩)) ∧ W.cell? ⟨w3.heap.size, 0, none⟩ = some (.int .i64 fst) ∧ W.cell? ⟨s0 + 1 + 1 + 1, 0, none⟩ = some (.int .i64 0) ∧ W.frozen? ⟨s0 + 1 + 1 + 1, 0, none⟩ = false) ∧ Turned F w W)
    (fun c pre W => (c = .ret ∧ ∃ r : Int × Dv, (∀ Q, writeS D fst bs (pre.map (secF rs) ++ Q) = r) ∧ (∃ F', DevAt W F' q r.2 ∧ ∀ k, F' k → F k ∨ W0.heap.size ≤ k) ∧ W.cell? ⟨s0 + 1 + 1 + 1, 0, none⟩ = some (.int .i64 r.1)) ∧ Turned F w W)
    ?ownI ?ownX ⟨⟨F, D, A, cap, bs, HI.out.1⟩, HI.out.2, Turned.of_below HBW.out F⟩
    (fun x => { tmps := #[.pointer (some ⟨q, 0, none⟩), .agg #[.int .i64 l, .int .i64 a, .int .i64 d], .slice A bs.length cap, .slice Ar rs.length cr, .pointer (some ⟨s0, 0, none⟩), .pointer (some ⟨s0 + 1, 0, none⟩), .pointer (some ⟨s0 + 1 + 1, 0, none⟩), undef, .pointer (some ⟨s0 + 1 + 1 + 1, 0, none⟩), .int .i64 0, .pointer (some ⟨w3.heap.size, 0, none⟩), .int .i64 ((secF rs x : Nat) : Int), undef, undef, .pointer (some ⟨q, 0, none⟩), .agg #[.int .i64 l, .int .i64 a, .int .i64 d], .slice A bs.length cap, .int .i64 (bs.length : Int), .slice Ar rs.length cr, .int .i64 0, .int .i64 0, .bool false, undef, .agg #[.int .i64 l, .int .i64 a, .int .i64 d], .int .i64 fst, .slice Ar rs.length cr, .func (.func 122) #[] #[.pointer (some ⟨w3.heap.size + 1, 0, none⟩)], .int .i64 ((secF rs x : Nat) : Int), undef, undef, undef, undef, undef, undef, undef, undef, undef, undef, undef, undef, undef, undef, undef, undef, undef, undef, undef], defers := [] }) ?assign ?body ?done ?stop
  case ownI =>
    refine OwnFrom.and (Own.from (fun pre X Y row hs hg hr => ?_) _) (OwnFrom.and (Own.from (fun pre X Y row hs hg hr => ⟨cell_kept hs.1 hg hr, cell_kept hs.2.1 hg hr, cell_kept hs.2.2.1 hg hr, (frozen_kept hs.2.2.1 hg hr).trans hs.2.2.2⟩) _) (ownFrom_turned (by have := HBW.out.size; exact this)))
    obtain ⟨F', Dk, A', c', rest, h⟩ := hs
    exact ⟨F', Dk, A', c', rest, h.dev.grown hg hr, h.foot, h.de, h.pend, h.len, h.cap, cell_kept h.box hg hr, (frozen_kept h.box hg hr).trans h.frz, h.src.grown hg hr, h.sep, h.law, Nat.le_trans h.sz hg.size⟩
  case ownX =>
    intro c
    refine OwnFrom.and (Own.from (fun pre X Y row hs hg hr => ?_) _) (ownFrom_turned (by have := HBW.out.size; exact this))
    obtain ⟨h1, r, h2, ⟨F', h3, h4⟩, h5⟩ := hs
    exact ⟨h1, r, h2, ⟨F', h3.grown hg hr, h4⟩, cell_kept h5 hg hr⟩
  case assign =>
    intro l y W K hK
    dsimp only [posE]
    gi_wp2
    exact hK
  case body =>
    rintro l0 pre x W ⟨⟨F', Dk, A', c', rest, hP⟩, ⟨hc4, hc10, hc8, hf8⟩, hT⟩ hlen2
    have hx := secF_lt HC.out.2.1 h64 x
    have hsl : W.heap.size ≥ w.heap.size := hT.size
    have hc6 := hP.box
    have hf6 := hP.frz
    have hpd : pre.length < 64 := by omega
    obtain ⟨m, hm⟩ : ∃ m, m = (rest.take 64).length := ⟨_, rfl⟩
    have hm2 : m = min 64 rest.length := by rw [hm, List.length_take]
    have n1 : (0 : Int) ≤ fst := hfst.1
    have n2 : fst ≤ 8192 := hfst.2
    have n3 : (0 : Int) ≤ ((secF rs x : Nat) : Int) := by omega
    have n4 : ((secF rs x : Nat) : Int) < 64 := by omega
    have hcc := hP.cap
    have HP := hide (And.intro hP hT)
    have HX := hide (And.intro hm hm2)
    have HS := hide (show s0 ≤ W0.heap.size by have := HZ.out.2.2.1; have := HZ.out.1; omega)
    clear hP hT hm
    obtain ⟨A2, hA2⟩ : ∃ A2, A2 = (if c' = m then A' else A'.map (·.add m)) := ⟨_, rfl⟩
    obtain ⟨L2, hL2⟩ : ∃ L2, L2 = rest.length - m := ⟨_, rfl⟩
    obtain ⟨C2, hC2⟩ : ∃ C2, C2 = c' - m := ⟨_, rfl⟩
    have HA2 := hide (And.intro hA2 (And.intro hL2 hC2))
    clear hA2 hL2 hC2
    by_cases hle : rest.length ≤ 64
    · have q1 : (rest.length : Int) ≤ 64 := by omega
      have hm3 : m = rest.length := by omega
      clear hm2
      have hs1 : ∀ w, (Instr.sliceAt 66 (.slice A' rest.length c') none (some (.int .i64 (rest.length : Int))) none).run Try.prog w = .ok (.slice A' m c') w := fun w => by
        rw [hm3]
        exact run_slice_to (P := Try.prog) 66 5 Try.underlying66 size5 A' rest.length c' (rest.length) (by omega) w
      have hs2 : ∀ w, (Instr.sliceAt 66 (.slice A' rest.length c') (some (.int .i64 (rest.length : Int))) none none).run Try.prog w = .ok (.slice A2 L2 C2) w := fun w => by
        rw [HA2.out.1, HA2.out.2.1, HA2.out.2.2, hm3]
        exact run_sliceAt_from (P := Try.prog) 66 5 Try.underlying66 size5 A' rest.length c' (rest.length) (by omega) w
      gi_wp2_with fail
      refine wpIn_quiet_tail_drewN 7 (by kernel_rfl) (by kernel_rfl) ?_
      simp only [List.take_succ_cons, List.take_zero, List.drop_succ_cons, List.drop_zero]
      repeat (go_big_quiet_step (fail))
      refine wpQuiet_nil ?_
      intro nq
      gi_wp2_with fail
      refine ⟨trivial, (CallsIn.inRound l0 (callsIn_wide.2 (put_step (m := rest.length) HP.out.1 (hm3.symm.trans HX.out.1) (by rw [List.length_map]; omega) hde hpe HS.out ⟨by omega, by omega⟩ nq))).mono ?_⟩
      rintro e W2 ⟨rfl, hL⟩
      have HL2 := hide (hL.of_draw)
      clear hL
      have hz := HZ.out
      have hnF : ∀ j, s0 ≤ j → ¬ F j := fun j hj hF => by have := HZ.out.2.1 j hF; omega
      have hsm : ∀ j, s0 ≤ j → j < W0.heap.size → W2.heap[j]? = W.heap[j]? := fun j h1 h2 => HP.out.1.same HL2.out h2 (hnF j h1)
      have c6' := (World.cell?_of_block (a := ⟨s0 + 1 + 1, 0, none⟩) (hsm (s0 + 1 + 1) (by omega) (by omega))).trans hc6
      have f6' := (World.frozen?_of_block (a := ⟨s0 + 1 + 1, 0, none⟩) (hsm (s0 + 1 + 1) (by omega) (by omega))).trans hf6
      have c8' := (World.cell?_of_block (a := ⟨s0 + 1 + 1 + 1, 0, none⟩) (hsm (s0 + 1 + 1 + 1) (by omega) (by omega))).trans hc8
      have f8' := (World.frozen?_of_block (a := ⟨s0 + 1 + 1 + 1, 0, none⟩) (hsm (s0 + 1 + 1 + 1) (by omega) (by omega))).trans hf8
      have c4' := (World.cell?_of_block (a := ⟨s0, 0, none⟩) (hsm s0 (by omega) (by omega))).trans hc4
      have c10' := (World.cell?_of_block (a := ⟨w3.heap.size, 0, none⟩) (hsm w3.heap.size (by omega) (by omega))).trans hc10
      have HSM := hide (And.intro hsm (And.intro hnF (And.intro c4' c10')))
      clear hsm hnF hz c4' c10' hs1
      by_cases h0 : (Dk.write (fst + ((secF rs x : Nat) : Int)) (rest.take 64)).1 = 0
      · rw [h0]
        have H0 := hide h0
        clear h0
        dsimp only
        gi_wp2_with fail
        obtain ⟨F2, hnext⟩ := PutAt.next HP.out.1 HL2.out H0.out HX.out.1 HS.out ⟨by have := HZ.out; omega, by omega⟩ (HSM.out.2.1 (s0 + 1 + 1) (by omega))
        rw [← HA2.out.1, ← HA2.out.2.1, ← HA2.out.2.2] at hnext
        have hz1 := HZ.out.1
        have hz3 := HZ.out.2.2.1
        have hz4 := HZ.out.2.2.2
        have hz5 := HBW.out.size
        refine ⟨(HL2.out.keeps HP.out.1.dev |>.trans (KeepsOthers.setCell _ _ _)).from _, (HL2.out.keepsI (S := fun k => F k ∨ k = s0 + 1 + 1 ∨ k = s0 + 1 + 1 + 1) HP.out.1.dev HP.out.1.foot (fun _ h => .inl h)).trans (KeepsI.setCell (.inr (.inl rfl)) (by show s0 + 1 + 1 < _; omega) _ _), ⟨F2, (Dk.write (fst + ((secF rs x : Nat) : Int)) (rest.take 64)).2, A2, C2, rest.drop 64, ?_⟩, ⟨?_, ?_, ?_, ?_⟩, ?_⟩
        · rw [List.map_append]
          exact hnext
        · rw [World.cell?_setCell_other _ _ _ _ (fun e => by simp at e)]
          exact HSM.out.2.2.1
        · rw [World.cell?_setCell_other _ _ _ _ (fun e => by simp at e)]
          exact HSM.out.2.2.2
        · rw [World.cell?_setCell_other _ _ _ _ (fun e => by simp at e)]
          exact c8'
        · rw [World.frozen?_setCell]
          exact f8'
        · exact putTurned (p := ⟨s0 + 1 + 1, 0, none⟩) HP.out.2 HP.out.1 HL2.out (by show w.heap.size ≤ s0 + 1 + 1; omega) _
      · obtain ⟨E, hE⟩ : ∃ E, E = (Dk.write (fst + ((secF rs x : Nat) : Int)) (rest.take 64)).1 := ⟨_, rfl⟩
        rw [← hE] at h0 ⊢
        have H0 := hide (And.intro h0 hE)
        have h0b : (E != 0) = true := by simpa using h0
        clear hE h0
        dsimp only
        gi_wp2_with fail
        obtain ⟨F2, d1, d2, d3⟩ := HL2.out
        have hz1 := HZ.out.1
        have hz3 := HZ.out.2.2.1
        have hz4 := HZ.out.2.2.2
        have hz5 := HBW.out.size
        have hsz := HP.out.1.sz
        have hnF2 : ¬ F2 (s0 + 1 + 1 + 1) := fun h => by
          rcases d3 _ h with h | h
          · rcases HP.out.1.foot _ h with h | h
            · exact HSM.out.2.1 _ (by omega) h
            · omega
          · omega
        refine ⟨(HL2.out.keeps HP.out.1.dev |>.trans (KeepsOthers.setCell _ _ _)).from _, ⟨rfl, Dk.write (fst + ((secF rs x : Nat) : Int)) (rest.take 64), fun Q => ?_, ⟨F2, d1.keep fun k _ hk => Below.heap_setCell _ _ _ _ (fun e => hnF2 (by have e : k = s0 + 1 + 1 + 1 := e; rw [← e]; exact hk)), fun k hk => ?_⟩, ?_⟩, ?_⟩
        · rw [List.map_append, List.append_assoc, HP.out.1.law]
          show writeS Dk fst rest (secF rs x :: Q) = _
          rw [writeS, if_neg (by rw [← H0.out.2]; exact H0.out.1)]
        · rcases d3 k hk with h | h
          · exact HP.out.1.foot k h
          · exact .inr (by omega)
        · rw [← H0.out.2]
          exact World.cell?_setCell_same' _ _ _ (by rw [c8']; rfl)
        · exact putTurned (p := ⟨s0 + 1 + 1 + 1, 0, none⟩) HP.out.2 HP.out.1 HL2.out (by show w.heap.size ≤ s0 + 1 + 1 + 1; omega) _
    · have q1 : ¬ (rest.length : Int) ≤ 64 := by omega
      have hm3 : m = 64 := by omega
      clear hm2
      have hs1 : ∀ w, (Instr.sliceAt 66 (.slice A' rest.length c') none (some (.int .i64 64)) none).run Try.prog w = .ok (.slice A' m c') w := fun w => by
        rw [hm3]
        exact run_slice_to (P := Try.prog) 66 5 Try.underlying66 size5 A' rest.length c' (64) (by omega) w
      have hs2 : ∀ w, (Instr.sliceAt 66 (.slice A' rest.length c') (some (.int .i64 64)) none none).run Try.prog w = .ok (.slice A2 L2 C2) w := fun w => by
        rw [HA2.out.1, HA2.out.2.1, HA2.out.2.2, hm3]
        exact run_sliceAt_from (P := Try.prog) 66 5 Try.underlying66 size5 A' rest.length c' (64) (by omega) w
      gi_wp2_with fail
      refine wpIn_quiet_tail_drewN 7 (by kernel_rfl) (by kernel_rfl) ?_
      simp only [List.take_succ_cons, List.take_zero, List.drop_succ_cons, List.drop_zero]
      repeat (go_big_quiet_step (fail))
      refine wpQuiet_nil ?_
      intro nq
      gi_wp2_with fail
      refine ⟨trivial, (CallsIn.inRound l0 (callsIn_wide.2 (put_step (m := 64) HP.out.1 (hm3.symm.trans HX.out.1) (by rw [List.length_map]; omega) hde hpe HS.out ⟨by omega, by omega⟩ nq))).mono ?_⟩
      rintro e W2 ⟨rfl, hL⟩
      have HL2 := hide (hL.of_draw)
      clear hL
      have hz := HZ.out
      have hnF : ∀ j, s0 ≤ j → ¬ F j := fun j hj hF => by have := HZ.out.2.1 j hF; omega
      have hsm : ∀ j, s0 ≤ j → j < W0.heap.size → W2.heap[j]? = W.heap[j]? := fun j h1 h2 => HP.out.1.same HL2.out h2 (hnF j h1)
      have c6' := (World.cell?_of_block (a := ⟨s0 + 1 + 1, 0, none⟩) (hsm (s0 + 1 + 1) (by omega) (by omega))).trans hc6
      have f6' := (World.frozen?_of_block (a := ⟨s0 + 1 + 1, 0, none⟩) (hsm (s0 + 1 + 1) (by omega) (by omega))).trans hf6
      have c8' := (World.cell?_of_block (a := ⟨s0 + 1 + 1 + 1, 0, none⟩) (hsm (s0 + 1 + 1 + 1) (by omega) (by omega))).trans hc8
      have f8' := (World.frozen?_of_block (a := ⟨s0 + 1 + 1 + 1, 0, none⟩) (hsm (s0 + 1 + 1 + 1) (by omega) (by omega))).trans hf8
      have c4' := (World.cell?_of_block (a := ⟨s0, 0, none⟩) (hsm s0 (by omega) (by omega))).trans hc4
      have c10' := (World.cell?_of_block (a := ⟨w3.heap.size, 0, none⟩) (hsm w3.heap.size (by omega) (by omega))).trans hc10
      have HSM := hide (And.intro hsm (And.intro hnF (And.intro c4' c10')))
      clear hsm hnF hz c4' c10' hs1
      by_cases h0 : (Dk.write (fst + ((secF rs x : Nat) : Int)) (rest.take 64)).1 = 0
      · rw [h0]
        have H0 := hide h0
        clear h0
        dsimp only
        gi_wp2_with fail
        obtain ⟨F2, hnext⟩ := PutAt.next HP.out.1 HL2.out H0.out HX.out.1 HS.out ⟨by have := HZ.out; omega, by omega⟩ (HSM.out.2.1 (s0 + 1 + 1) (by omega))
        rw [← HA2.out.1, ← HA2.out.2.1, ← HA2.out.2.2] at hnext
        have hz1 := HZ.out.1
        have hz3 := HZ.out.2.2.1
        have hz4 := HZ.out.2.2.2
        have hz5 := HBW.out.size
        refine ⟨(HL2.out.keeps HP.out.1.dev |>.trans (KeepsOthers.setCell _ _ _)).from _, (HL2.out.keepsI (S := fun k => F k ∨ k = s0 + 1 + 1 ∨ k = s0 + 1 + 1 + 1) HP.out.1.dev HP.out.1.foot (fun _ h => .inl h)).trans (KeepsI.setCell (.inr (.inl rfl)) (by show s0 + 1 + 1 < _; omega) _ _), ⟨F2, (Dk.write (fst + ((secF rs x : Nat) : Int)) (rest.take 64)).2, A2, C2, rest.drop 64, ?_⟩, ⟨?_, ?_, ?_, ?_⟩, ?_⟩
        · rw [List.map_append]
          exact hnext
        · rw [World.cell?_setCell_other _ _ _ _ (fun e => by simp at e)]
          exact HSM.out.2.2.1
        · rw [World.cell?_setCell_other _ _ _ _ (fun e => by simp at e)]
          exact HSM.out.2.2.2
        · rw [World.cell?_setCell_other _ _ _ _ (fun e => by simp at e)]
          exact c8'
        · rw [World.frozen?_setCell]
          exact f8'
        · exact putTurned (p := ⟨s0 + 1 + 1, 0, none⟩) HP.out.2 HP.out.1 HL2.out (by show w.heap.size ≤ s0 + 1 + 1; omega) _
      · obtain ⟨E, hE⟩ : ∃ E, E = (Dk.write (fst + ((secF rs x : Nat) : Int)) (rest.take 64)).1 := ⟨_, rfl⟩
        rw [← hE] at h0 ⊢
        have H0 := hide (And.intro h0 hE)
        have h0b : (E != 0) = true := by simpa using h0
        clear hE h0
        dsimp only
        gi_wp2_with fail
        obtain ⟨F2, d1, d2, d3⟩ := HL2.out
        have hz1 := HZ.out.1
        have hz3 := HZ.out.2.2.1
        have hz4 := HZ.out.2.2.2
        have hz5 := HBW.out.size
        have hsz := HP.out.1.sz
        have hnF2 : ¬ F2 (s0 + 1 + 1 + 1) := fun h => by
          rcases d3 _ h with h | h
          · rcases HP.out.1.foot _ h with h | h
            · exact HSM.out.2.1 _ (by omega) h
            · omega
          · omega
        refine ⟨(HL2.out.keeps HP.out.1.dev |>.trans (KeepsOthers.setCell _ _ _)).from _, ⟨rfl, Dk.write (fst + ((secF rs x : Nat) : Int)) (rest.take 64), fun Q => ?_, ⟨F2, d1.keep fun k _ hk => Below.heap_setCell _ _ _ _ (fun e => hnF2 (by have e : k = s0 + 1 + 1 + 1 := e; rw [← e]; exact hk)), fun k hk => ?_⟩, ?_⟩, ?_⟩
        · rw [List.map_append, List.append_assoc, HP.out.1.law]
          show writeS Dk fst rest (secF rs x :: Q) = _
          rw [writeS, if_neg (by rw [← H0.out.2]; exact H0.out.1)]
        · rcases d3 k hk with h | h
          · exact HP.out.1.foot k h
          · exact .inr (by omega)
        · rw [← H0.out.2]
          exact World.cell?_setCell_same' _ _ _ (by rw [c8']; rfl)
        · exact putTurned (p := ⟨s0 + 1 + 1 + 1, 0, none⟩) HP.out.2 HP.out.1 HL2.out (by show w.heap.size ≤ s0 + 1 + 1 + 1; omega) _
  case done =>
    rintro D' ys W hD rfl ⟨⟨F', Dk, A', c', rest, hP⟩, ⟨hc4, hc10, hc8, hf8⟩, hT⟩ hK
    have hlaw := hP.law []
    rw [List.append_nil, secF_range rs _ (Nat.le_refl _), List.take_length] at hlaw
    have hde2 := hP.de
    have hpe2 := hP.pend
    rw [List.length_map, List.length_range] at hde2 hpe2
    have hlt4 := World.block_lt_of_cell? W _ hc4
    have hsz := hP.sz
    have HP := hide (And.intro hP (And.intro hT hlaw))
    clear hP hT hlaw
    go_wp2_with fail
    refine (flush_any W HP.out.1.dev (by omega) (by omega)).mono ?_
    rintro e W2 ⟨rfl, hL⟩
    have hz1 := HZ.out.1
    have hz3 := HZ.out.2.2.1
    have hz4 := HZ.out.2.2.2
    have hz5 := HBW.out.size
    have hnF : ¬ F (s0 + 1 + 1 + 1) := fun h => by have := HZ.out.2.1 _ h; omega
    have e8 := HP.out.1.same hL (j := s0 + 1 + 1 + 1) (by omega) hnF
    have c8' := (World.cell?_of_block (a := ⟨s0 + 1 + 1 + 1, 0, none⟩) e8).trans hc8
    have f8' := (World.frozen?_of_block (a := ⟨s0 + 1 + 1 + 1, 0, none⟩) e8).trans hf8
    have hK2 := (hL.keeps HP.out.1.dev).same D' _ hK rfl
    have HL2 := hide (And.intro hL hK2)
    clear hL e8 hnF hK2 hz1 hz3 hz4 hz5
    dsimp only
    go_wp2_with fail
    have hz1 := HZ.out.1
    have hz3 := HZ.out.2.2.1
    have hz4 := HZ.out.2.2.2
    have hz5 := HBW.out.size
    obtain ⟨F2, d1, d2, d3⟩ := HL2.out.1
    have hnF2 : ¬ F2 (s0 + 1 + 1 + 1) := fun h => by
      rcases d3 _ h with h | h
      · rcases HP.out.1.foot _ h with h | h
        · have := HZ.out.2.1 _ h; omega
        · omega
      · omega
    have hnD : ¬ F2 D' := fun h => by
      obtain ⟨cs, t, h1, _⟩ := d1.types h
      rw [HL2.out.2] at h1
      cases h1
    have hK5 : (W2.setCell ⟨s0 + 1 + 1 + 1, 0, none⟩ (.int .i64 Dk.flush.1)).heap[D']? = some (.deferred (some [])) := (KeepsOthers.setCell _ _ _).same D' _ HL2.out.2 rfl
    have hlaw : writeS D (firstS l a d) bs (pos rs) = Dk.flush := by rw [← HFS.out]; exact HP.out.2.2
    refine wfinD (R := PutQ F q (writeS D (firstS l a d) bs (pos rs)) w) ?hg1 (World.cell?_setCell_same' _ _ _ (by rw [c8']; rfl)) hK5 ?hg2
    case hg1 => rfl
    rw [hlaw]
    refine ⟨rfl, ?_⟩
    refine ⟨F2, d1.keep fun k _ hk => (World.putObj_heap_other (fun e => hnD (by rw [← e]; exact hk))).trans (Below.heap_setCell _ _ _ _ (fun e => hnF2 (by have e : k = s0 + 1 + 1 + 1 := e; rw [← e]; exact hk))), ?_, fun k hk => ?_⟩
    · have ht := putTurned (p := ⟨s0 + 1 + 1 + 1, 0, none⟩) HP.out.2.1 HP.out.1 HL2.out.1 (by show w.heap.size ≤ s0 + 1 + 1 + 1; omega) (.int .i64 Dk.flush.1)
      exact ⟨ht.os, ht.tape, ht.output, by have := ht.size; simpa using this, fun k hk hF => (World.putObj_heap_other (by omega)).trans (ht.block k hk hF)⟩
    · rcases d3 k hk with h | h
      · rcases HP.out.1.foot k h with h | h
        · exact .inl h
        · exact .inr (by omega)
      · exact .inr (by omega)
  case stop =>
    rintro D' c' pre W hD ⟨k, hk, rfl⟩ ⟨⟨rfl, r, hlaw, ⟨F', hdv, hft⟩, hc8⟩, hT⟩ hK
    refine wpIn_wide.2 ?_
    have HP := hide (And.intro hlaw (And.intro hdv (And.intro hft hT)))
    clear hlaw hdv hft hT
    go_wp2_with fail
    have hz4 := HZ.out.2.2.2
    have hz5 := HBW.out.size
    obtain ⟨hlaw, hdv, hft, hT⟩ := HP.out
    have hl2 : writeS D (firstS l a d) bs (pos rs) = r := by
      have := hlaw ((pos rs).drop (k + 1))
      rw [secF_range rs _ (by omega), List.take_append_drop] at this
      rw [← HFS.out]
      exact this
    have hnD : ¬ F' D' := fun h => by
      obtain ⟨cs, t, h1, _⟩ := hdv.types h
      rw [hK] at h1
      cases h1
    refine wfinD (R := PutQ F q (writeS D (firstS l a d) bs (pos rs)) w) ?hg3 hc8 hK ?hg4
    case hg3 => rfl
    rw [hl2]
    refine ⟨rfl, ?_⟩
    refine ⟨F', hdv.keep fun k _ hk => World.putObj_heap_other (fun e => hnD (by rw [← e]; exact hk)), ⟨hT.os, hT.tape, hT.output, by have := hT.size; simpa using this, fun k hk hF => (World.putObj_heap_other (by omega)).trans (hT.block k hk hF)⟩, fun k hk => ?_⟩
    rcases hft k hk with h | h
    · exact .inl h
    · exact .inr (by omega)
theorem bwrite_any {D : Dv} {F : Nat → Prop} {q : Nat} (l a d : Int) (h64 : rightP l a d → d ≤ 64) (bs : List UInt8) (hbs : bs.length ≤ 1000000) (A : Option Addr) (cap : Nat) (hcap : bs.length ≤ cap) (Ar : Option Addr) (cr : Nat) (rs : List Run) (hlen : rs.length ≤ 1000000) (w : World)
    (hd : DevAt w F q D) (hde : D.de ≤ 900000000) (hpe : D.pend.length ≤ 90000) (hrs : RunsM w w.heap.size (.slice Ar rs.length cr) rs) (hsep : ∀ ad, Ar = some ad → 0 < rs.length → ¬ F ad.block)
    (hs : Src w A bs.length cap (bv bs)) (hsb : ∀ ad, A = some ad → 0 < bs.length → ¬ F ad.block) :
    Calls Try.prog 35 #[.pointer (some ⟨q, 0, none⟩), .agg #[.int .i64 l, .int .i64 a, .int .i64 d], .slice A bs.length cap, .slice Ar rs.length cr] w (PutQ F q (D.put l a d bs rs) w) := by
  by_cases hE : suitsE D.kept.length l a d bs.length rs = 0
  · rw [Dv.put, if_pos hE]
    have hap : apartP l a d rs := by
      by_cases h : apartP l a d rs
      · exact h
      · rw [suitsE, if_neg (fun h2 => h h2.1)] at hE
        cases hE
    exact bwrite_in l a d (h64 hap.1) bs hbs A cap hcap Ar cr rs hlen w hd hde hpe hrs hsep hs hsb hE
  · rw [Dv.put, if_neg hE]
    have hE2 : suitsE D.kept.length l a d bs.length rs = 2 := by
      rw [suitsE] at hE ⊢
      split at hE
      · exact absurd rfl hE
      · rename_i h
        rw [if_neg h]
    rw [hE2]
    obtain ⟨w1, hw1⟩ : ∃ w1, w1 = (((w.alloc (.cells #[.pointer (some ⟨q, 0, none⟩)] 69)).alloc (.cells #[.int .i64 l, .int .i64 a, .int .i64 d] 64)).alloc (.cells #[.slice A bs.length cap] 66)).alloc (.cells #[.int .i64 0] 34) := ⟨_, rfl⟩
    have b8 : Blk w1 (w.heap.size + 1 + 1 + 1) 34 #[.int .i64 0] := by
      rw [hw1]
      have := Blk.new (((w.alloc (.cells #[.pointer (some ⟨q, 0, none⟩)] 69)).alloc (.cells #[.int .i64 l, .int .i64 a, .int .i64 d] 64)).alloc (.cells #[.slice A bs.length cap] 66)) 34 #[.int .i64 0]
      rwa [size_alloc, size_alloc, size_alloc] at this
    have hb1 : Below w.heap.size w w1 := by rw [hw1]; exact ((((Below.refl _ w).alloc (Nat.le_refl _) _).al _).al _).al _
    have HD := hide (And.intro hd hrs)
    have H1 := hide (And.intro b8 hb1)
    clear hd hrs hs hsep hsb hE b8 hb1
    go_enter Try.func35, Try.ntmps35
    go_wp2_with fail
    rw [← hw1]
    have HW1 := hide hw1
    clear hw1
    refine (suits_any l a d h64 (bs.length : Int) (by omega) _ rs hlen w1 (HD.out.2.below H1.out.2) (HD.out.1.keep fun k hk _ => H1.out.2.block k hk)).mono ?_
    rintro e w2 ⟨rfl, hb2⟩
    rw [hE2]
    have h8 := H1.out.1.below hb2 H1.out.1.lt
    have c8 := h8.cell 0
    have f8 := h8.frozen 0
    have hlt8 := h8.lt
    have H2 := hide (And.intro h8 (H1.out.2.next hb2))
    clear hb2 H1 HW1 h8
    dsimp only
    go_wp2_with fail
    have hc := World.cell?_setCell_same' w2 ⟨w.heap.size + 1 + 1 + 1, 0, none⟩ (.int .i64 2) (by rw [c8]; rfl)
    refine bodyPost_ret (v := .int .i64 2) (by simp [results, Try.f35, go_sem, hc]) rfl ⟨rfl, ?_⟩
    have hB := H2.out.2.setCell (p := ⟨w.heap.size + 1 + 1 + 1, 0, none⟩) (by show w.heap.size ≤ w.heap.size + 1 + 1 + 1; omega) (.int .i64 2)
    exact ⟨F, HD.out.1.keep fun k hk _ => hB.block k hk, Turned.of_below hB F, fun k hk => .inl hk⟩
end Go.Proofs.Ytfppddnfdinipaa
end
section
namespace Go.Proofs.Ytfppddnfdinipaa
open Go Go.RowKit Go.Shelf
attribute [local go_sem] Oper.semAt_some
set_option maxRecDepth 100000
/-- what sectors hold, one behind the other -/
def Dv.gather (D : Dv) (fst : Nat) (ps : List Nat) : List UInt8 := (ps.map fun p => D.read (fst + p)).flatten
def Dv.get (D : Dv) (l a d n : Int) (rs : List Run) : Int × List UInt8 :=
  if suitsE D.kept.length l a d n rs = 0 then (if D.dn = true ∧ pos rs ≠ [] then (10, []) else (0, (D.gather (firstS l a d).toNat (pos rs)).take n.toNat)) else (suitsE D.kept.length l a d n rs, [])
def GetQ (r : Int × List UInt8) (w : World) (e : Ending) (w' : World) : Prop := ∃ o, e = .returned (.tuple #[o, .int .i64 r.1]) ∧ w'.ownsRow w.heap.size 5 1 o r.2.length (bv r.2) ∧ Below w.heap.size w w'
theorem secF_ltd {rs : List Run} {d : Int} (h : ∀ r ∈ rs, okRun d r) (hd : 1 ≤ d) (x : Nat) : (secF rs x : Int) < d := by
  unfold secF
  rw [List.getD]
  cases hx : (pos rs)[x]? with
  | none => show ((0 : Nat) : Int) < d; omega
  | some y => exact pos_lt h y (List.mem_of_getElem? hx)
theorem rfinD {tmps : Array Value} {B B2 D : Nat} {W : World} {v u : Value} {R : Ending → World → Prop} (h4 : tmps.getD 8 undef = .pointer (some ⟨B, 0, none⟩)) (h5 : tmps.getD 9 undef = .pointer (some ⟨B2, 0, none⟩)) (hc : W.cell? ⟨B, 0, none⟩ = some v) (hc2 : W.cell? ⟨B2, 0, none⟩ = some u) (hK : W.heap[D]? = some (.deferred (some []))) (hR : R (.returned (.tuple #[v, u])) (W.putObj D (.deferred none))) :
    bodyPostM Fence.wide 5 Try.prog Try.f39 R .ret { tmps := tmps, defers := [{ target := .collected D, args := #[] }] } W := by
  have h4' : tmps[8]?.getD undef = .pointer (some ⟨B, 0, none⟩) := by simpa using h4
  have h5' : tmps[9]?.getD undef = .pointer (some ⟨B2, 0, none⟩) := by simpa using h5
  have hc' := cell_kept hc (grownBy_putObj' _ D (.deferred none)) (fun r e => by cases e; exact ⟨_, hK, rfl⟩)
  have hc2' := cell_kept hc2 (grownBy_putObj' _ D (.deferred none)) (fun r e => by cases e; exact ⟨_, hK, rfl⟩)
  exact ⟨by simp, .inl ⟨_, _, rfl, run_takeDeferred hK, .tuple #[v, u], by simp [results, Try.f39, go_sem, h4', h5', hc', hc2'], hR⟩⟩
theorem own_keeps {W W2 : World} {v : Value} {m n₀ : Nat} {xs : List Value} {S : Nat → Prop} (ho : W.ownsRow n₀ 5 1 v m xs) (hg : W.grownBy W2 v.ownBlock) : KeepsOthers W W2 ∧ KeepsI S n₀ W W2 := by
  have key : ∀ k, v.ownBlock = some k → n₀ ≤ k ∧ ∃ cs, W.heap[k]? = some (.cells cs 5 (0, 0)) := by
    intro k hk
    rcases owned_formN ho with ⟨rfl, _⟩ | ⟨g', cap', cur, rfl, h1, _, _, hh, _⟩
    · cases hk
    · have hk : some g' = some k := hk
      injection hk with hk
      subst hk
      exact ⟨h1, _, hh⟩
  refine ⟨⟨hg.size, fun k o hk hc => (hg.block k (Array.getElem?_eq_some_iff.1 hk).1 fun e => ?_).trans hk⟩, ⟨hg.size, fun k o hn _ hk _ => (hg.block k (Array.getElem?_eq_some_iff.1 hk).1 fun e => ?_).trans hk, fun k cs fr hn hk => (hg.block k (Array.getElem?_eq_some_iff.1 hk).1 fun e => ?_).trans hk⟩⟩
  · obtain ⟨_, cs, h2⟩ := key k e.symm
    rw [hk] at h2
    injection h2 with h2
    subst h2
    cases hc
  · have := (key k e.symm).1
    omega
  · obtain ⟨_, cs', h2⟩ := key k e.symm
    rw [hk] at h2
    injection h2 with h2
    injection h2 with _ h2
    exact absurd h2 (by decide)
theorem gather_one (D : Dv) (fst : Nat) (ps : List Nat) (p : Nat) : D.gather fst (ps ++ [p]) = D.gather fst ps ++ D.read (fst + p) := by simp [Dv.gather]
set_option maxHeartbeats 1000000 in
theorem bread_in {D : Dv} {F : Nat → Prop} {q : Nat} (l a d n : Int) (h64 : d ≤ 64) (hn : -9223372036854775808 ≤ n ∧ n ≤ 9223372036854775807) (Ar : Option Addr) (cr : Nat) (rs : List Run) (hlen : rs.length ≤ 1000000) (w : World)
    (hd : DevAt w F q D) (hpe : D.pend.length ≤ 90000) (hrs : RunsM w w.heap.size (.slice Ar rs.length cr) rs) (hE : suitsE D.kept.length l a d n rs = 0) :
    Calls Try.prog 39 #[.pointer (some ⟨q, 0, none⟩), .agg #[.int .i64 l, .int .i64 a, .int .i64 d], .int .i64 n, .slice Ar rs.length cr] w (GetQ (D.get l a d n rs) w) := by
  have hsu : apartP l a d rs ∧ 0 ≤ n ∧ ((pos rs).length : Int) = needP n ∧ secs l a d ≤ (D.kept.length : Int) := by
    by_cases h : apartP l a d rs ∧ 0 ≤ n ∧ ((pos rs).length : Int) = needP n ∧ secs l a d ≤ (D.kept.length : Int)
    · exact h
    · rw [suitsE, if_neg h] at hE
      cases hE
  obtain ⟨hap, hn0, hneed, hsec⟩ := hsu
  obtain ⟨m, rfl⟩ : ∃ m : Nat, n = (m : Int) := ⟨n.toNat, by omega⟩
  have hR := hap.1
  have hfst : 0 ≤ firstS l a d ∧ firstS l a d ≤ 8192 ∧ firstS l a d + d = secs l a d := by
    have h1 := hR.1
    have h2 := hR.2.1
    have h3 := hR.2.2.1
    have h4 := hR.2.2.2
    rw [firstS, if_pos hR, secs, if_pos hR]
    unfold inW at h1 h2 h3
    omega
  have hd1 := apart_d hap
  have hcnt := apart_count hap
  have hN : (pos rs).length ≤ 64 := by omega
  have HD := hide (And.intro hd (And.intro hrs (And.intro hE (And.intro hap (And.intro hneed hsec)))))
  clear hd hrs hE hap hR hneed hsec
  refine (callsIn_wide (n := 5)).1 ?_
  refine callsIn_of_wp_marks Try.func39 rfl trivial ?_ rfl
  simp only [Try.ntmps39, List.size_toArray, List.length_cons, List.length_nil, Nat.reduceAdd, Nat.reduceSub, Array.replicate_succ, Array.replicate_zero, List.push_toArray, List.append_toArray, List.nil_append, List.cons_append]
  refine wpIn_wide.2 ?_
  obtain ⟨w1, hw1⟩ : ∃ w1, w1 = (((w.alloc (.cells #[.pointer (some ⟨q, 0, none⟩)] 69)).alloc (.cells #[.int .i64 l, .int .i64 a, .int .i64 d] 64)).alloc (.cells #[.slice none 0 0] 66)).alloc (.cells #[.int .i64 0] 34) := ⟨_, rfl⟩
  have b4 : Blk w1 w.heap.size 69 #[.pointer (some ⟨q, 0, none⟩)] := by rw [hw1]; exact (((Blk.new w _ _).alloc _).alloc _).alloc _
  have b5 : Blk w1 (w.heap.size + 1) 64 #[.int .i64 l, .int .i64 a, .int .i64 d] := by
    rw [hw1]
    have := ((Blk.new (w.alloc (.cells #[.pointer (some ⟨q, 0, none⟩)] 69)) 64 #[.int .i64 l, .int .i64 a, .int .i64 d]).alloc (.cells #[.slice none 0 0] 66)).alloc (.cells #[.int .i64 0] 34)
    rwa [size_alloc] at this
  have b6 : Blk w1 (w.heap.size + 1 + 1) 66 #[.slice none 0 0] := by
    rw [hw1]
    have := (Blk.new ((w.alloc (.cells #[.pointer (some ⟨q, 0, none⟩)] 69)).alloc (.cells #[.int .i64 l, .int .i64 a, .int .i64 d] 64)) 66 #[.slice none 0 0]).alloc (.cells #[.int .i64 0] 34)
    rwa [size_alloc, size_alloc] at this
  have b8 : Blk w1 (w.heap.size + 1 + 1 + 1) 34 #[.int .i64 0] := by
    rw [hw1]
    have := Blk.new (((w.alloc (.cells #[.pointer (some ⟨q, 0, none⟩)] 69)).alloc (.cells #[.int .i64 l, .int .i64 a, .int .i64 d] 64)).alloc (.cells #[.slice none 0 0] 66)) 34 #[.int .i64 0]
    rwa [size_alloc, size_alloc, size_alloc] at this
  have hb1 : Below w.heap.size w w1 := by rw [hw1]; exact ((((Below.refl _ w).alloc (Nat.le_refl _) _).al _).al _).al _
  have H1 := hide (And.intro b4 (And.intro b5 (And.intro b6 (And.intro b8 hb1))))
  clear b4 b5 b6 b8 hb1
  go_wp2_with fail
  rw [← hw1]
  have HW1 := hide hw1
  clear hw1
  refine (suits_any l a d (fun _ => h64) (m : Int) hn _ rs hlen w1 (HD.out.2.1.below H1.out.2.2.2.2) (HD.out.1.keep fun k hk _ => H1.out.2.2.2.2.block k hk)).mono ?_
  rintro e w2 ⟨rfl, hb2⟩
  rw [HD.out.2.2.1]
  have H2 := hide (And.intro (H1.out.1.below hb2 H1.out.1.lt) (And.intro (H1.out.2.1.below hb2 H1.out.2.1.lt) (And.intro (H1.out.2.2.1.below hb2 H1.out.2.2.1.lt) (And.intro (H1.out.2.2.2.1.below hb2 H1.out.2.2.2.1.lt) (H1.out.2.2.2.2.next hb2)))))
  have c0 := H2.out.2.1.cell 0
  have c1 := H2.out.2.1.cell 1
  have c2 := H2.out.2.1.cell 2
  have hlt := H2.out.2.1.lt
  clear hb2 HW1 H1
  dsimp only
  go_wp2_with fail
  refine (lfirst_any l a d w2).mono ?_
  rintro e w3 ⟨rfl, hb3⟩
  have H3 := hide (And.intro (H2.out.1.below hb3 H2.out.1.lt) (And.intro (H2.out.2.2.1.below hb3 H2.out.2.2.1.lt) (And.intro (H2.out.2.2.2.1.below hb3 H2.out.2.2.2.1.lt) (H2.out.2.2.2.2.next hb3))))
  clear hb3 c0 c1 c2 hlt H2
  obtain ⟨fst, hfs⟩ : ∃ fst : Nat, (fst : Int) = firstS l a d := ⟨(firstS l a d).toNat, by omega⟩
  rw [← hfs] at hfst ⊢
  have HFS := hide hfs
  clear hfs
  dsimp only
  go_wp2_with fail
  refine (each_any _ _ _ _).mono ?_
  rintro e W0 ⟨rfl, hW0⟩
  obtain ⟨s0, hs0⟩ : ∃ s0, s0 = w.heap.size := ⟨_, rfl⟩
  have e4 : W0.heap.size = w3.heap.size + 1 + 1 := by rw [hW0, size_alloc, size_alloc]
  have hb0 : Below w3.heap.size w3 W0 := by rw [hW0]; exact ((Below.refl _ w3).alloc (Nat.le_refl _) _).al _
  have hB10 : Blk W0 w3.heap.size 3 #[.int .i64 (fst : Int)] := by rw [hW0]; exact (Blk.new w3 _ _).alloc _
  have hBd : Blk W0 (w3.heap.size + 1) 73 #[.slice Ar rs.length cr] := by
    rw [hW0]
    have := Blk.new (w3.alloc (.cells #[.int .i64 (fst : Int)] 3)) 73 #[.slice Ar rs.length cr]
    rwa [size_alloc] at this
  have h3 := H3.out
  rw [← hs0] at h3
  have hB4 := h3.1.below hb0 h3.1.lt
  have hB6 := h3.2.1.below hb0 h3.2.1.lt
  have hB8 := h3.2.2.1.below hb0 h3.2.2.1.lt
  have hbw : Below w.heap.size w W0 := by rw [← hs0]; exact (show Below w.heap.size w w3 by rw [← hs0]; exact h3.2.2.2).next hb0 |> fun h => by rwa [hs0]
  have hlt8 := h3.2.2.1.lt
  clear h3
  rw [← hs0]
  have cells : 0 < rs.length → ∃ b off, Ar = some ⟨b, off, none⟩ ∧ b < W0.heap.size ∧ ¬ (b = s0 + 1 + 1 ∨ b = s0 + 1 + 1 + 1) ∧ ∀ j r, rs[j]? = some r → W0.cell? ⟨b, off + j * 2, none⟩ = some (.int .i64 r.1) ∧ W0.cell? ⟨b, off + j * 2 + 1, none⟩ = some (.int .i64 r.2) := by
    intro h
    obtain ⟨A', cp', hv, _, _, hA, _⟩ := HD.out.2.1
    injection hv with e1 _ _
    subst e1
    obtain ⟨b, off, e1, e2, e3⟩ := hA h
    refine ⟨b, off, e1, by omega, by omega, fun j r hj => ⟨(hbw.cell (p := ⟨b, off + j * 2, none⟩) e2).trans (e3 j r hj).1, (hbw.cell (p := ⟨b, off + j * 2 + 1, none⟩) e2).trans (e3 j r hj).2⟩⟩
  have HI := hide (And.intro (And.intro (hB6.cell 0) (hB6.frozen 0)) (And.intro (hB4.cell 0) (And.intro (hB10.cell 0) (And.intro (hB8.cell 0) (hB8.frozen 0)))))
  have HC := hide (And.intro cells (And.intro HD.out.2.2.2.1 (hBd.cell 0)))
  have HZ := hide (And.intro e4 (And.intro hlt8 hs0))
  have HBW := hide hbw
  clear hs0 e4 hb0 hB10 hBd hB4 hB6 hB8 hbw hlt8 cells H3 hW0
  rw [size_alloc]
  dsimp only
  go_wp2_with fail
  refine (wpIn_wide (n := 5)).1 ?_
  refine wpIn_rangeFunc_ownG (F := Fence.wide) (n := 5) (α := Nat) rfl (by omega) (gf := 122) (lb := #[.pointer (some ⟨w3.heap.size + 1, 0, none⟩)]) rfl trivial (enters_of Try.func122 (by kernel_rfl) rfl)
    (each_stops (n₀ := W0.heap.size) (S := fun k => k = s0 + 1 + 1 ∨ k = s0 + 1 + 1 + 1) Fence.wide 4 trivial rfl (by omega) (w3.heap.size + 1) cr Ar rs hlen (fun r hr => by have := HC.out.2.1.2.1 r hr; unfold okRun at this; omega) W0 (Nat.le_refl _) (by have := HZ.out.1; omega) HC.out.2.2 HC.out.1) KeepsI.trans (KeepsI.putObj (Nat.le_refl _)) (Below.refl _ _) (fun _ => rfl)
    (fun pre W => ((D.dn = true → pre = []) ∧ W0.heap.size ≤ W.heap.size ∧ ∃ v, W.cell? ⟨s0 + 1 + 1, 0, none⟩ = some v ∧ W.frozen? ⟨s0 + 1 + 1, 0, none⟩ = false ∧ W.ownsRow W0.heap.size 5 1 v (64 * pre.length) (bv (D.gather fst (pre.map (secF rs))))) ∧ (W.cell? ⟨s0, 0, none⟩ = some (.pointer (some ⟨q, 0, none⟩)) ∧ W.cell? ⟨w3.heap.size, 0, none⟩ = some (.int .i64 (fst : Int)) ∧ W.cell? ⟨s0 + 1 + 1 + 1, 0, none⟩ = some (.int .i64 0) ∧ W.frozen? ⟨s0 + 1 + 1 + 1, 0, none⟩ = false) ∧ Below w.heap.size w W)
    (fun c pre W => (c = .ret ∧ D.dn = true ∧ W.cell? ⟨s0 + 1 + 1, 0, none⟩ = some (.slice none 0 0) ∧ W.cell? ⟨s0 + 1 + 1 + 1, 0, none⟩ = some (.int .i64 10)) ∧ Below w.heap.size w W)
    ?ownI ?ownX ⟨⟨fun _ => rfl, Nat.le_refl _, .slice none 0 0, HI.out.1.1, HI.out.1.2, World.ownsRow_nil _ _ _ _⟩, HI.out.2, HBW.out⟩
    (fun x => { tmps := #[.pointer (some ⟨q, 0, none⟩), .agg #[.int .i64 l, .int .i64 a, .int .i64 d], .int .i64 (m : Int), .slice Ar rs.length cr, .pointer (some ⟨s0, 0, none⟩), .pointer (some ⟨s0 + 1, 0, none⟩), undef, undef, .pointer (some ⟨s0 + 1 + 1, 0, none⟩), .pointer (some ⟨s0 + 1 + 1 + 1, 0, none⟩), .int .i64 0, .pointer (some ⟨w3.heap.size, 0, none⟩), .int .i64 ((secF rs x : Nat) : Int), undef, undef, .pointer (some ⟨q, 0, none⟩), .agg #[.int .i64 l, .int .i64 a, .int .i64 d], .int .i64 (m : Int), .slice Ar rs.length cr, .int .i64 0, .int .i64 0, .bool false, undef, .agg #[.int .i64 l, .int .i64 a, .int .i64 d], .int .i64 (fst : Int), .slice Ar rs.length cr, .func (.func 122) #[] #[.pointer (some ⟨w3.heap.size + 1, 0, none⟩)], .int .i64 ((secF rs x : Nat) : Int), undef, undef, undef, undef, undef, undef, undef, undef, undef, undef, undef, undef, undef, undef, undef, undef, undef], defers := [] }) ?assign ?body ?done ?stop
  case ownI =>
    refine OwnFrom.and (Own.from (fun pre X Y row hs hg hr => ?_) _) (OwnFrom.and (Own.from (fun pre X Y row hs hg hr => ⟨cell_kept hs.1 hg hr, cell_kept hs.2.1 hg hr, cell_kept hs.2.2.1 hg hr, (frozen_kept hs.2.2.1 hg hr).trans hs.2.2.2⟩) _) (ownFrom_below (Nat.le_refl _) (by have := HBW.out.size; exact this)))
    obtain ⟨h1, h2, v, h3, h4, h5⟩ := hs
    exact ⟨h1, Nat.le_trans h2 hg.size, v, cell_kept h3 hg hr, (frozen_kept h3 hg hr).trans h4, own_grown h5 hg hr⟩
  case ownX =>
    intro c
    refine OwnFrom.and (Own.from (fun pre X Y row hs hg hr => ?_) _) (ownFrom_below (Nat.le_refl _) (by have := HBW.out.size; exact this))
    obtain ⟨h1, h2, h3, h4⟩ := hs
    exact ⟨h1, h2, cell_kept h3 hg hr, cell_kept h4 hg hr⟩
  case assign =>
    intro l y W K hK
    dsimp only [posE]
    gi_wp2
    exact hK
  case body =>
    rintro l0 pre x W ⟨⟨hdp, hsz, v, hc8, hf8, ho⟩, ⟨hc4, hc11, hc9, hf9⟩, hB⟩ hlen2
    have hx := secF_lt HC.out.2.1.2.1 h64 x
    have hxd := secF_ltd HC.out.2.1.2.1 hd1.1 x
    have n1 : (0 : Int) ≤ (fst : Int) := by omega
    have n2 : (fst : Int) ≤ 8192 := hfst.2.1
    have n3 : (0 : Int) ≤ ((secF rs x : Nat) : Int) := by omega
    have n4 : ((secF rs x : Nat) : Int) < 64 := by omega
    have hdev : DevAt W F q D := HD.out.1.keep fun k hk _ => hB.block k hk
    have HW := hide (And.intro hdp (And.intro hsz (And.intro ho (And.intro hB hdev))))
    clear hdp hsz ho hB hdev hxd
    by_cases hdn : D.dn = true
    · gi_wp2_with fail
      refine ⟨trivial, (CallsIn.inRound l0 (callsIn_wide.2 (read_down ((fst : Int) + ((secF rs x : Nat) : Int)) W HW.out.2.2.2.2 hdn))).mono ?_⟩
      rintro e W1 ⟨rfl, hb1⟩
      have c8' := (hb1.cell (p := ⟨s0 + 1 + 1, 0, none⟩) (World.block_lt_of_cell? W _ hc8)).trans hc8
      have f8' := (hb1.frozen (p := ⟨s0 + 1 + 1, 0, none⟩) (World.block_lt_of_cell? W _ hc8)).trans hf8
      have c9' := (hb1.cell (p := ⟨s0 + 1 + 1 + 1, 0, none⟩) (World.block_lt_of_cell? W _ hc9)).trans hc9
      have f9' := (hb1.frozen (p := ⟨s0 + 1 + 1 + 1, 0, none⟩) (World.block_lt_of_cell? W _ hc9)).trans hf9
      have H1 := hide hb1
      clear hb1
      dsimp only
      gi_wp2_with fail
      refine ⟨((keepsFrom_below H1.out).trans ((KeepsOthers.setCell _ _ _).from _)).trans ((KeepsOthers.setCell _ _ _).from _), ⟨rfl, hdn, ?_, ?_⟩, ?_⟩
      · rw [World.cell?_setCell_other _ _ _ _ (fun e => by simp at e)]
        exact World.cell?_setCell_same' _ _ _ (by rw [c8']; rfl)
      · exact World.cell?_setCell_same' _ _ _ (by rw [World.cell?_setCell_other _ _ _ _ (fun e => by simp at e), c9']; rfl)
      · have hz := HZ.out.2.2
        exact ((HW.out.2.2.2.1.next H1.out).setCell (p := ⟨s0 + 1 + 1, 0, none⟩) (by show w.heap.size ≤ s0 + 1 + 1; omega) _).setCell (p := ⟨s0 + 1 + 1 + 1, 0, none⟩) (by show w.heap.size ≤ s0 + 1 + 1 + 1; omega) _
    · have hdn' : D.dn = false := by simpa using hdn
      have hlt : fst + secF rs x < D.kept.length := by
        have h1 := HD.out.2.2.2.2.2
        have h2 := secF_ltd HC.out.2.1.2.1 hd1.1 x
        have h3 := hfst.2.2
        omega
      have hr := readDev_any (fst + secF rs x) hlt W HW.out.2.2.2.2 hdn' (by omega)
      rw [Int.natCast_add] at hr
      have hpl : pre.length < 64 := by omega
      gi_wp2_with fail
      refine ⟨trivial, (CallsIn.inRound l0 (callsIn_wide.2 hr)).mono ?_⟩
      rintro e W1 ⟨vb, rfl, hob, hb1⟩
      obtain ⟨kb, cb, rfl⟩ := owned_placeN hob (by omega)
      obtain ⟨i, hi, hz0, hz1, hz2⟩ := info_parts info_u8
      have hov : W1.ownsRow W0.heap.size 5 1 v (64 * pre.length) (bv (D.gather fst (pre.map (secF rs)))) := owned_keepN HW.out.2.2.1 fun k _ hl => hb1.block k hl
      have c8' := (hb1.cell (p := ⟨s0 + 1 + 1, 0, none⟩) (World.block_lt_of_cell? W _ hc8)).trans hc8
      have f8' := (hb1.frozen (p := ⟨s0 + 1 + 1, 0, none⟩) (World.block_lt_of_cell? W _ hc8)).trans hf8
      have c9' := (hb1.cell (p := ⟨s0 + 1 + 1 + 1, 0, none⟩) (World.block_lt_of_cell? W _ hc9)).trans hc9
      have f9' := (hb1.frozen (p := ⟨s0 + 1 + 1 + 1, 0, none⟩) (World.block_lt_of_cell? W _ hc9)).trans hf9
      have c4' := (hb1.cell (p := ⟨s0, 0, none⟩) (World.block_lt_of_cell? W _ hc4)).trans hc4
      have c11' := (hb1.cell (p := ⟨w3.heap.size, 0, none⟩) (World.block_lt_of_cell? W _ hc11)).trans hc11
      have h64b : (D.read (fst + secF rs x)).length = 64 := by
        have := hob.1
        rwa [bvL] at this
      have H1 := hide (And.intro hb1 (And.intro hov (And.intro hob h64b)))
      have HCC := hide (And.intro c4' (And.intro c11' (And.intro c9' f9')))
      clear hb1 hov hob h64b c4' c11' c9' f9' hr hlt
      dsimp only
      gi_wp2_with (gi_at_builtin; refine wpListIn_append_own _ rfl _ _ 66 rfl W0.heap.size 5 i (.int .u8 0) 1 1 Try.underlying66 hi hz0 hz1 hz2 rfl (by omega) v (64 * pre.length) (bv (D.gather fst (pre.map (secF rs)))) rfl H1.out.2.1 ⟨kb, 0, none⟩ 64 cb (bv (D.read (fst + secF rs x))) rfl ?a0 ?a1 ?a2 ?a3 ?a4 ?a5 ?_)
      case a0 => rw [bvL, H1.out.2.2.2]
      case a1 =>
        have hs := owned_src0 (l := D.read (fst + secF rs x)) (A := some ⟨kb, 0, none⟩) (cap := cb) (by rw [H1.out.2.2.2]; exact H1.out.2.2.1)
        exact hs.cells _ rfl
      case a2 => exact bv1 _
      case a3 => simp only [maxLen]; omega
      case a4 => omega
      case a5 => have := HW.out.2.1; have := H1.out.1.size; omega
      intro v' W2 ho2 hg2 _
      obtain ⟨A2, cc2, rfl⟩ := owned_slice ho2
      have hkp := own_keeps (S := fun k => k = s0 + 1 + 1 ∨ k = s0 + 1 + 1 + 1) H1.out.2.1 hg2
      have hne : ∀ k, k < W0.heap.size → v.ownBlock ≠ some k := fun k hk e => by have := (owned_ltN H1.out.2.1 e).1; omega
      have hz1 := HZ.out.1
      have hz3 := HZ.out.2.1
      have hb2 : Below w.heap.size W1 W2 := ⟨hg2.os, hg2.tape, hg2.output, hg2.size, fun k hk => hg2.block k (by have := H1.out.1.size; have := HW.out.2.2.2.1.size; omega) fun e => hne k (by have := HBW.out.size; omega) e.symm⟩
      have hsm : ∀ k, k < W0.heap.size → k < W1.heap.size → W2.heap[k]? = W1.heap[k]? := fun k hk hl => hg2.block k hl fun e => hne k hk e.symm
      have hl8 := World.block_lt_of_cell? W1 _ c8'
      have c8'' := (World.cell?_of_block (a := ⟨s0 + 1 + 1, 0, none⟩) (hsm (s0 + 1 + 1) (by omega) hl8)).trans c8'
      have f8'' := (World.frozen?_of_block (a := ⟨s0 + 1 + 1, 0, none⟩) (hsm (s0 + 1 + 1) (by omega) hl8)).trans f8'
      have H2 := hide (And.intro hkp (And.intro hb2 (And.intro hsm ho2)))
      clear hkp hne hb2 hsm ho2 hg2 c8' f8' hl8 hz1 hz3
      gi_wp2_with fail
      obtain ⟨hkp, hb2, hsm, ho2⟩ := H2.out
      have hz1 := HZ.out.1
      have hz3 := HZ.out.2.1
      have hz4 := HZ.out.2.2
      have hz5 := HBW.out.size
      have hw1s : W0.heap.size ≤ W1.heap.size := Nat.le_trans HW.out.2.1 H1.out.1.size
      refine ⟨((keepsFrom_below H1.out.1).trans (hkp.1.from _)).trans ((KeepsOthers.setCell _ _ _).from _), ((KeepsI.below H1.out.1).trans hkp.2).trans (KeepsI.setCell (.inl rfl) (by show s0 + 1 + 1 < _; omega) _ _), ⟨fun h => absurd h hdn, ?_, .slice A2 (64 * pre.length + 64) cc2, ?_, ?_, ?_⟩, ⟨?_, ?_, ?_, ?_⟩, ?_⟩
      · have := hb2.size
        simp
        omega
      · exact World.cell?_setCell_same' _ _ _ (by rw [c8'']; rfl)
      · rw [World.frozen?_setCell]
        exact f8''
      · rw [List.map_append, List.map_cons, List.map_nil, gather_one, List.length_append, List.length_singleton, show 64 * (pre.length + 1) = 64 * pre.length + 64 by omega, show bv (D.gather fst (pre.map (secF rs)) ++ D.read (fst + secF rs x)) = bv (D.gather fst (pre.map (secF rs))) ++ bv (D.read (fst + secF rs x)) by simp [bv]]
        exact owned_keepN ho2 fun k hk _ => Below.heap_setCell _ _ _ _ (fun e => by
          have h1 := (owned_ltN ho2 hk).1
          have e : k = s0 + 1 + 1 := e
          omega)
      · rw [World.cell?_setCell_other _ _ _ _ (fun e => by simp at e), World.cell?_of_block (hsm s0 (by omega) (by omega))]
        exact HCC.out.1
      · rw [World.cell?_setCell_other _ _ _ _ (fun e => by
          have e : w3.heap.size = s0 + 1 + 1 := by first | exact congrArg Addr.block e | exact (congrArg Addr.block e).symm
          omega), World.cell?_of_block (hsm w3.heap.size (by omega) (by omega))]
        exact HCC.out.2.1
      · rw [World.cell?_setCell_other _ _ _ _ (fun e => by simp at e), World.cell?_of_block (hsm (s0 + 1 + 1 + 1) (by omega) (by omega))]
        exact HCC.out.2.2.1
      · rw [World.frozen?_setCell, World.frozen?_of_block (hsm (s0 + 1 + 1 + 1) (by omega) (by omega))]
        exact HCC.out.2.2.2
      · exact ((HW.out.2.2.2.1.next H1.out.1).trans hb2).setCell (p := ⟨s0 + 1 + 1, 0, none⟩) (by show w.heap.size ≤ s0 + 1 + 1; omega) _
  case done =>
    rintro D' ys W hD rfl ⟨⟨hdp, hsz, v, hc8, hf8, ho⟩, ⟨hc4, hc11, hc9, hf9⟩, hB⟩ hK
    rw [List.length_range, secF_range rs _ (Nat.le_refl _), List.take_length] at ho
    obtain ⟨A1, cc1, rfl⟩ := owned_slice ho
    have hml : m ≤ 64 * (pos rs).length := by
      have h := HD.out.2.2.2.2.1
      rw [needP] at h
      split at h <;> omega
    have hmc : m ≤ cc1 := by
      rcases owned_form ho with ⟨e, h0, _⟩ | ⟨g, cap, cur, e, _, h2, _⟩
      · omega
      · injection e with _ _ e
        omega
    have hs1 := run_slice_to (P := Try.prog) 66 5 Try.underlying66 size5 A1 (64 * (pos rs).length) cc1 m hmc
    have HW := hide (And.intro hdp (And.intro hsz (And.intro ho (And.intro hB hml))))
    clear hdp hsz ho hB hml hmc
    go_wp2_with fail
    obtain ⟨hdp, hsz, ho, hB, hml⟩ := HW.out
    have hz1 := HZ.out.1
    have hz3 := HZ.out.2.1
    have hz4 := HZ.out.2.2
    have hz5 := HBW.out.size
    have hDW : D' < W.heap.size := (Array.getElem?_eq_some_iff.1 hK).1
    have hK5 : ((W.setCell ⟨s0 + 1 + 1, 0, none⟩ (.slice A1 m cc1)).setCell ⟨s0 + 1 + 1 + 1, 0, none⟩ (.int .i64 0)).heap[D']? = some (.deferred (some [])) := (KeepsOthers.setCell _ _ _).same D' _ ((KeepsOthers.setCell _ _ _).same D' _ hK rfl) rfl
    have hglen : (D.gather fst (pos rs)).length = 64 * (pos rs).length := by
      have h := ho.1
      rw [bvL] at h
      omega
    have hfs : (firstS l a d).toNat = fst := by rw [← HFS.out]; exact Int.toNat_natCast fst
    have hget : D.get l a d m rs = (0, (D.gather fst (pos rs)).take m) := by
      rw [Dv.get, if_pos HD.out.2.2.1, if_neg, hfs, Int.toNat_natCast]
      rintro ⟨h1, h2⟩
      have h3 := hdp h1
      have h4 := congrArg List.length h3
      rw [List.length_range] at h4
      exact h2 (List.eq_nil_of_length_eq_zero h4)
    have hA : ((W.setCell ⟨s0 + 1 + 1, 0, none⟩ (.slice A1 m cc1)).setCell ⟨s0 + 1 + 1 + 1, 0, none⟩ (.int .i64 0)).cell? ⟨s0 + 1 + 1, 0, none⟩ = some (.slice A1 m cc1) := by
      rw [World.cell?_setCell_other _ _ _ _ (fun e => by simp at e)]
      exact World.cell?_setCell_same' _ _ _ (by rw [hc8]; rfl)
    have hA2 : ((W.setCell ⟨s0 + 1 + 1, 0, none⟩ (.slice A1 m cc1)).setCell ⟨s0 + 1 + 1 + 1, 0, none⟩ (.int .i64 0)).cell? ⟨s0 + 1 + 1 + 1, 0, none⟩ = some (.int .i64 0) :=
      World.cell?_setCell_same' _ _ _ (by rw [World.cell?_setCell_other _ _ _ _ (fun e => by simp at e), hc9]; rfl)
    refine rfinD (R := GetQ (D.get l a d m rs) w) ?hg1 ?hg2 hA hA2 hK5 ?hg3
    case hg1 => rfl
    case hg2 => rfl
    rw [hget]
    have hcut : W.ownsRow W0.heap.size 5 1 (.slice A1 m cc1) m (bv ((D.gather fst (pos rs)).take m)) := by
      have e : bv ((D.gather fst (pos rs)).take m) = (bv (D.gather fst (pos rs))).take m := by simp [bv, List.map_take]
      rw [e]
      rcases owned_form ho with ⟨e, h0, h2⟩ | ⟨g, cap, cur, e, _⟩
      · injection e with e1 e2 e3
        subst e1 e3
        obtain rfl : m = 0 := by omega
        rw [List.take_zero]
        exact World.ownsRow_nil _ _ _ _
      · injection e with e1 e2 e3
        subst e1 e3
        exact own_cut ho hml
    have hlt : ((D.gather fst (pos rs)).take m).length = m := by rw [List.length_take]; omega
    refine ⟨.slice A1 m cc1, rfl, ?_, ?_⟩
    · show (_ : World).ownsRow _ _ _ _ ((D.gather fst (pos rs)).take m).length _
      rw [hlt]
      refine owned_baseN (owned_keepN hcut fun k hk _ => ?_) fun k hk => by have := (owned_ltN hcut hk).1; omega
      have h1 := (owned_ltN hcut hk).1
      have hnD : k ≠ D' := fun e => by
        rcases owned_form hcut with ⟨e2, _⟩ | ⟨g, cap, cur, e2, _, _, _, hh, _⟩
        · rw [e2] at hk
          cases hk
        · rw [e2] at hk
          have hk : some g = some k := hk
          injection hk with hk
          subst hk
          rw [e] at hh
          have hh : W.heap[D']? = _ := hh
          rw [hK] at hh
          cases hh
      exact (World.putObj_heap_other hnD).trans ((Below.heap_setCell _ _ _ _ (by show k ≠ s0 + 1 + 1 + 1; omega)).trans (Below.heap_setCell _ _ _ _ (by show k ≠ s0 + 1 + 1; omega)))
    · exact ((hB.setCell (p := ⟨s0 + 1 + 1, 0, none⟩) (by show w.heap.size ≤ s0 + 1 + 1; omega) _).setCell (p := ⟨s0 + 1 + 1 + 1, 0, none⟩) (by show w.heap.size ≤ s0 + 1 + 1 + 1; omega) _).grown (grownBy_putObj' _ D' (.deferred none)) (by have := hB.size; simp; omega) (fun k e => by cases e; omega)
  case stop =>
    rintro D' c' pre W hD ⟨k, hk, rfl⟩ ⟨⟨rfl, hdn, hc8, hc9⟩, hB⟩ hK
    refine wpIn_wide.2 ?_
    have HB := hide hB
    clear hB
    go_wp2_with fail
    have hz5 := HBW.out.size
    have hget : D.get l a d m rs = (10, []) := by
      rw [Dv.get, if_pos HD.out.2.2.1, if_pos]
      refine ⟨hdn, fun h => ?_⟩
      rw [h] at hk
      simp at hk
    refine rfinD (R := GetQ (D.get l a d m rs) w) ?hg4 ?hg5 hc8 hc9 hK ?hg6
    case hg4 => rfl
    case hg5 => rfl
    rw [hget]
    exact ⟨.slice none 0 0, rfl, World.ownsRow_nil _ _ _ _, HB.out.grown (grownBy_putObj' _ D' (.deferred none)) HB.out.size (fun k e => by cases e; omega)⟩
theorem bread_any {D : Dv} {F : Nat → Prop} {q : Nat} (l a d n : Int) (h64 : rightP l a d → d ≤ 64) (hn : -9223372036854775808 ≤ n ∧ n ≤ 9223372036854775807) (Ar : Option Addr) (cr : Nat) (rs : List Run) (hlen : rs.length ≤ 1000000) (w : World)
    (hd : DevAt w F q D) (hpe : D.pend.length ≤ 90000) (hrs : RunsM w w.heap.size (.slice Ar rs.length cr) rs) :
    Calls Try.prog 39 #[.pointer (some ⟨q, 0, none⟩), .agg #[.int .i64 l, .int .i64 a, .int .i64 d], .int .i64 n, .slice Ar rs.length cr] w (GetQ (D.get l a d n rs) w) := by
  by_cases hE : suitsE D.kept.length l a d n rs = 0
  · have hap : apartP l a d rs := by
      by_cases h : apartP l a d rs
      · exact h
      · rw [suitsE, if_neg (fun h2 => h h2.1)] at hE
        cases hE
    exact bread_in l a d n (h64 hap.1) hn Ar cr rs hlen w hd hpe hrs hE
  · have hE2 : suitsE D.kept.length l a d n rs = 2 := by
      rw [suitsE] at hE ⊢
      split at hE
      · exact absurd rfl hE
      · rename_i h
        rw [if_neg h]
    rw [Dv.get, if_neg hE, hE2]
    obtain ⟨w1, hw1⟩ : ∃ w1, w1 = (((w.alloc (.cells #[.pointer (some ⟨q, 0, none⟩)] 69)).alloc (.cells #[.int .i64 l, .int .i64 a, .int .i64 d] 64)).alloc (.cells #[.slice none 0 0] 66)).alloc (.cells #[.int .i64 0] 34) := ⟨_, rfl⟩
    have b6 : Blk w1 (w.heap.size + 1 + 1) 66 #[.slice none 0 0] := by
      rw [hw1]
      have := (Blk.new ((w.alloc (.cells #[.pointer (some ⟨q, 0, none⟩)] 69)).alloc (.cells #[.int .i64 l, .int .i64 a, .int .i64 d] 64)) 66 #[.slice none 0 0]).alloc (.cells #[.int .i64 0] 34)
      rwa [size_alloc, size_alloc] at this
    have b8 : Blk w1 (w.heap.size + 1 + 1 + 1) 34 #[.int .i64 0] := by
      rw [hw1]
      have := Blk.new (((w.alloc (.cells #[.pointer (some ⟨q, 0, none⟩)] 69)).alloc (.cells #[.int .i64 l, .int .i64 a, .int .i64 d] 64)).alloc (.cells #[.slice none 0 0] 66)) 34 #[.int .i64 0]
      rwa [size_alloc, size_alloc, size_alloc] at this
    have hb1 : Below w.heap.size w w1 := by rw [hw1]; exact ((((Below.refl _ w).alloc (Nat.le_refl _) _).al _).al _).al _
    have HD := hide (And.intro hd hrs)
    have H1 := hide (And.intro b6 (And.intro b8 hb1))
    clear hd hrs hE b6 b8 hb1
    go_enter Try.func39, Try.ntmps39
    go_wp2_with fail
    rw [← hw1]
    have HW1 := hide hw1
    clear hw1
    refine (suits_any l a d h64 n hn _ rs hlen w1 (HD.out.2.below H1.out.2.2) (HD.out.1.keep fun k hk _ => H1.out.2.2.block k hk)).mono ?_
    rintro e w2 ⟨rfl, hb2⟩
    rw [hE2]
    have h6 := H1.out.1.below hb2 H1.out.1.lt
    have h8 := H1.out.2.1.below hb2 H1.out.2.1.lt
    have c6 := h6.cell 0
    have f6 := h6.frozen 0
    have c8 := h8.cell 0
    have f8 := h8.frozen 0
    have hlt6 := h6.lt
    have hlt8 := h8.lt
    have H2 := hide (H1.out.2.2.next hb2)
    clear hb2 H1 HW1 h6 h8
    dsimp only
    go_wp2_with fail
    have hA : ((w2.setCell ⟨w.heap.size + 1 + 1, 0, none⟩ (.slice none 0 0)).setCell ⟨w.heap.size + 1 + 1 + 1, 0, none⟩ (.int .i64 2)).cell? ⟨w.heap.size + 1 + 1, 0, none⟩ = some (.slice none 0 0) := by
      rw [World.cell?_setCell_other _ _ _ _ (fun e => by simp at e)]
      exact World.cell?_setCell_same' _ _ _ (by rw [c6]; rfl)
    have hA2 : ((w2.setCell ⟨w.heap.size + 1 + 1, 0, none⟩ (.slice none 0 0)).setCell ⟨w.heap.size + 1 + 1 + 1, 0, none⟩ (.int .i64 2)).cell? ⟨w.heap.size + 1 + 1 + 1, 0, none⟩ = some (.int .i64 2) :=
      World.cell?_setCell_same' _ _ _ (by rw [World.cell?_setCell_other _ _ _ _ (fun e => by simp at e), c8]; rfl)
    refine bodyPost_ret (v := .tuple #[.slice none 0 0, .int .i64 2]) (by simp [results, Try.f39, go_sem, hA, hA2]) rfl ⟨.slice none 0 0, rfl, World.ownsRow_nil _ _ _ _, ?_⟩
    exact (H2.out.setCell (p := ⟨w.heap.size + 1 + 1, 0, none⟩) (by show w.heap.size ≤ w.heap.size + 1 + 1; omega) _).setCell (p := ⟨w.heap.size + 1 + 1 + 1, 0, none⟩) (by show w.heap.size ≤ w.heap.size + 1 + 1 + 1; omega) _
end Go.Proofs.Ytfppddnfdinipaa
end
section
namespace Go.Proofs.Ytfppddnfdinipaa
open Go Go.RowKit
structure First (l a : Int) (D : Nat) (rs f : List Run) (n E : Nat) : Prop where
  count : (pos f).length = n
  apart : f.Pairwise fun p q => p.1 + p.2 < q.1
  ok : apartP l a D (rs ++ f)
  end_ : (lastR f).1 + (lastR f).2 = (E : Int)
  le : E ≤ D
  free : (freeTo rs E).length = n
  some_ : 0 < f.length
  each : ∀ r ∈ f, 0 ≤ r.1 ∧ 1 ≤ r.2 ∧ r.1 + r.2 ≤ (D : Int)
  len : f.length ≤ D
theorem GOk.le_end {l : List Run} {k : Nat} {t : List Nat} (h : GOk l k t) : ∀ x ∈ t, (x : Int) < (lastR l).1 + (lastR l).2 := by
  intro x hx
  rw [← h.pos] at hx
  obtain ⟨r, hr, hx⟩ := List.mem_flatMap.1 hx
  obtain ⟨j, hj, rfl⟩ := List.mem_map.1 hx
  have hj := List.mem_range.1 hj
  have he := h.each r hr
  rcases List.eq_nil_or_concat l with rfl | ⟨i, q, hl⟩
  · cases hr
  · rw [List.concat_eq_append] at hl
    subst hl
    rw [lastR_app]
    have hp := (List.pairwise_append.1 h.apart).2.2
    have hq := h.each q (by simp)
    rcases List.mem_append.1 hr with hr | hr
    · have := hp r hr q (by simp)
      omega
    · obtain rfl := List.mem_singleton.1 hr
      omega
theorem lastR_mem {l : List Run} (h : 0 < l.length) : lastR l ∈ l := by
  rcases List.eq_nil_or_concat l with rfl | ⟨i, q, hl⟩
  · simp at h
  · rw [List.concat_eq_append] at hl
    subst hl
    rw [lastR_app]
    simp
theorem first_of {l a : Int} {D : Nat} {rs : List Run} {n : Nat} (hap : apartP l a D rs) (h1 : 1 ≤ n) (hn : n ≤ (freeTo rs D).length) : ∃ E, First l a D rs (findP rs D n) n E := by
  obtain ⟨k, hk, he⟩ := findP_where D hn
  rw [findP_at hk he]
  have G := gok rs k
  have hlen : 0 < (grps (freeTo rs k)).length := by
    rcases Nat.eq_zero_or_pos (grps (freeTo rs k)).length with h0 | h0
    · have hp := G.pos
      rw [List.length_eq_zero_iff.1 h0] at hp
      rw [← hp] at he
      simp [Go.Proofs.Ytfppddnfdinipaa.pos] at he
      omega
    · exact h0
  have hlast := G.each _ (lastR_mem hlen)
  obtain ⟨E, hE⟩ : ∃ E : Nat, (lastR (grps (freeTo rs k))).1 + (lastR (grps (freeTo rs k))).2 = (E : Int) := ⟨((lastR (grps (freeTo rs k))).1 + (lastR (grps (freeTo rs k))).2).toNat, by omega⟩
  have hEk : E ≤ k := by omega
  refine ⟨E, by rw [G.pos]; exact he, G.apart, ⟨hap.1, fun r hr => ?_, ?_⟩, hE, by omega, ?_, hlen, fun r hr => ?_, Nat.le_trans G.len hk⟩
  · rcases List.mem_append.1 hr with hr | hr
    · exact hap.2.1 r hr
    · have := G.each r hr
      exact ⟨by omega, by omega, by omega, by omega⟩
  · rw [pos_app, G.pos, List.nodup_append]
    refine ⟨hap.2.2, nodup_freeTo rs k, fun x hx y hy e => ?_⟩
    subst e
    exact (mem_freeTo.1 hy).2 hx
  · have h1 := freeTo_len_le (rs := rs) hEk
    have h2 := nodup_sub (nodup_freeTo rs k) (b := freeTo rs E) fun x hx => by
      have := G.le_end x hx
      exact mem_freeTo.2 ⟨by omega, (mem_freeTo.1 hx).2⟩
    omega
  · have := G.each r hr
    omega
theorem First.rest {l a : Int} {D : Nat} {rs f : List Run} {n E : Nat} (h : First l a D rs f n E) (hap : apartP l a D rs) : (freeTo (rs ++ f) D).length + n = (freeTo rs D).length := by
  have h1 := apart_count h.ok
  have h2 := apart_count hap
  rw [Int.toNat_natCast] at h1 h2
  rw [pos_app, List.length_append, h.count] at h1
  omega
/-- one more sector -/
theorem apart_one {l a : Int} {D : Nat} {rs : List Run} (hap : apartP l a D rs) {x : Nat} (hx : x < D) : apartP l a D (rs ++ [((x : Int), 1)]) ↔ (pos rs).contains x = false := by
  have hp : pos (rs ++ [((x : Int), 1)]) = pos rs ++ [x] := by
    rw [pos_app]
    congr 1
  constructor
  · intro h
    have h2 := h.2.2
    rw [hp, List.nodup_append] at h2
    cases hc : (pos rs).contains x with
    | false => rfl
    | true => exact absurd rfl (h2.2.2 x (List.contains_iff_mem.1 hc) x (by simp))
  · intro h
    refine ⟨hap.1, fun r hr => ?_, ?_⟩
    · rcases List.mem_append.1 hr with hr | hr
      · exact hap.2.1 r hr
      · obtain rfl := List.mem_singleton.1 hr
        exact ⟨by omega, by omega, by omega, by omega⟩
    · rw [hp, List.nodup_append]
      refine ⟨hap.2.2, by simp, fun u hu v hv e => ?_⟩
      subst e
      have hv := List.mem_singleton.1 hv
      subst hv
      rw [List.contains_iff_mem.2 hu] at h
      cases h
/-- the ends and the numbers of the first runs -/
theorem lastR_take {f : List Run} {i : Nat} {r : Run} (h : f[i]? = some r) : lastR (f.take (i + 1)) = r := by
  obtain ⟨hi, he⟩ := List.getElem?_eq_some_iff.1 h
  rw [List.take_succ_eq_append_getElem hi, he, lastR_app]
theorem pair_next {f : List Run} (h : f.Pairwise fun p q => p.1 + p.2 < q.1) {i : Nat} {q : Run} (hi : 0 < i) (hq : f[i]? = some q) : (lastR (f.take i)).1 + (lastR (f.take i)).2 < q.1 := by
  obtain ⟨j, rfl⟩ : ∃ j, i = j + 1 := ⟨i - 1, by omega⟩
  obtain ⟨h1, h2⟩ := List.getElem?_eq_some_iff.1 hq
  have hj : f[j]? = some f[j] := List.getElem?_eq_getElem (by omega)
  rw [lastR_take hj, ← h2]
  exact List.pairwise_iff_getElem.1 h j (j + 1) (by omega) h1 (by omega)
end Go.Proofs.Ytfppddnfdinipaa
end
section
namespace Go.Proofs.Ytfppddnfdinipaa
open Go Go.RowKit
/-- the writes of some bytes -/
def putL (fst : Int) : List UInt8 → List Nat → List (Int × List UInt8)
  | _, [] => []
  | b, p :: ps => (fst + (p : Int), pad (b.take 64)) :: putL fst (b.drop 64) ps
def padL : List UInt8 → Nat → List UInt8
  | _, 0 => []
  | b, n + 1 => pad (b.take 64) ++ padL (b.drop 64) n
theorem padL_take : ∀ (n : Nat) (b : List UInt8), b.length ≤ 64 * n → (padL b n).take b.length = b
  | 0, b, h => by
    have : b = [] := List.eq_nil_of_length_eq_zero (by omega)
    subst this
    rfl
  | n + 1, b, h => by
    show (pad (b.take 64) ++ padL (b.drop 64) n).take b.length = b
    by_cases hb : b.length ≤ 64
    · rw [List.take_of_length_le hb, List.take_append_of_le_length (by rw [pad_len _ hb]; exact hb)]
      unfold pad
      rw [List.take_append_of_le_length (Nat.le_refl _), List.take_length]
    · have h1 : (b.take 64).length = 64 := by rw [List.length_take]; omega
      have h2 : (pad (b.take 64)) = b.take 64 := by unfold pad; rw [h1]; simp
      have h3 := padL_take n (b.drop 64) (by rw [List.length_drop]; omega)
      rw [h2, List.take_append, h1, List.take_of_length_le (by rw [h1]; omega), ← List.length_drop, h3, List.take_append_drop]
theorem kwrite_ok {D : Dv} (hd : D.dn = false) (hf : D.fu = 0) {x : Int} (hx : 0 ≤ x ∧ x < (D.kept.length : Int)) (l : List UInt8) (hl : l.length ≤ 64) : D.write x l = (0, { D with de := D.de + 1, pend := D.pend ++ [(x, pad l)] }) := by
  unfold Dv.write
  rw [hd, hf, if_neg (by simp), if_neg (by simp [hx, hl])]
  have e : tick D.de 0 false = (0, D.de + 1, 0, false) := by simp [tick]
  rw [e]
  cases D
  simp_all
theorem kflush_ok {D : Dv} (hd : D.dn = false) (hf : D.fu = 0) : D.flush = (0, { D with de := D.de + 1, kept := settleL (fun _ => true) 0 D.pend D.kept, pend := [] }) := by
  unfold Dv.flush
  rw [hd, hf, if_neg (by simp)]
  have e : tick D.de 0 false = (0, D.de + 1, 0, false) := by simp [tick]
  rw [e]
  cases D
  simp_all
theorem writeS_ok (fst : Int) : ∀ (ps : List Nat) (D : Dv) (b : List UInt8), D.dn = false → D.fu = 0 → (∀ p ∈ ps, 0 ≤ fst + (p : Int) ∧ fst + (p : Int) < (D.kept.length : Int)) →
    writeS D fst b ps = (0, { D with de := D.de + (ps.length : Int) + 1, kept := settleL (fun _ => true) 0 (D.pend ++ putL fst b ps) D.kept, pend := [] })
  | [], D, b, hd, hf, _ => by
    rw [writeS, kflush_ok hd hf]
    simp [putL]
  | p :: ps, D, b, hd, hf, hp => by
    have hw := kwrite_ok hd hf (hp p (by simp)) (b.take 64) (by rw [List.length_take]; omega)
    rw [writeS, hw]
    simp only [if_true]
    rw [writeS_ok fst ps { D with de := D.de + 1, pend := D.pend ++ [(fst + (p : Int), pad (b.take 64))] } (b.drop 64) hd hf (fun q hq => hp q (by simp [hq]))]
    simp only [putL, List.append_assoc, List.singleton_append, List.length_cons]
    congr 2
    omega
theorem settle_cons (k : Nat) (p : Int × List UInt8) (l : List (Int × List UInt8)) (K : List (List UInt8)) : settleL (fun _ => true) k (p :: l) K = settleL (fun _ => true) (k + 1) l (K.set p.1.toNat p.2) := by rw [settleL]; rfl
theorem settle_out (fst : Nat) (x : Nat) : ∀ (ps : List Nat) (b : List UInt8) (k : Nat) (K : List (List UInt8)), (∀ p ∈ ps, fst + p ≠ x) → (settleL (fun _ => true) k (putL fst b ps) K).getD x [] = K.getD x []
  | [], _, _, _, _ => rfl
  | p :: ps, b, k, K, h => by
    have h1 := h p (by simp)
    rw [putL, settle_cons, settle_out fst x ps _ _ _ (fun q hq => h q (by simp [hq]))]
    rw [List.getD_eq_getElem?_getD, List.getD_eq_getElem?_getD, List.getElem?_set_ne (by dsimp only; omega)]
theorem settle_in (fst : Nat) : ∀ (ps : List Nat) (b : List UInt8) (k : Nat) (K : List (List UInt8)), ps.Nodup → (∀ p ∈ ps, fst + p < K.length) → (ps.map fun p => (settleL (fun _ => true) k (putL fst b ps) K).getD (fst + p) []).flatten = padL b ps.length
  | [], _, _, _, _, _ => rfl
  | p :: ps, b, k, K, hn, h => by
    have h1 := h p (by simp)
    have hn' := List.nodup_cons.1 hn
    rw [putL, settle_cons, List.map_cons, List.flatten_cons, settle_in fst ps (b.drop 64) (k + 1) _ hn'.2 (fun q hq => by rw [List.length_set]; exact h q (by simp [hq]))]
    rw [settle_out fst (fst + p) ps _ _ _ (fun q hq e => hn'.1 (by rw [show p = q by omega]; exact hq))]
    rw [List.length_cons, padL]
    congr 1
    have e : ((fst : Int) + (p : Int)).toNat = fst + p := by omega
    rw [List.getD_eq_getElem?_getD]
    dsimp only
    rw [e, List.getElem?_set_self h1]
    rfl
/-- rows that are kept, and where -/
structure Kp (l a d : Int) (D : Dv) (st : List (List UInt8 × List Run)) : Prop where
  dn : D.dn = false
  fu : D.fu = 0
  pend : D.pend = []
  len : (D.kept.length : Int) = secs l a d
  ap : apartP l a d (st.flatMap (·.2))
  need : ∀ p ∈ st, ((pos p.2).length : Int) = needP p.1.length
  got : ∀ p ∈ st, (D.gather (firstS l a d).toNat (pos p.2)).take p.1.length = p.1
theorem gather_kept {D : Dv} (h : D.pend = []) (fst : Nat) (ps : List Nat) : D.gather fst ps = (ps.map fun p => D.kept.getD (fst + p) []).flatten := by
  unfold Dv.gather Dv.read
  rw [h]
  rfl
theorem needP_nat (n : Nat) : ∃ k : Nat, needP n = (k : Int) ∧ n ≤ 64 * k := by
  unfold needP
  split
  · exact ⟨0, rfl, by omega⟩
  · exact ⟨(((n : Int) - 1) / 64 + 1).toNat, by omega, by omega⟩
theorem suits_ok {K : Nat} {l a d : Int} {n : Nat} {rs : List Run} (hap : apartP l a d rs) (hn : ((pos rs).length : Int) = needP n) (hK : (K : Int) = secs l a d) : suitsE K l a d n rs = 0 := by
  unfold suitsE
  rw [if_pos ⟨hap, by omega, hn, by omega⟩]
theorem pos_flat {st : List (List UInt8 × List Run)} {p : List UInt8 × List Run} (h : p ∈ st) : ∀ x ∈ pos p.2, x ∈ pos (st.flatMap (·.2)) := by
  intro x hx
  unfold pos at hx ⊢
  obtain ⟨r, hr, hx⟩ := List.mem_flatMap.1 hx
  exact List.mem_flatMap.2 ⟨r, List.mem_flatMap.2 ⟨p, h, hr⟩, hx⟩
theorem Kp.each {l a d : Int} {D : Dv} {st : List (List UInt8 × List Run)} (h : Kp l a d D st) {p : List UInt8 × List Run} (hp : p ∈ st) : apartP l a d p.2 := by
  refine ⟨h.ap.1, fun r hr => h.ap.2.1 r (List.mem_flatMap.2 ⟨p, hp, hr⟩), ?_⟩
  have hn := h.ap.2.2
  obtain ⟨i, hi, rfl⟩ := List.getElem_of_mem hp
  have e : st = st.take i ++ (st[i] :: st.drop (i + 1)) := by rw [List.getElem_cons_drop, List.take_append_drop]
  rw [e, List.flatMap_append, List.flatMap_cons, pos_app, pos_app] at hn
  exact (List.nodup_append.1 (List.nodup_append.1 hn).2.1).1
theorem Kp.get {l a d : Int} {D : Dv} {st : List (List UInt8 × List Run)} (h : Kp l a d D st) {p : List UInt8 × List Run} (hp : p ∈ st) : D.get l a d p.1.length p.2 = (0, p.1) := by
  unfold Dv.get
  rw [if_pos (suits_ok (h.each hp) (h.need p hp) h.len), if_neg (by rw [h.dn]; simp), Int.toNat_natCast, h.got p hp]
theorem Kp.small {l a d : Int} {D : Dv} {st : List (List UInt8 × List Run)} (h : Kp l a d D st) (hd : d ≤ 64) {p : List UInt8 × List Run} (hp : p ∈ st) : p.1.length ≤ 4096 ∧ p.2.length ≤ 64 := by
  have hap := h.each hp
  have h1 := apart_count hap
  have h2 := pos_len_le p.2 fun r hr => (hap.2.1 r hr).2.2.1
  have h3 := h.need p hp
  obtain ⟨k, hk1, hk2⟩ := needP_nat p.1.length
  omega
/-- a row more -/
theorem Kp.put {l a d : Int} {D : Dv} {st : List (List UInt8 × List Run)} (h : Kp l a d D st) (b : List UInt8) (f : List Run) (hap : apartP l a d (st.flatMap (·.2) ++ f)) (hf : ((pos f).length : Int) = needP b.length) :
    (D.put l a d b f).1 = 0 ∧ Kp l a d (D.put l a d b f).2 (st ++ [(b, f)]) ∧ (D.put l a d b f).2.de = D.de + (pos f).length + 1 := by
  have hapf : apartP l a d f := ⟨hap.1, fun r hr => hap.2.1 r (by simp [hr]), by have := hap.2.2; rw [pos_app] at this; exact (List.nodup_append.1 this).2.1⟩
  obtain ⟨fst, hfst⟩ : ∃ fst : Nat, firstS l a d = (fst : Int) := by
    obtain ⟨⟨a1, a2⟩, ⟨b1, b2⟩, ⟨c1, c2⟩, h4⟩ := hap.1
    exact ⟨(1 + l + 2 * a).toNat, by rw [firstS, if_pos hap.1]; omega⟩
  have hsec : (fst : Int) + d = secs l a d := by
    rw [← hfst, firstS, if_pos hap.1, secs, if_pos hap.1]
  have hlen := h.len
  have hin : ∀ rs : List Run, (∀ r ∈ rs, okRun d r) → ∀ p ∈ pos rs, fst + p < D.kept.length := fun rs hr p hp => by
    have := pos_lt hr p hp
    omega
  have hput : D.put l a d b f = writeS D fst b (pos f) := by
    unfold Dv.put
    rw [if_pos (suits_ok hapf hf h.len), hfst]
  have hw := writeS_ok fst (pos f) D b h.dn h.fu (fun p hp => by have := hin f hapf.2.1 p hp; omega)
  rw [h.pend, List.nil_append] at hw
  rw [hput, hw]
  have hgo : ∀ ps : List Nat, Dv.gather { D with de := D.de + ((pos f).length : Int) + 1, kept := settleL (fun _ => true) 0 (putL fst b (pos f)) D.kept, pend := [] } fst ps = (ps.map fun p => (settleL (fun _ => true) 0 (putL fst b (pos f)) D.kept).getD (fst + p) []).flatten := fun ps => gather_kept rfl fst ps
  have hnd := hap.2.2
  rw [pos_app, List.nodup_append] at hnd
  refine ⟨rfl, ⟨h.dn, h.fu, rfl, by rw [settle_len]; exact h.len, by rw [List.flatMap_append]; simpa using hap, ?_, ?_⟩, rfl⟩
  · intro p hp
    rcases List.mem_append.1 hp with hp | hp
    · exact h.need p hp
    · obtain rfl := List.mem_singleton.1 hp
      exact hf
  · intro p hp
    rw [hfst, Int.toNat_natCast, hgo]
    rcases List.mem_append.1 hp with hp | hp
    · have h0 := h.got p hp
      rw [hfst, Int.toNat_natCast, gather_kept h.pend] at h0
      have e : ((pos p.2).map fun x => (settleL (fun _ => true) 0 (putL fst b (pos f)) D.kept).getD (fst + x) []) = (pos p.2).map fun x => D.kept.getD (fst + x) [] := by
        apply List.map_congr_left
        intro x hx
        refine settle_out fst (fst + x) (pos f) b 0 D.kept fun q hq e => ?_
        exact hnd.2.2 x (pos_flat hp x hx) q hq (by omega)
      rw [e]
      exact h0
    · obtain rfl := List.mem_singleton.1 hp
      rw [settle_in fst (pos f) b 0 D.kept hapf.2.2 (hin f hapf.2.1)]
      obtain ⟨k, hk1, hk2⟩ := needP_nat b.length
      refine padL_take _ _ ?_
      show b.length ≤ 64 * (pos f).length
      rw [hk1] at hf
      omega
/-- a row less -/
theorem Kp.drop {l a d : Int} {D : Dv} {st : List (List UInt8 × List Run)} (h : Kp l a d D st) (k : Nat) : Kp l a d D (st.eraseIdx k) := by
  have hsub : (st.eraseIdx k).Sublist st := List.eraseIdx_sublist st k
  refine ⟨h.dn, h.fu, h.pend, h.len, ⟨h.ap.1, fun r hr => h.ap.2.1 r ?_, ?_⟩, fun p hp => h.need p (hsub.mem hp), fun p hp => h.got p (hsub.mem hp)⟩
  · obtain ⟨p, hp, hr⟩ := List.mem_flatMap.1 hr
    exact List.mem_flatMap.2 ⟨p, hsub.mem hp, hr⟩
  · rcases Nat.lt_or_ge k st.length with hk | hk
    · have hn := h.ap.2.2
      have e : st = st.take k ++ (st[k] :: st.drop (k + 1)) := by rw [List.getElem_cons_drop, List.take_append_drop]
      rw [e, List.flatMap_append, List.flatMap_cons, pos_app, pos_app] at hn
      rw [List.eraseIdx_eq_take_drop_succ, List.flatMap_append, pos_app]
      exact hn.sublist (List.Sublist.append (List.Sublist.refl _) (List.sublist_append_right _ _))
    · rw [List.eraseIdx_of_length_le hk]
      exact h.ap.2.2
theorem Kp.start {l a d : Int} (hr : rightP l a d) : Kp l a d (Dv.new (secs l a d).toNat) [] := by
  refine ⟨rfl, rfl, rfl, ?_, ⟨hr, (fun r h => by cases h), List.nodup_nil⟩, (fun p h => by cases h), fun p h => by cases h⟩
  show ((List.replicate _ _).length : Int) = _
  rw [List.length_replicate, secs, if_pos hr]
  obtain ⟨⟨a1, a2⟩, ⟨b1, b2⟩, ⟨c1, c2⟩, h4⟩ := hr
  omega
/-- a crash, and what wakes behind it -/
theorem Kp.woken {l a d : Int} {D : Dv} {st : List (List UInt8 × List Run)} (h : Kp l a d D st) (x : Int) : Kp l a d (D.crash.2.wake x).2 st := by
  have e : (D.crash.2.wake x).2 = { de := D.de, fu := 0, dn := false, kept := D.kept, pend := [] } := by
    unfold Dv.crash
    rw [if_neg (by rw [h.dn]; simp)]
    unfold Dv.wake
    rw [if_pos rfl]
    dsimp only
    rw [h.pend]
    rfl
  rw [e]
  refine ⟨rfl, rfl, rfl, h.len, h.ap, h.need, fun p hp => ?_⟩
  have h0 := h.got p hp
  rw [gather_kept h.pend] at h0
  rw [gather_kept rfl]
  exact h0
/-- what is found beside what is held -/
theorem found_ok {l a d : Int} {rs : List Run} (hap : apartP l a d rs) (n : Nat) (hn : n ≤ (freeTo rs d.toNat).length) : apartP l a d (rs ++ findP rs d.toNat n) ∧ (pos (findP rs d.toNat n)).length = n ∧ (freeTo (rs ++ findP rs d.toNat n) d.toNat).length + n = (freeTo rs d.toNat).length := by
  rcases Nat.eq_zero_or_pos n with rfl | h1
  · have e : findP rs d.toNat 0 = [] := by simp [findP, grps]
    rw [e, List.append_nil]
    exact ⟨hap, rfl, by omega⟩
  · have hd : d = (d.toNat : Int) := by
      have := hap.1.2.2.1
      unfold inW at this
      omega
    obtain ⟨E, F⟩ := first_of (D := d.toNat) (by rw [← hd]; exact hap) h1 hn
    exact ⟨by have := F.ok; rwa [← hd] at this, F.count, F.rest (by rw [← hd]; exact hap)⟩
end Go.Proofs.Ytfppddnfdinipaa
end
section
namespace Go.Proofs.Ytfppddnfdinipaa
open Go Go.RowKit
set_option maxRecDepth 100000
/-- a row of elements of one cell: of one's own, or cut where it ends -/
def Cut (w : World) (R : Nat) (e : TypeId) (v : Value) (n : Nat) (xs : List Value) : Prop :=
  w.ownsRow R e 1 v n xs ∨ ∃ g cs, v = .slice (some ⟨g, 0, none⟩) n n ∧ R ≤ g ∧ Blk w g e cs ∧ n ≤ cs.size ∧ n ≤ maxLen ∧ cs.toList.take n = xs
section
variable {w w' : World} {R n : Nat} {e : TypeId} {v : Value} {xs : List Value}
/-- one form for both -/
theorem Cut.form (h : Cut w R e v n xs) : (v = .slice none 0 0 ∧ n = 0 ∧ xs = []) ∨ ∃ g cap cs, v = .slice (some ⟨g, 0, none⟩) n cap ∧ R ≤ g ∧ Blk w g e cs ∧ n ≤ cap ∧ cap ≤ maxLen ∧ n ≤ cs.size ∧ cs.toList.take n = xs ∧ g < w.heap.size := by
  rcases h with h | ⟨g, cs, h1, h2, h3, h4, h5, h6⟩
  · rcases owned_formN h with h | ⟨g, cap, cur, h1, h2, h3, h4, h5, h6, h7, h8⟩
    · exact .inl h
    · exact .inr ⟨g, cap, cur, h1, h2, h5, h3, h4, by rw [h6]; omega, by rw [Nat.mul_one] at h7; exact h7, h8⟩
  · exact .inr ⟨g, n, cs, h1, h2, h3, Nat.le_refl _, h5, h4, h6, h3.lt⟩
theorem Cut.len (h : Cut w R e v n xs) : xs.length = n := by
  rcases h.form with ⟨_, h2, h3⟩ | ⟨g, cap, cs, _, _, _, _, _, h6, h7, _⟩
  · rw [h2, h3]; rfl
  · rw [← h7, List.length_take, Array.length_toList]; omega
theorem Cut.blk (h : Cut w R e v n xs) {k : Nat} (hk : v.ownBlock = some k) : ∃ cs, Blk w k e cs ∧ R ≤ k := by
  rcases h.form with ⟨rfl, _, _⟩ | ⟨g, cap, cs, rfl, h2, h3, _⟩
  · cases hk
  · have hk : some g = some k := hk
    injection hk with hk
    subst hk
    exact ⟨cs, h3, h2⟩
theorem Cut.keep (h : Cut w R e v n xs) (hk : ∀ k, v.ownBlock = some k → k < w.heap.size → w'.heap[k]? = w.heap[k]?) : Cut w' R e v n xs := by
  rcases h with h | ⟨g, cs, h1, h2, h3, h4⟩
  · exact .inl (owned_keepN h hk)
  · refine .inr ⟨g, cs, h1, h2, ?_, h4⟩
    exact (hk g (by rw [h1]; rfl) h3.lt).trans h3
theorem Cut.cell (h : Cut w R e v n xs) {j : Nat} {x : Value} (hj : xs[j]? = some x) : ∃ g cap, v = .slice (some ⟨g, 0, none⟩) n cap ∧ w.cell? ⟨g, j, none⟩ = some x ∧ g < w.heap.size ∧ R ≤ g := by
  rcases h.form with ⟨_, _, h3⟩ | ⟨g, cap, cs, h1, h2, h3, _, _, h6, h7, h8⟩
  · rw [h3] at hj; cases hj
  · refine ⟨g, cap, h1, ?_, h8, h2⟩
    rw [h3.cell, ← Array.getElem?_toList]
    rw [← h7] at hj
    rw [List.getElem?_take] at hj
    split at hj
    · exact hj
    · cases hj
/-- one element more -/
theorem Cut.app1 {t ty : TypeId} (ht : Try.prog.underlying t = some (.slice e)) (hi : (Try.prog.info? e).map (fun i => (i.zero, i.size, i.bytes)) = some (some (.slice none 0 0), 1, 24)) (h : Cut w R e v n xs) (hR : R ≤ w.heap.size) (hn : n ≤ 100000) (x : Value) (hx : x.oneCell' = true) :
    ∃ v' w', (Builtin.append_ #[t, t] ty #[v, .slice (some ⟨w.heap.size, 0, none⟩) 1 1]).run Try.prog (w.alloc (.cells #[x] e)) = .ok v' w' ∧ Cut w' R e v' (n + 1) (xs ++ [x]) ∧ (w.alloc (.cells #[x] e)).grownBy w' v.ownBlock := by
  obtain ⟨i, hi, hz0, hz1, hz2⟩ := info_parts hi
  have hc : ∀ j u, [x][j]? = some u → (w.alloc (.cells #[x] e)).cell? ((⟨w.heap.size, 0, none⟩ : Addr).add j) = some u := by
    intro j u hu
    rw [Addr.add_mid, Nat.zero_add, (Blk.new w e #[x]).cell]
    simpa using hu
  have h1 : ∀ u ∈ [x], u.oneCell' = true := fun u hu => by rw [List.mem_singleton.1 hu]; exact hx
  have hal : Below w.heap.size w (w.alloc (.cells #[x] e)) := (Below.refl _ w).alloc (Nat.le_refl _) _
  rcases h with h | ⟨g, cs, rfl, h2, h3, h4, h5, h6⟩
  · obtain ⟨v', w', k1, k2, k3, _⟩ := run_append_own_at (P := Try.prog) (w := w.alloc (.cells #[x] e)) R t ty e i _ 1 24 ht hi hz0 hz1 hz2 rfl (by omega) v n xs (owned_keepN h fun k _ hl => hal.block k hl) ⟨w.heap.size, 0, none⟩ 1 1 [x] rfl hc h1 (by unfold maxLen; omega) (by omega) (by rw [size_alloc]; omega)
    exact ⟨v', w', k1, .inl k2, k3⟩
  · have hb := h3.alloc (.cells #[x] e)
    obtain ⟨v', w', k1, k2, k3⟩ := run_append_arg_grows (P := Try.prog) (w := w.alloc (.cells #[x] e)) t ty e i _ 1 24 ht hi hz0 hz1 hz2 rfl (by omega) ⟨g, 0, none⟩ n n xs (by rw [← h6, List.length_take, Array.length_toList]; omega) (fun j u hu => by
      rw [Addr.add_mid, Nat.zero_add, hb.cell, ← Array.getElem?_toList]
      rw [← h6, List.getElem?_take] at hu
      split at hu
      · exact hu
      · cases hu) ⟨w.heap.size, 0, none⟩ 1 1 [x] rfl hc (by omega) (by unfold maxLen; omega) (by omega)
    exact ⟨v', w', k1, .inl (owned_baseN k2 fun g hg => by have := (owned_ltN k2 hg).1; rw [size_alloc] at this; omega), ⟨k3.os, k3.tape, k3.output, k3.size, fun k hk _ => k3.block k hk (by simp)⟩⟩
/-- one element less: 'append(v[:k:k], v[k+1:]...)' -/
theorem Cut.del {t ty : TypeId} (ht : Try.prog.underlying t = some (.slice e)) (hi : (Try.prog.info? e).map (fun i => (i.zero, i.size, i.bytes)) = some (some (.slice none 0 0), 1, 24)) {g cap : Nat} (h : Cut w R e (.slice (some ⟨g, 0, none⟩) n cap) n xs) (hn : n ≤ 100000) {k : Nat} (hk : k < n) {A : Option Addr} {c2 : Nat} (hA : k + 1 < n → A = some ⟨g, k + 1, none⟩) (hA2 : A ≠ none) :
    ∃ v' w', (Builtin.append_ #[t, t] ty #[.slice (some ⟨g, 0, none⟩) k k, .slice A (n - (k + 1)) c2]).run Try.prog w = .ok v' w' ∧ Cut w' R e v' (n - 1) (xs.eraseIdx k) ∧ w.grownBy w' none := by
  obtain ⟨i, hi, hz0, hz1, hz2⟩ := info_parts hi
  have hl := h.len
  rcases h.form with ⟨h0, _⟩ | ⟨g', cap', cs, h1, h2, h3, h4, h5, h6, h7, h8⟩
  · cases h0
  injection h1 with h1 _ _
  injection h1 with h1
  injection h1 with h1 _ _
  subst h1
  have hold : ∀ j u, (xs.take k)[j]? = some u → w.cell? ((⟨g, 0, none⟩ : Addr).add j) = some u := by
    intro j u hu
    rw [List.getElem?_take] at hu
    split at hu
    · obtain ⟨g2, c3, q1, q2, _⟩ := h.cell hu
      injection q1 with q1 _ _
      injection q1 with q1
      injection q1 with q1 _ _
      subst q1
      rw [Addr.add_mid, Nat.zero_add]
      exact q2
    · cases hu
  rcases Nat.lt_or_ge (k + 1) n with hk1 | hk1
  · obtain rfl := hA hk1
    obtain ⟨v', w', k1, k2, k3⟩ := run_append_arg_grows (P := Try.prog) (w := w) t ty e i _ 1 24 ht hi hz0 hz1 hz2 rfl (by omega) ⟨g, 0, none⟩ k k (xs.take k) (by rw [List.length_take]; omega) hold ⟨g, k + 1, none⟩ (n - (k + 1)) c2 (xs.drop (k + 1)) (by rw [List.length_drop]; omega) (fun j u hu => by
      rw [List.getElem?_drop] at hu
      obtain ⟨g2, c3, q1, q2, _⟩ := h.cell hu
      injection q1 with q1 _ _
      injection q1 with q1
      injection q1 with q1 _ _
      subst q1
      rw [Addr.add_mid]
      exact q2) (by omega) (by unfold maxLen; omega) (by omega)
    rw [show k + (n - (k + 1)) = n - 1 by omega, ← List.eraseIdx_eq_take_drop_succ] at k2
    exact ⟨v', w', k1, .inl (owned_baseN k2 fun g hg => by have := (owned_ltN k2 hg).1; omega), k3⟩
  · obtain ⟨a, rfl⟩ := Option.ne_none_iff_exists'.1 hA2
    have hm : n - (k + 1) = 0 := by omega
    have hr := run_append_room_cells (P := Try.prog) (w := w) t ty e i ht hi g 0 k k a 0 c2 [] (by simp) (fun j u hu => by simp at hu) (fun u hu => by cases hu) (by omega) (fun j hj => by simp at hj) (fun j hj => by simp at hj)
    rw [hm]
    refine ⟨_, _, hr, .inr ⟨g, cs, by rw [show k + 0 = n - 1 by omega, show k = n - 1 by omega], h2, h3, by omega, by omega, ?_⟩, ⟨rfl, rfl, rfl, Nat.le_refl _, fun _ _ _ => rfl⟩⟩
    rw [List.eraseIdx_eq_take_drop_succ, List.drop_eq_nil_of_le (by omega), List.append_nil, ← h7, List.take_take]
    congr 1
    omega
end
theorem DevAt.kinds {w : World} {F : Nat → Prop} {g : Nat} {D : Dv} (h : DevAt w F g D) {k : Nat} (hk : F k) : ∃ cs t, Blk w k t cs ∧ (t = 150 ∨ t = 213 ∨ t = 215) := by
  obtain ⟨rk, c, vp, rfl, h1, h2, h3, h4⟩ := h
  rcases hk with rfl | rfl | hk
  · exact ⟨_, _, h1, .inl rfl⟩
  · rcases owned_formN h2 with ⟨h, _⟩ | ⟨g', cap', cur, h', _, _, _, hh, _⟩
    · cases h
    · injection h' with h' _ _
      injection h' with h'
      injection h' with h' _ _
      subst h'
      exact ⟨_, _, hh, .inr (.inl rfl)⟩
  · rcases owned_formN h3 with ⟨h, _⟩ | ⟨g', cap', cur, h', _, _, _, hh, _⟩
    · rw [h] at hk; cases hk
    · rw [h'] at hk
      have hk : some g' = some k := hk
      injection hk with hk
      subst hk
      exact ⟨_, _, hh, .inr (.inr rfl)⟩
theorem DevAt.not {w : World} {F : Nat → Prop} {g : Nat} {D : Dv} (h : DevAt w F g D) {k : Nat} {t : TypeId} {cs : Array Value} (hb : Blk w k t cs) (h1 : t ≠ 150) (h2 : t ≠ 213) (h3 : t ≠ 215) : ¬ F k := by
  intro hk
  obtain ⟨cs', t', hb', ht⟩ := h.kinds hk
  have e : t = t' := by
    unfold Blk at hb hb'
    rw [hb] at hb'
    injection hb' with hb'
    injection hb' with _ hb' _
  rcases ht with h | h | h
  · exact h1 (e.trans h)
  · exact h2 (e.trans h)
  · exact h3 (e.trans h)
/-- a device, two rows, and runs of one's own -/
structure KPar (R : Nat) (w0 w : World) (F : Nat → Prop) (q : Nat) (D : Dv) (vR : Value) (n : Nat) (xs : List Value) (vU : Value) (m : Nat) (ys : List Value) (os : List (Value × List Run)) : Prop where
  mine : Mine R w0 w F q D
  rows : Cut w R 66 vR n xs
  runs : Cut w R 73 vU m ys
  own : ∀ p ∈ os, OwnRuns R w p.1 p.2
section
variable {R : Nat} {w0 w w' : World} {F F' : Nat → Prop} {q : Nat} {D D' : Dv} {vR : Value} {n : Nat} {xs : List Value} {vU : Value} {m : Nat} {ys : List Value} {os : List (Value × List Run)}
theorem runs_own_blk {u : Value} {l : List Run} (h : OwnRuns R w u l) {k : Nat} (hk : u.ownBlock = some k) : ∃ cs, Blk w k 88 cs := by
  rcases owned_formN h.1 with ⟨rfl, _⟩ | ⟨g, cap, cur, rfl, _, _, _, hb, _⟩
  · cases hk
  · have hk : some g = some k := hk
    injection hk with hk
    subst hk
    exact ⟨_, hb⟩
theorem OwnRuns.keep {u : Value} {l : List Run} (h : OwnRuns R w u l) (hk : ∀ k, u.ownBlock = some k → k < w.heap.size → w'.heap[k]? = w.heap[k]?) : OwnRuns R w' u l := ⟨owned_keepN h.1 hk, h.2⟩
theorem KPar.keep (h : KPar R w0 w F q D vR n xs vU m ys os) (hm : Mine R w0 w' F' q D') (hk : ∀ k, k < w.heap.size → ¬ F k → w'.heap[k]? = w.heap[k]?) : KPar R w0 w' F' q D' vR n xs vU m ys os := by
  refine ⟨hm, h.rows.keep fun k hv hl => hk k hl ?_, h.runs.keep fun k hv hl => hk k hl ?_, fun p hp => (h.own p hp).keep fun k hv hl => hk k hl ?_⟩
  · obtain ⟨cs, hb, _⟩ := h.rows.blk hv
    exact h.mine.dev.not hb (by decide) (by decide) (by decide)
  · obtain ⟨cs, hb, _⟩ := h.runs.blk hv
    exact h.mine.dev.not hb (by decide) (by decide) (by decide)
  · obtain ⟨cs, hb⟩ := runs_own_blk (h.own p hp) hv
    exact h.mine.dev.not hb (by decide) (by decide) (by decide)
theorem KPar.grow (h : KPar R w0 w F q D vR n xs vU m ys os) (hR : R ≤ w0.heap.size) (hb : Below w.heap.size w w') : KPar R w0 w' F q D vR n xs vU m ys os :=
  h.keep (h.mine.grow hR hb) fun k hk _ => hb.block k hk
theorem KPar.left (h : KPar R w0 w F q D vR n xs vU m ys os) (hR : R ≤ w0.heap.size) (hl : Left w F q D' w') : ∃ F', KPar R w0 w' F' q D' vR n xs vU m ys os := by
  obtain ⟨F', hm⟩ := h.mine.left hR hl
  obtain ⟨_, _, ht, _⟩ := hl
  exact ⟨F', h.keep hm fun k hk hf => ht.block k hk hf⟩
theorem KPar.more (h : KPar R w0 w F q D vR n xs vU m ys os) {u : Value} {l : List Run} (hu : OwnRuns R w u l) : KPar R w0 w F q D vR n xs vU m ys (os ++ [(u, l)]) :=
  ⟨h.mine, h.rows, h.runs, fun p hp => by
    rcases List.mem_append.1 hp with hp | hp
    · exact h.own p hp
    · rw [List.mem_singleton.1 hp]; exact hu⟩
theorem KPar.less (h : KPar R w0 w F q D vR n xs vU m ys os) {os' : List (Value × List Run)} (hs : ∀ p ∈ os', p ∈ os) : KPar R w0 w F q D vR n xs vU m ys os' := ⟨h.mine, h.rows, h.runs, fun p hp => h.own p (hs p hp)⟩
theorem info_sb : (Try.prog.info? 66).map (fun i => (i.zero, i.size, i.bytes)) = some (some (.slice none 0 0), 1, 24) := by kernel_rfl
theorem info_sr : (Try.prog.info? 73).map (fun i => (i.zero, i.size, i.bytes)) = some (some (.slice none 0 0), 1, 24) := by kernel_rfl
theorem mine_row {g : Nat} (hm : Mine R w0 w F q D) (hR : R ≤ w0.heap.size) (hg : ∀ k, vR.ownBlock = some k → R ≤ k ∧ ¬ F k) (hw : w.grownBy w' vR.ownBlock) (_hg : g = g) : Mine R w0 w' F q D := by
  have hs := hm.bel.size
  refine ⟨hm.dev.keep fun k hk hf => hw.block k hk fun e => (hg k e.symm).2 hf, ?_, hm.low⟩
  exact ⟨hw.os.trans hm.bel.os, hw.tape.trans hm.bel.tape, hw.output.trans hm.bel.output, by have := hw.size; omega, fun k hk => (hw.block k (by omega) fun e => by have := (hg k e.symm).1; omega).trans (hm.bel.block k hk)⟩
theorem KPar.pushRow (h : KPar R w0 w F q D vR n xs vU m ys os) (hR : R ≤ w0.heap.size) (hn : n ≤ 100000) (x : Value) (hx : x.oneCell' = true) :
    ∃ v' w', (Builtin.append_ #[65, 65] 65 #[vR, .slice (some ⟨w.heap.size, 0, none⟩) 1 1]).run Try.prog (w.alloc (.cells #[x] 66)) = .ok v' w' ∧ KPar R w0 w' F q D v' (n + 1) (xs ++ [x]) vU m ys os := by
  have hs := h.mine.bel.size
  have hal : Below w.heap.size w (w.alloc (.cells #[x] 66)) := (Below.refl _ w).alloc (Nat.le_refl _) _
  have h2 := h.grow hR hal
  obtain ⟨v', w', k1, k2, k3⟩ := h.rows.app1 (t := 65) (ty := 65) Try.underlying65 info_sb (by omega) hn x hx
  refine ⟨v', w', k1, mine_row (g := 0) h2.mine hR (fun k hv => ?_) k3 rfl, k2, h2.runs.keep fun k hv hl => k3.block k hl fun e => ?_, fun p hp => (h2.own p hp).keep fun k hv hl => k3.block k hl fun e => ?_⟩
  · obtain ⟨cs, hb, hr⟩ := h2.rows.blk hv
    exact ⟨hr, h2.mine.dev.not hb (by decide) (by decide) (by decide)⟩
  · obtain ⟨cs, hb, _⟩ := h2.rows.blk e.symm
    obtain ⟨cs', hb', _⟩ := h2.runs.blk hv
    exact (hb.ne_ hb' (by decide)) rfl
  · obtain ⟨cs, hb, _⟩ := h2.rows.blk e.symm
    obtain ⟨cs', hb'⟩ := runs_own_blk (h2.own p hp) hv
    exact (hb.ne_ hb' (by decide)) rfl
theorem KPar.pushRuns (h : KPar R w0 w F q D vR n xs vU m ys os) (hR : R ≤ w0.heap.size) (hm : m ≤ 100000) (x : Value) (hx : x.oneCell' = true) :
    ∃ v' w', (Builtin.append_ #[72, 72] 72 #[vU, .slice (some ⟨w.heap.size, 0, none⟩) 1 1]).run Try.prog (w.alloc (.cells #[x] 73)) = .ok v' w' ∧ KPar R w0 w' F q D vR n xs v' (m + 1) (ys ++ [x]) os := by
  have hs := h.mine.bel.size
  have hal : Below w.heap.size w (w.alloc (.cells #[x] 73)) := (Below.refl _ w).alloc (Nat.le_refl _) _
  have h2 := h.grow hR hal
  obtain ⟨v', w', k1, k2, k3⟩ := h.runs.app1 (t := 72) (ty := 72) Try.underlying72 info_sr (by omega) hm x hx
  refine ⟨v', w', k1, mine_row (g := 0) h2.mine hR (fun k hv => ?_) k3 rfl, h2.rows.keep fun k hv hl => k3.block k hl fun e => ?_, k2, fun p hp => (h2.own p hp).keep fun k hv hl => k3.block k hl fun e => ?_⟩
  · obtain ⟨cs, hb, hr⟩ := h2.runs.blk hv
    exact ⟨hr, h2.mine.dev.not hb (by decide) (by decide) (by decide)⟩
  · obtain ⟨cs, hb, _⟩ := h2.runs.blk e.symm
    obtain ⟨cs', hb', _⟩ := h2.rows.blk hv
    exact (hb.ne_ hb' (by decide)) rfl
  · obtain ⟨cs, hb, _⟩ := h2.runs.blk e.symm
    obtain ⟨cs', hb'⟩ := runs_own_blk (h2.own p hp) hv
    exact (hb.ne_ hb' (by decide)) rfl
end
/-- a row of bytes that came in -/
def ByArg (w : World) (R : Nat) (u : Value) (l : List UInt8) : Prop := ∃ A c, u = .slice A l.length c ∧ BytesAt w R (.slice A l.length c) l ∧ (A = none → c = 0)
theorem ByArg.cap {w : World} {R : Nat} {u : Value} {l : List UInt8} (h : ByArg w R u l) : ∃ A c, u = .slice A l.length c ∧ BytesAt w R (.slice A l.length c) l ∧ (A = none → c = 0) ∧ l.length ≤ c := by
  obtain ⟨A, c, rfl, h1, h2⟩ := h
  obtain ⟨A', c', e, hc, _⟩ := id h1
  injection e with _ _ e
  subst e
  exact ⟨A, c, rfl, h1, h2, hc⟩
theorem ByArg.one {w : World} {R : Nat} {u : Value} {l : List UInt8} (h : ByArg w R u l) : u.oneCell' = true := by
  obtain ⟨A, c, rfl, _⟩ := h
  rfl
/-- what BlobKeeps holds between its rounds -/
structure KAt (R : Nat) (w0 w : World) (F : Nat → Prop) (q : Nat) (D : Dv) (l a d : Int) (vR vU : Value) (st : List (List UInt8 × List Run)) (us : List (Value × Value)) : Prop where
  len : us.length = st.length
  par : KPar R w0 w F q D vR st.length (us.map (·.1)) vU st.length (us.map (·.2)) ((us.map (·.2)).zip (st.map (·.2)))
  args : ∀ (j : Nat) (p : List UInt8 × List Run) (u : Value × Value), st[j]? = some p → us[j]? = some u → ByArg w0 R u.1 p.1
  law : Kp l a d D st
section
variable {R : Nat} {w0 w w' : World} {F F' : Nat → Prop} {q : Nat} {D D' : Dv} {l a d : Int} {vR vU : Value} {st : List (List UInt8 × List Run)} {us : List (Value × Value)}
theorem KAt.runs (h : KAt R w0 w F q D l a d vR vU st us) {j : Nat} {p : List UInt8 × List Run} {u : Value × Value} (hp : st[j]? = some p) (hu : us[j]? = some u) : OwnRuns R w u.2 p.2 := by
  refine h.par.own (u.2, p.2) (List.mem_of_getElem? (i := j) ?_)
  rw [List.getElem?_zip_eq_some]
  simp [hp, hu]
theorem KAt.grow (h : KAt R w0 w F q D l a d vR vU st us) (hR : R ≤ w0.heap.size) (hb : Below w.heap.size w w') : KAt R w0 w' F q D l a d vR vU st us := ⟨h.len, h.par.grow hR hb, h.args, h.law⟩
theorem KAt.left (h : KAt R w0 w F q D l a d vR vU st us) (hR : R ≤ w0.heap.size) (hl : Left w F q D' w') (hk : Kp l a d D' st) : ∃ F', KAt R w0 w' F' q D' l a d vR vU st us := by
  obtain ⟨F', h2⟩ := h.par.left hR hl
  exact ⟨F', h.len, h2, h.args, hk⟩
/-- the parts of a state from which one row is struck -/
theorem KAt.struck {vR' vU' : Value} {xs ys : List Value} {k : Nat} (h : KAt R w0 w F q D l a d vR vU st us) (hk : k < st.length)
    (hp : KPar R w0 w' F q D vR' (st.length - 1) xs vU' (st.length - 1) ys ((us.map (·.2)).zip (st.map (·.2)))) (hx : xs = (us.map (·.1)).eraseIdx k) (hy : ys = (us.map (·.2)).eraseIdx k) : KAt R w0 w' F q D l a d vR' vU' (st.eraseIdx k) (us.eraseIdx k) := by
  have hl : (st.eraseIdx k).length = st.length - 1 := by rw [List.length_eraseIdx, if_pos hk]
  have hm : ∀ {α β : Type} (f : α → β) (l : List α), (l.eraseIdx k).map f = (l.map f).eraseIdx k := fun f l => Go.ChangeMaps.map_eraseIdx f l k
  refine ⟨by rw [hl, List.length_eraseIdx, if_pos (by rw [h.len]; exact hk), h.len], ?_, fun j p u hp hu => ?_, h.law.drop k⟩
  · rw [hl, hm, hm, hm, ← hx, ← hy]
    refine hp.less fun p hp => ?_
    obtain ⟨j, e⟩ := List.getElem?_of_mem hp
    rw [List.getElem?_zip_eq_some] at e
    rw [hy] at e
    simp only [List.getElem?_eraseIdx] at e
    refine List.mem_of_getElem? (i := if j < k then j else j + 1) ?_
    rw [List.getElem?_zip_eq_some]
    split at e
    · rename_i h2; simpa [h2] using e
    · rename_i h2; simpa [h2] using e
  · rw [List.getElem?_eraseIdx] at hp hu
    split at hp
    · rename_i h2
      rw [if_pos h2] at hu
      exact h.args _ _ _ hp hu
    · rename_i h2
      rw [if_neg h2] at hu
      exact h.args _ _ _ hp hu
/-- .. to which one row is added -/
theorem KAt.added {vR' vU' : Value} {u1 u2 : Value} {b : List UInt8} {f : List Run} (h : KAt R w0 w F q D l a d vR vU st us) (h1 : ByArg w0 R u1 b)
    (hp : KPar R w0 w' F' q D' vR' (st.length + 1) (us.map (·.1) ++ [u1]) vU' (st.length + 1) (us.map (·.2) ++ [u2]) ((us.map (·.2)).zip (st.map (·.2)) ++ [(u2, f)])) (hk : Kp l a d D' (st ++ [(b, f)])) : KAt R w0 w' F' q D' l a d vR' vU' (st ++ [(b, f)]) (us ++ [(u1, u2)]) := by
  have hl := h.len
  refine ⟨by simp [hl], ?_, fun j p u hp hu => ?_, hk⟩
  · rw [List.length_append, List.map_append, List.map_append, List.map_append, List.zip_append (by simp [hl])]
    exact hp
  · rcases Nat.lt_trichotomy j st.length with hj | hj | hj
    · rw [List.getElem?_append_left hj] at hp
      rw [List.getElem?_append_left (by omega)] at hu
      exact h.args _ _ _ hp hu
    · subst hj
      simp at hp
      rw [← hl] at hu
      simp at hu
      rw [← hp, ← hu]
      exact h1
    · rw [List.getElem?_eq_none (by simp; omega)] at hp
      cases hp
end
end Go.Proofs.Ytfppddnfdinipaa
end
section
namespace Go.Proofs.Ytfppddnfdinipaa
open Go Go.RowKit
set_option maxRecDepth 100000
theorem rneed_any (n : Int) (hn : -9223372036854775808 ≤ n ∧ n ≤ 9223372036854775807) (w : World) : Calls Try.prog 42 #[.int .i64 n] w fun e w' => e = .returned (.int .i64 (needP n)) ∧ w' = w := by
  by_cases h : n ≤ 0
  · rw [needP, if_pos h]
    have h1 : n < 1 := by omega
    go_enter Try.func42, Try.ntmps42
    go_wp2
    go_ret
    exact ⟨rfl, rfl⟩
  · rw [needP, if_neg h]
    have h1 : ¬ n < 1 := by omega
    have q1 : 0 ≤ (n - 1) / 64 := by omega
    have q2 : (n - 1) / 64 < 9223372036854775807 := by omega
    have q3 : Int.tdiv (n - 1) 64 = (n - 1) / 64 := Int.tdiv_eq_ediv_of_nonneg (by omega)
    go_enter Try.func42, Try.ntmps42
    go_wp2
    go_ret
    exact ⟨rfl, rfl⟩
theorem rokr_any (d : Int) (r : Run) (hd : 0 ≤ d ∧ d ≤ 100000) (hr : r64 r) (w : World) : Calls Try.prog 164 #[.int .i64 d, .agg #[.int .i64 r.1, .int .i64 r.2]] w fun e w' => e = .returned (.bool (decide (okRun d r))) ∧ w' = w.alloc (.cells #[.int .i64 r.1, .int .i64 r.2] 88) := by
  obtain ⟨d1, d2⟩ := hd
  obtain ⟨⟨r1, r2⟩, r3, r4⟩ := hr
  by_cases q1 : 0 ≤ r.1
  · by_cases q2 : r.1 < d
    · by_cases q3 : 1 ≤ r.2
      · by_cases q4 : r.2 ≤ d - r.1
        · have h := decide_eq_true (show okRun d r from ⟨q1, q2, q3, q4⟩)
          go_enter Try.func164, Try.ntmps164
          go_wp2
          go_ret
          first | exact ⟨rfl, rfl⟩ | (rw [h]; exact ⟨rfl, rfl⟩)
        · have h := decide_eq_false (show ¬ okRun d r from fun h => q4 h.2.2.2)
          go_enter Try.func164, Try.ntmps164
          go_wp2
          go_ret
          first | exact ⟨rfl, rfl⟩ | (rw [h]; exact ⟨rfl, rfl⟩)
      · have h := decide_eq_false (show ¬ okRun d r from fun h => q3 h.2.2.1)
        go_enter Try.func164, Try.ntmps164
        go_wp2
        go_ret
        first | exact ⟨rfl, rfl⟩ | (rw [h]; exact ⟨rfl, rfl⟩)
    · have h := decide_eq_false (show ¬ okRun d r from fun h => q2 h.2.1)
      go_enter Try.func164, Try.ntmps164
      go_wp2
      go_ret
      first | exact ⟨rfl, rfl⟩ | (rw [h]; exact ⟨rfl, rfl⟩)
  · have h := decide_eq_false (show ¬ okRun d r from fun h => q1 h.1)
    go_enter Try.func164, Try.ntmps164
    go_wp2
    go_ret
    first | exact ⟨rfl, rfl⟩ | (rw [h]; exact ⟨rfl, rfl⟩)
/-- which of d sectors are marked -/
def marksC (d : Nat) (l : List Nat) : List Value := (List.range d).map fun x => .bool (l.contains x)
theorem marksC_len (d : Nat) (l : List Nat) : (marksC d l).length = d := by simp [marksC]
theorem marksC_nil (d : Nat) : marksC d [] = List.replicate d (.bool false) := by
  unfold marksC
  apply List.ext_getElem
  · simp
  · intro i h1 h2
    simp
theorem marksC_at {d x : Nat} (l : List Nat) (h : x < d) : (marksC d l)[x]? = some (.bool (l.contains x)) := by
  simp [marksC, h]
theorem marksC_set {d p : Nat} (l : List Nat) (h : p < d) : (marksC d l).take p ++ ([.bool true] ++ (marksC d l).drop (p + 1)) = marksC d (l ++ [p]) := by
  apply List.ext_getElem?
  intro i
  rcases Nat.lt_or_ge i d with hi | hi
  · rw [marksC_at _ hi]
    have h3 : (List.take p (marksC d l)).length = p := by rw [List.length_take, marksC_len]; omega
    rcases Nat.lt_trichotomy i p with h2 | h2 | h2
    · rw [List.getElem?_append_left (by omega), List.getElem?_take_of_lt h2, marksC_at _ hi]
      congr 2
      rw [Bool.eq_iff_iff, List.contains_iff_mem, List.contains_iff_mem, List.mem_append]
      constructor
      · exact .inl
      · rintro (h | h)
        · exact h
        · have := List.mem_singleton.1 h
          omega
    · subst h2
      rw [List.getElem?_append_right (by omega), h3, Nat.sub_self]
      simp
    · rw [List.getElem?_append_right (by omega), h3, List.getElem?_append_right (by simp; omega), List.getElem?_drop, show p + 1 + (i - p - [Value.bool true].length) = i by simp; omega, marksC_at _ hi]
      congr 2
      rw [Bool.eq_iff_iff, List.contains_iff_mem, List.contains_iff_mem, List.mem_append]
      constructor
      · exact .inl
      · rintro (h | h)
        · exact h
        · have := List.mem_singleton.1 h
          omega
  · rw [List.getElem?_eq_none (by rw [List.length_append, List.length_append, List.length_take, List.length_drop, marksC_len]; simp; omega), List.getElem?_eq_none (by rw [marksC_len]; omega)]
end Go.Proofs.Ytfppddnfdinipaa
end
