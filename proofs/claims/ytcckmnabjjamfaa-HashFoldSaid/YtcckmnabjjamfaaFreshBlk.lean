/- The region law of FreshTail for blocks of one sort. -/
import Derived.Test.YtcckmnabjjamfaaFreshTail
import Derived.Test.YtcckmnabjjamfaaBase3
namespace Go.Proofs.Ytcckmnabjjamfaa
open Go Go.RowKit
section
variable {P : Program} {ops : Array Oper} {F : Made} {w0 : World}

/-- blocks that are made: one sort, all alike -/
def blkMade (B : Nat) (ty : TypeId) (cs : Array Value) (u : Value) (w : World) : Prop := ∃ r, u = .pointer (some ⟨r, 0, none⟩) ∧ B ≤ r ∧ Blk w r ty cs
def madeAs (keys : List Tmp) (V : Value → World → Prop) : Made := fun t => bif keys.contains t then some V else none
theorem madeAs_some {keys : List Tmp} {V V' : Value → World → Prop} {t : Tmp} (h : madeAs keys V t = some V') : t ∈ keys ∧ V' = V := by
  unfold madeAs at h
  cases hc : keys.contains t with
  | false => rw [hc] at h; cases h
  | true => rw [hc] at h; exact ⟨by simpa using hc, (Option.some.inj h).symm⟩
theorem madeAs_in {keys : List Tmp} {V : Value → World → Prop} {t : Tmp} (h : t ∈ keys) : madeAs keys V t = some V := by
  unfold madeAs
  rw [show keys.contains t = true by simpa using h]; rfl
theorem stays_blk (keys : List Tmp) (B : Nat) (ty : TypeId) (cs : Array Value) : stays (madeAs keys (blkMade B ty cs)) := by
  intro t V hV u w w' hu hw
  obtain ⟨_, rfl⟩ := madeAs_some hV
  obtain ⟨r, e, hr, hb⟩ := hu
  exact ⟨r, e, hr, hb.below hw hb.lt⟩
theorem does_load {o : Oper} {a : Act} (ty : TypeId) (x : Operand) (ho : o.op = .load ty x) (hg : o.guard = none) (hd : o.dst.bind F = none) (hx : ∀ t, x = .tmp t → F t = none)
    (g : Nat) (t : TypeId) (cs : Array Value) (n : Nat) (e : TypeId) (hb : Blk w0 g t cs) (hu : P.underlying ty = some (.array n e)) (hi : (P.info? ty).map (·.size) = some cs.size)
    (hv : a.eval x = .pointer (some ⟨g, 0, none⟩)) : Does P ops F w0 o (.agg cs) a := by
  refine does_of (by rw [ho]; intro _ _ h; cases h) hg (by rw [ho]; intro y hy t e; have : y = x := by simpa [Op.operands] using hy
                                                           exact hx t (this ▸ e)) fun w hw => ?_
  rw [hd]
  have hb' := hb.below hw hb.lt
  have e : (execOp a.eval o).run P w = .ok (.value (.agg cs)) w := by
    unfold execOp
    simp only [ho, hv, Instr.loadAt, Instr.sureAddr, Sem.run_bind, Sem.run_pure, Result.andThen_ok, run_loadVar_row w g t ty cs (0, 0) _ hb' hu rfl hi]
  rw [e]
  exact ⟨rfl, rfl⟩
theorem does_call {o : Oper} {a : Act} (v : Value) (f : Nat) (args : Array Value) (c : Call) (ho : o.op = .call c) (hg : o.guard = none) (hd : o.dst.bind F = none) (hl : ∀ x ∈ o.op.operands, ∀ t, x = .tmp t → F t = none)
    (hrun : ∀ w, (execOp a.eval o).run P w = .ok (.enter f args) w) (hc : ∀ w, Ext w0 w → Calls P f args w fun e w' => e = .returned v ∧ Ext w w') : Does P ops F w0 o v a := by
  refine does_of (by rw [ho]; intro _ _ h; cases h) hg hl fun w hw => ?_
  rw [hd, hrun]
  exact ⟨rfl, hc w hw⟩
theorem does_alloc {o : Oper} {a : Act} {keys : List Tmp} {B : Nat} {ty : TypeId} {cs : Array Value} (t : Tmp) (aty : TypeId) (ho : o.op = .alloc aty) (hg : o.guard = none) (hd : o.dst = some t) (ht : t ∈ keys) (hB : B ≤ w0.heap.size)
    (hrun : ∀ w, (execOp a.eval o).run P w = .ok (.value (.pointer (some ⟨w.heap.size, 0, none⟩))) (w.alloc (.cells cs ty))) : Does P ops (madeAs keys (blkMade B ty cs)) w0 o undef a := by
  refine does_of (by rw [ho]; intro _ _ h; cases h) hg (by rw [ho]; intro y hy; simp [Op.operands] at hy) fun w hw => ?_
  rw [hd, Option.bind_some, madeAs_in ht, hrun]
  refine ⟨rfl, Ext.alloc w _, ⟨_, rfl, Nat.le_trans hB hw.size, Blk.new _ _ _⟩, ?_⟩
  intro t' V' u' hV' hu' e
  obtain ⟨_, rfl⟩ := madeAs_some hV'
  obtain ⟨r, rfl, _, hb⟩ := hu'
  have h1 := hb.lt
  injection e with e
  injection e with e
  injection e with e
  omega
/-- THE LAW, where all that is made are blocks of one sort -/
theorem wp_blks_tail {id : Nat} {Q : Exit → Act → World → Prop} {a : Act} {w : World} {l : List Oper} (n : Nat) (keys : List Tmp) (B : Nat) (ty : TypeId) (cs : Array Value) (hm : P.follows .mixedOrders = true)
    (hB : (Region.lexTailB .any l.toArray n && madeB .any l.toArray keys n && allMadeB l.toArray keys n) = true) (hrange : ∀ t ∈ keys, t < a.tmps.size)
    (h : wpMade P l.toArray (madeAs keys (blkMade B ty cs)) w (fun a' => ∀ b w', Ext w w' → Same (madeAs keys (blkMade B ty cs)) b a' →
      (∀ t ∈ keys, ∃ r, b.tmps[t]? = some (.pointer (some ⟨r, 0, none⟩)) ∧ B ≤ r ∧ Blk w' r ty cs) → (∀ t ∈ keys, ∀ t' ∈ keys, t ≠ t' → b.tmps[t]? ≠ b.tmps[t']?) → wpList P l.toArray Q (l.drop n) b w') (l.take n) a) :
    (Code.region id l.toArray true).wp P Q a w := by
  refine wp_made_tail n keys (madeAs keys (blkMade B ty cs)) hm hB (fun t V hV => (madeAs_some hV).1) (stays_blk _ _ _ _) hrange ?_
  have e : (fun a' => ∀ b w', Ext w w' → Same (madeAs keys (blkMade B ty cs)) b a' →
      (∀ t ∈ keys, ∃ r, b.tmps[t]? = some (.pointer (some ⟨r, 0, none⟩)) ∧ B ≤ r ∧ Blk w' r ty cs) → (∀ t ∈ keys, ∀ t' ∈ keys, t ≠ t' → b.tmps[t]? ≠ b.tmps[t']?) → wpList P l.toArray Q (l.drop n) b w') =
    (fun a' => ∀ b w', Ext w w' → Same (madeAs keys (blkMade B ty cs)) b a' → (∀ t V, madeAs keys (blkMade B ty cs) t = some V → (∃ u, b.tmps[t]? = some u ∧ V u w') ∧ ∀ t' V', madeAs keys (blkMade B ty cs) t' = some V' → t ≠ t' → b.tmps[t]? ≠ b.tmps[t']?) → wpList P l.toArray Q (l.drop n) b w') := by
    funext a'
    refine propext ⟨fun h b w' h1 h2 h3 => h b w' h1 h2 (fun t ht => ?_) (fun t ht t' ht' hne => ?_), fun h b w' h1 h2 h3 h4 => h b w' h1 h2 fun t V hV => ?_⟩
    · obtain ⟨u, hu, r, rfl, hr, hb⟩ := (h3 t _ (madeAs_in ht)).1
      exact ⟨r, hu, hr, hb⟩
    · exact (h3 t _ (madeAs_in ht)).2 t' _ (madeAs_in ht') hne
    · obtain ⟨ht, rfl⟩ := madeAs_some hV
      obtain ⟨r, hu, hr, hb⟩ := h3 t ht
      exact ⟨⟨_, hu, r, rfl, hr, hb⟩, fun t' V' hV' hne => h4 t ht t' (madeAs_some hV').1 hne⟩
  rw [← e]
  exact h
end
end Go.Proofs.Ytcckmnabjjamfaa
