/- rows of arrays; cells in the middle of a block. -/
import Derived.Test.YtidiepbmbbflhaaGrow
namespace Go.Proofs.Ytidiepbmbbflhaa
open Go Go.RowKit
theorem flat_len {α : Type} {s : Nat} : ∀ (l : List (List α)), (∀ b ∈ l, b.length = s) → l.flatten.length = l.length * s
  | [], _ => by simp
  | b :: l, h => by
    have h1 := h b (by simp)
    have h2 := flat_len l (fun c hc => h c (by simp [hc]))
    simp [h1, h2, Nat.add_mul, Nat.add_comm]
theorem flat_at {α : Type} {s : Nat} : ∀ (l : List (List α)) (k : Nat) (b : List α), (∀ b ∈ l, b.length = s) → l[k]? = some b → (l.flatten.drop (k * s)).take s = b
  | [], _, _, _, h => by simp at h
  | b :: l, 0, c, hs, h => by
    have h1 := hs b (by simp)
    simp at h
    subst h
    simp [← h1]
  | b :: l, k + 1, c, hs, h => by
    have h1 := hs b (by simp)
    rw [List.flatten_cons, List.drop_append, show (k + 1) * s - b.length = k * s by rw [h1, Nat.add_mul]; omega, List.drop_eq_nil_of_le (by rw [h1, Nat.add_mul]; omega), List.nil_append]
    exact flat_at l k c (fun d hd => hs d (by simp [hd])) (by simpa using h)
theorem flat_set {α : Type} {s : Nat} (c : List α) (hc : c.length = s) : ∀ (l : List (List α)) (k : Nat), (∀ b ∈ l, b.length = s) → k < l.length → (l.set k c).flatten = l.flatten.take (k * s) ++ (c ++ l.flatten.drop (k * s + c.length))
  | [], _, _, h => by simp at h
  | b :: l, 0, hs, h => by
    have h1 := hs b (by simp)
    simp [hc, ← h1]
  | b :: l, k + 1, hs, h => by
    have h1 := hs b (by simp)
    have e : (k + 1) * s = b.length + k * s := by rw [h1, Nat.add_mul]; omega
    have t1 : ∀ m : Nat, (b ++ l.flatten).take (b.length + m) = b ++ l.flatten.take m := fun m => by rw [List.take_append, List.take_of_length_le (by omega), Nat.add_sub_cancel_left]
    have t2 : ∀ m : Nat, (b ++ l.flatten).drop (b.length + m) = l.flatten.drop m := fun m => by rw [List.drop_append, List.drop_eq_nil_of_le (by omega), Nat.add_sub_cancel_left, List.nil_append]
    rw [List.set_cons_succ, List.flatten_cons, List.flatten_cons, flat_set c hc l k (fun d hd => hs d (by simp [hd])) (by simpa using h), e, Nat.add_assoc, t1, t2, List.append_assoc]
theorem Blk.setCells {g : Nat} {t : TypeId} : ∀ (vs : List Value) (o : Nat) (w : World) (cs : Array Value), Blk w g t cs → o + vs.length ≤ cs.size → Blk (w.setCells g o vs) g t (cs.toList.take o ++ (vs ++ cs.toList.drop (o + vs.length))).toArray
  | [], o, w, cs, h, _ => by simpa [World.setCells] using h
  | v :: vs, o, w, cs, h, hl => by
    simp only [List.length_cons] at hl
    have h2 := Blk.setCells vs (o + 1) _ _ (h.set_ o v) (by simp; omega)
    rw [World.setCells]
    have e : (cs.setIfInBounds o v).toList.take (o + 1) ++ (vs ++ (cs.setIfInBounds o v).toList.drop (o + 1 + vs.length)) = cs.toList.take o ++ (v :: vs ++ cs.toList.drop (o + (v :: vs).length)) := by
      have ho : o < cs.toList.length := by simp; omega
      rw [Array.toList_setIfInBounds, List.drop_set_of_lt (by omega), List.take_set, List.take_succ_eq_append_getElem ho, List.set_append_right _ _ (by simp; omega)]
      have e2 : o - (List.take o cs.toList).length = 0 := by simp; omega
      rw [e2]
      simp [Nat.add_comm, Nat.add_left_comm]
    rwa [e] at h2
theorem grown_setCells {g : Nat} {a : World} : ∀ (vs : List Value) (o : Nat) (w : World), a.grownBy w (some g) → a.grownBy (w.setCells g o vs) (some g)
  | [], _, _, h => h
  | v :: vs, o, w, h => by
    rw [World.setCells]
    exact grown_setCells vs (o + 1) _ (only_setCell h (.inl rfl) v)
section
variable {w : World} {base g n cap s : Nat} {e : TypeId} {xs : List Value}
theorem own_setCells (h : w.ownsRow base e s (.slice (some ⟨g, 0, none⟩) n cap) n xs) (o : Nat) (vs : List Value) (hf : o + vs.length ≤ n * s) : (w.setCells g o vs).ownsRow base e s (.slice (some ⟨g, 0, none⟩) n cap) n (xs.take o ++ (vs ++ xs.drop (o + vs.length))) := by
  have hl := h.1
  rcases owned_formN h with ⟨h, _⟩ | ⟨g', cap', cur, h', hb, hn, hc, hh, hs, ht, _⟩
  · cases h
  · injection h' with e1 e2 e3
    injection e1 with e1
    injection e1 with e1
    subst e1 e3
    have hns : n * s ≤ cap * s := Nat.mul_le_mul_right _ hn
    refine ⟨by simp; omega, .inr ⟨g, cap, _, rfl, hb, Blk.setCells vs o w cur hh (by omega), hn, hc, by simp; omega, ?_⟩⟩
    have e : cur.toList = xs ++ cur.toList.drop (n * s) := by rw [← ht, List.take_append_drop]
    show (cur.toList.take o ++ (vs ++ cur.toList.drop (o + vs.length))).take (n * s) = _
    have e1 : cur.toList.take o = xs.take o := by rw [← ht, List.take_take]; congr 1; omega
    have e2 : cur.toList.drop (o + vs.length) = xs.drop (o + vs.length) ++ cur.toList.drop (n * s) := by
      rw [e, List.drop_append, show o + vs.length - xs.length = 0 by omega, List.drop_zero, ← e]
    rw [e1, e2, ← List.append_assoc, ← List.append_assoc]
    rw [List.take_append_of_le_length (by simp; omega), List.take_of_length_le (by simp; omega), List.append_assoc]
theorem own_range (h : w.ownsRow base e s (.slice (some ⟨g, 0, none⟩) n cap) n xs) (o m : Nat) (cs : List Value) (hcs : (xs.drop o).take m = cs) : w.rangeAt g o cs := by
  rcases owned_formN h with ⟨h, _⟩ | ⟨g', cap', cur, h', hb, hn, hc, hh, hs, ht, _⟩
  · cases h
  · injection h' with e1 e2 e3
    injection e1 with e1
    injection e1 with e1
    subst e1 e3
    intro j v hv
    rw [hh.cell, ← Array.getElem?_toList]
    rw [← hcs, List.getElem?_take, List.getElem?_drop, ← ht, List.getElem?_take] at hv
    split at hv
    · split at hv
      · exact hv
      · cases hv
    · cases hv
theorem own_there (h : w.ownsRow base e s (.slice (some ⟨g, 0, none⟩) n cap) n xs) (o m : Nat) (hf : o + m ≤ n * s) : w.there g o m := by
  rcases owned_formN h with ⟨h, _⟩ | ⟨g', cap', cur, h', hb, hn, hc, hh, hs, ht, _⟩
  · cases h
  · injection h' with e1 e2 e3
    injection e1 with e1
    injection e1 with e1
    subst e1 e3
    intro j hj
    have hns : n * s ≤ cap * s := Nat.mul_le_mul_right _ hn
    have hlt : o + j < cur.size := by omega
    exact ⟨by rw [hh.cell, Array.getElem?_eq_getElem hlt]; rfl, hh.frozen _⟩
end
section
variable {P : Program} {ρ : Operand → Value} {o : Oper}
theorem exec_index (ty e : TypeId) (x i : Operand) (ho : o.op = .indexAddr ty x i) (g n cap : Nat) (k : Int) (kk : IntKind) (hx : ρ x = .slice (some ⟨g, 0, none⟩) n cap) (hi : ρ i = .int kk k) (hk : 0 ≤ k ∧ k < (n : Int)) (s : Nat) (hu : P.underlying ty = some (.slice e)) (hs : (P.info? e).map (·.size) = some s) (w : World) :
    (execOp ρ o).run P w = .ok (.value (.pointer (some ⟨g, k.toNat * s, none⟩))) w := by
  have e2 : P.elem ty = e := by simp [Program.elem, hu]
  unfold execOp
  simp only [ho, hx, hi, Sem.run_bind, Sem.run_pure, run_indexAt_slice w ty _ _ _ kk k (by rw [e2]; exact hu), e2, if_pos hk]
  cases hq : P.info? e with
  | none => simp [hq] at hs
  | some i =>
    have h1 : i.size = s := by simpa [hq] using hs
    have e0 : (⟨g, 0, none⟩ : Addr).add (k.toNat * s) = ⟨g, k.toNat * s, none⟩ := by rw [Addr.add_mid, Nat.zero_add]
    simp [sizeOf, typeInfo, hq, h1, e0]
theorem exec_load_mid (ty : TypeId) (x : Operand) (ho : o.op = .load ty x) (b off : Nat) (hx : ρ x = .pointer (some ⟨b, off, none⟩)) (cs : List Value) (d : TypeDesc) (w : World) (hc : w.rangeAt b off cs)
    (hu : P.underlying ty = some d) (hd : d.isRow = true) (hi : (P.info? ty).map (·.size) = some cs.length) : (execOp ρ o).run P w = .ok (.value (.agg cs.toArray)) w := by
  unfold execOp
  simp only [ho, hx, Instr.loadAt, Instr.sureAddr, Sem.run_bind, Sem.run_pure, Result.andThen_ok, run_loadVar_mid w b off ty cs d hc hu hd hi]
/-- one cell is loaded -/
theorem exec_load_cell (ty : TypeId) (x : Operand) (ho : o.op = .load ty x) (p : Addr) (hx : ρ x = .pointer (some p)) (u : Value) (d : TypeDesc) (w : World) (hu : P.underlying ty = some d) (hd : d.isRow = false) (hc : w.cell? p = some u) : (execOp ρ o).run P w = .ok (.value u) w := by
  have hagg : (isAgg ty).run P w = .ok false w := by
    unfold isAgg
    rw [Sem.run_bind, run_underlying hu w]
    cases d <;> simp_all
  unfold execOp
  simp [ho, hx, Instr.loadAt, Instr.sureAddr, loadVar, hagg, hc]
end
end Go.Proofs.Ytidiepbmbbflhaa
