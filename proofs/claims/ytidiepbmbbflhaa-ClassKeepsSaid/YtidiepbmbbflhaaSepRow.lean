/- A thing of a row of one's own is stored anew; the end of such a row is cleared. -/
import Derived.Test.YtidiepbmbbflhaaSep2
namespace Go.Proofs.Ytidiepbmbbflhaa
open Go Go.RowKit
section
variable {P : Program} {w : World} {ops : Array Oper} {rest : List Oper} {o : Oper} {a : Act} {Q : Exit → Act → World → Prop}
theorem flatMap_set {α : Type} {f : α → List Value} {s : Nat} : ∀ (l : List α) (k : Nat) (x : α), (∀ y ∈ l, (f y).length = s) → k < l.length → (l.set k x).flatMap f = (l.flatMap f).take (k * s) ++ (f x ++ (l.flatMap f).drop (k * s + s))
  | [], k, x, _, hk => by simp at hk
  | y :: l, 0, x, h, _ => by
    have hy := h y (by simp)
    simp only [List.set_cons_zero, List.flatMap_cons, Nat.zero_mul, List.take_zero, List.nil_append, Nat.zero_add]
    rw [List.drop_left' hy]
  | y :: l, k + 1, x, h, hk => by
    have hy := h y (by simp)
    have ih := flatMap_set l k x (fun z hz => h z (by simp [hz])) (by simpa using hk)
    have e1 : (k + 1) * s = s + k * s := by rw [Nat.add_mul]; omega
    rw [List.set_cons_succ, List.flatMap_cons, List.flatMap_cons, ih, e1]
    rw [List.take_append, List.drop_append, hy]
    have e2 : s + k * s - s = k * s := by omega
    have e3 : s + k * s + s - s = k * s + s := by omega
    have e4 : (f y).take (s + k * s) = f y := List.take_of_length_le (by omega)
    have e5 : (f y).drop (s + k * s + s) = [] := List.drop_eq_nil_of_le (by omega)
    rw [e2, e3, e4, e5]
    simp
theorem wpList_storeRow (hg : o.guard = none) (ty : TypeId) (x y : Operand) (ho : o.op = .store ty x y) {B g n cap s k : Nat} {xs : List Value} (hown : w.ownsRow B ty s (.slice (some ⟨g, 0, none⟩) n cap) n xs) (cs : List Value) (hk : k < n) (hcs : cs.length = s) (hi : (P.info? ty).map (·.size) = some cs.toArray.size) (h1 : cs.toArray.all (·.oneCell') = true)
    (hx : a.eval x = .pointer (some ⟨g, k * s, none⟩)) (hy : a.eval y = .agg cs.toArray)
    (h : ∀ w', w'.ownsRow B ty s (.slice (some ⟨g, 0, none⟩) n cap) n (xs.take (k * s) ++ (cs ++ xs.drop (k * s + s))) → w.grownBy w' (some g) → w'.heap.size = w.heap.size → wpList P ops Q rest (a.put o.dst undef) w') : wpList P ops Q (o :: rest) a w := by
  have hks : k * s + s ≤ n * s := by
    have : (k + 1) * s ≤ n * s := Nat.mul_le_mul_right _ hk
    rwa [Nat.add_mul, Nat.one_mul] at this
  have hth := own_there hown (k * s) cs.length (by rw [hcs]; exact hks)
  refine wpList_store_mid hg ty x y ho g (k * s) cs.toArray hx hy (by simpa using hth) hi h1 ?_
  have h2 := own_setCells hown (k * s) cs (by rw [hcs]; exact hks)
  rw [hcs] at h2
  have hg2 := grown_setCells (g := g) cs (k * s) w (World.grownBy.refl w (some g))
  have hsz : ∀ (vs : List Value) (q : Nat) (w : World), (w.setCells g q vs).heap.size = w.heap.size := by
    intro vs
    induction vs with
    | nil => intro q w; rfl
    | cons v vs ih => intro q w; rw [World.setCells, ih]; simp [World.setCell]
  exact h _ (by simpa using h2) (by simpa using hg2) (by simpa using hsz cs (k * s) w)
/-- the rest of a row is cleared: what is ahead of it stays -/
theorem wpList_clearRow (hg : o.guard = none) (st ty : TypeId) (x : Operand) (ho : o.op = .call { callee := .builtin .clear, args := #[x], argTypes := #[st] }) (hst : P.underlying st = some (.slice ty)) {z : Value} (hz : ∀ w, (zeroValue ty).run P w = .ok z w) (hz1 : ∀ v ∈ z.cells, v.oneCell' = true) {B g n cap s k c : Nat} (hzs : z.cells.size = s) (hs0 : 0 < s) {xs : List Value} (hown : w.ownsRow B ty s (.slice (some ⟨g, 0, none⟩) n cap) n xs) (hk : k < n)
    (hx : a.eval x = .slice (some ⟨g, k * s, none⟩) (n - k) c)
    (h : ∀ w', w'.ownsRow B ty s (.slice (some ⟨g, 0, none⟩) k cap) k (xs.take (k * s)) → w.grownBy w' (some g) → wpList P ops Q rest (a.put o.dst (.tuple #[])) w') : wpList P ops Q (o :: rest) a w := by
  obtain ⟨vs, hvs⟩ : ∃ vs, vs = (Builtin.zeroCells z.cells (n - k)).toList := ⟨_, rfl⟩
  have hvl : vs.length = (n - k) * s := by rw [hvs, Array.length_toList, size_zeroCells, hzs]
  have hone : ∀ v ∈ vs, v.oneCell' = true := fun v hv => by
    rw [hvs] at hv
    unfold Builtin.zeroCells at hv
    simp only [Array.toList_map, List.mem_map] at hv
    obtain ⟨i, _, rfl⟩ := hv
    have hlt : i % z.cells.size < z.cells.size := Nat.mod_lt _ (by omega)
    rw [getElem!_pos z.cells (i % z.cells.size) hlt]
    exact hz1 _ (Array.getElem_mem _)
  have hks : k * s + (n - k) * s = n * s := by rw [← Nat.add_mul]; congr 1; omega
  have hth := own_there hown (k * s) ((n - k) * s) (by omega)
  have hrun := run_storeCells_cells (P := P) g (k * s) vs 0 w (fun j hj => by simpa using (hth j (by omega)).1) (fun j hj => by simpa using (hth j (by omega)).2) hone
  have h2 := own_setCells hown (k * s) vs (by omega)
  have h3 := own_cutN h2 (Nat.le_of_lt hk)
  rw [List.take_append_of_le_length (by rw [List.length_take, hown.1]; have : k * s ≤ n * s := Nat.mul_le_mul_right _ (Nat.le_of_lt hk); omega), List.take_take, Nat.min_self] at h3
  have hg2 := grown_setCells (g := g) vs (k * s) w (World.grownBy.refl w (some g))
  have hne : n - k ≠ 0 := by omega
  have hcl : (Builtin.clear_ #[st] o.type #[.slice (some ⟨g, k * s, none⟩) (n - k) c]).run P w = .ok (.tuple #[]) (w.setCells g (k * s) vs) := by
    unfold Builtin.clear_
    simp only [Nat.add_zero] at hrun
    have e : (do storeCells ⟨g, k * s, none⟩ (Builtin.zeroCells (← zeroValue ty).cells (n - k)).toList : Sem Unit).run P w = .ok () (w.setCells g (k * s) vs) := by
      rw [Sem.run_bind, hz, Result.andThen_ok, ← hvs, hrun]
    cases hm : n - k with
    | zero => omega
    | succ m =>
      rw [hm] at e
      rw [Sem.run_bind] at e
      simp [run_underlying hst]
      rw [hz] at e ⊢
      simp only [Result.andThen_ok] at e ⊢
      rw [e]
      rfl
  refine wpList_plain hg fun K hK => ?_
  unfold Oper.wp execOp
  simp only [ho, resolve, invoke, builtin, Sem.run_bind, Sem.run_pure, Result.andThen_ok, List.map_toArray, List.map_cons, List.map_nil, hx, hcl]
  exact hK _ _ (h _ h3 hg2)
theorem exec_sliceFrom {ρ : Operand → Value} {o : Oper} (t e s : Nat) (x y : Operand) (ho : o.op = .slice t x (some y) none none) (b off len cap n : Nat) (hx : ρ x = .slice (some ⟨b, off, none⟩) len cap) (hy : ρ y = .int .i64 (n : Int)) (ht : P.underlying t = some (.slice e)) (hs : (P.info? e).map (·.size) = some s) (hn : n ≤ len) (_ : len ≤ cap) (hc : n < cap) (w : World) :
    (execOp ρ o).run P w = .ok (.value (.slice (some ⟨b, off + n * s, none⟩) (len - n) (cap - n))) w := by
  refine exec_slice t x (some y) none none ho _ (fun W => ?_) w
  rw [hx, Option.map_some, hy]
  have e2 : P.elem t = e := by simp [Program.elem, ht]
  rw [run_sliceAt_slice W t _ _ _ _ (by rw [e2]; exact ht)]
  have h := run_slice_l (P := P) W t (some ⟨b, off, none⟩) len cap (by rw [e2]; exact ht) .i64 (n : Int) (by omega) (by omega)
  refine h.trans ?_
  rw [e2]
  cases hi : P.info? e with
  | none => simp [hi] at hs
  | some i =>
    have h1 : i.size = s := by simpa [hi] using hs
    have h3 : ¬ cap = n := by omega
    simp [sizeOf, typeInfo, hi, h1, sliced, Addr.add, h3]

end
end Go.Proofs.Ytidiepbmbbflhaa
