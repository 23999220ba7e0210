/- rows of structs: append onto one, and where the new row lies. -/
import Derived.Test.YtidiepbmbbflhaaStep
import Derived.Test.YtidiepbmbbflhaaApp2
import Derived.Test.YtidiepbmbbflhaaGenMade
namespace Go.Proofs.Ytidiepbmbbflhaa
open Go Go.RowKit
section
variable {P : Program} {w : World}
theorem owned_formN {w : World} {base n s : Nat} {e : TypeId} {v : Value} {xs : List Value} (h : w.ownsRow base e s v n xs) :
    (v = .slice none 0 0 ∧ n = 0 ∧ xs = []) ∨ ∃ g cap cur, v = .slice (some ⟨g, 0, none⟩) n cap ∧ base ≤ g ∧ n ≤ cap ∧ cap ≤ maxLen ∧ Blk w g e cur ∧ cur.size = cap * s ∧ cur.toList.take (n * s) = xs ∧ g < w.heap.size := by
  obtain ⟨hl, h⟩ := h
  rcases h with ⟨h, h2⟩ | ⟨g, cap, cur, h, hb, hh, hn, hc, hs, ht⟩
  · exact .inl ⟨h, h2, List.eq_nil_of_length_eq_zero (by rw [hl, h2, Nat.zero_mul])⟩
  · exact .inr ⟨g, cap, cur, h, hb, hn, hc, hh, hs, ht, Blk.lt hh⟩
theorem own_cutN {w : World} {base e g n cap k s : Nat} {xs : List Value} (h : w.ownsRow base e s (.slice (some ⟨g, 0, none⟩) n cap) n xs) (hk : k ≤ n) : w.ownsRow base e s (.slice (some ⟨g, 0, none⟩) k cap) k (xs.take (k * s)) := by
  obtain ⟨hl, h⟩ := h
  have hks : k * s ≤ n * s := Nat.mul_le_mul_right _ hk
  rcases h with ⟨h, _⟩ | ⟨g', cap', cur, h, hb, hh, hn, hc, hs, ht⟩
  · cases h
  · injection h with e1 e2 e3
    injection e1 with e1
    injection e1 with e1
    subst e1 e3
    refine ⟨by rw [List.length_take]; omega, .inr ⟨g, cap, cur, rfl, hb, hh, by omega, hc, hs, ?_⟩⟩
    rw [← ht, List.take_take]
    congr 1
    omega
theorem owned_keepN {w w' : World} {base n s : Nat} {e : TypeId} {v : Value} {xs : List Value} (h : w.ownsRow base e s v n xs) (hk : ∀ g, v.ownBlock = some g → g < w.heap.size → w'.heap[g]? = w.heap[g]?) : w'.ownsRow base e s v n xs := by
  obtain ⟨hl, h⟩ := h
  refine ⟨hl, ?_⟩
  rcases h with h | ⟨g, cap, cur, h, hb, hh, hr⟩
  · exact .inl h
  · subst h
    exact .inr ⟨g, cap, cur, rfl, hb, (hk g rfl (Blk.lt hh)).trans hh, hr⟩
theorem owned_ltN {w : World} {base n g s : Nat} {e : TypeId} {v : Value} {xs : List Value} (h : w.ownsRow base e s v n xs) (hg : v.ownBlock = some g) : base ≤ g ∧ g < w.heap.size := by
  rcases owned_formN h with ⟨rfl, _⟩ | ⟨g', cap, cur, rfl, hb, _, _, hh, _⟩
  · cases hg
  · injection hg with hg
    change g' = g at hg
    subst hg
    exact ⟨hb, hh.lt⟩
theorem owned_neN {w : World} {base n g s : Nat} {e t : TypeId} {v : Value} {xs : List Value} {cs : Array Value} (h : w.ownsRow base e s v n xs) (hb : Blk w g t cs) (hne : e ≠ t) : v.ownBlock ≠ some g := by
  rcases owned_formN h with ⟨rfl, _⟩ | ⟨g', cap, cur, rfl, _, _, _, hh, _⟩
  · simp [Value.ownBlock]
  · intro he
    injection he with he
    change g' = g at he
    subst he
    exact Blk.ne_ hh hb hne rfl
theorem owned_baseN {w : World} {base base' n s : Nat} {e : TypeId} {v : Value} {xs : List Value} (h : w.ownsRow base e s v n xs) (hb : ∀ g, v.ownBlock = some g → base' ≤ g) : w.ownsRow base' e s v n xs := by
  obtain ⟨hl, h⟩ := h
  refine ⟨hl, ?_⟩
  rcases h with h | ⟨g, cap, cur, rfl, _, hr⟩
  · exact .inl h
  · exact .inr ⟨g, cap, cur, rfl, hb g rfl, hr⟩
theorem owned_placeN {w : World} {base n s : Nat} {e : TypeId} {v : Value} {xs : List Value} (h : w.ownsRow base e s v n xs) (hn : 0 < n) : ∃ g cap, v = .slice (some ⟨g, 0, none⟩) n cap := by
  rcases owned_formN h with ⟨_, h0, _⟩ | ⟨g, cap, cur, rfl, _⟩
  · omega
  · exact ⟨g, cap, rfl⟩
theorem run_appG (base : Nat) (t ty e : TypeId) (i : TypeInfo) (z : Value) (size bytes : Nat) (ht : P.underlying t = some (.slice e)) (hi : P.info? e = some i) (hz : i.zero = some z)
    (hsize : i.size = size) (hby : i.bytes = bytes) (hzs : z.cells.size = size) (hsz : 0 < size) (v : Value) (n : Nat) (xs : List Value) (hown : w.ownsRow base e size v n xs)
    (ad : Addr) (m c : Nat) (news : List Value) (hl : news.length = m * size) (hnews : ∀ j u, news[j]? = some u → w.cell? (ad.add j) = some u) (h1 : ∀ u ∈ news, u.oneCell' = true) (hm : 0 < m)
    (h63 : n + m ≤ maxLen) (hbytes : (n + m) * bytes ≤ 140737488355328) (hbase : base ≤ w.heap.size) :
    ∃ v' w', (Builtin.append_ #[t, t] ty #[v, .slice (some ad) m c]).run P w = .ok v' w' ∧ w'.ownsRow base e size v' (n + m) (xs ++ news) ∧ w.grownBy w' v.ownBlock ∧ Grew w w' v v' n m := by
  obtain ⟨v', w', hr, h2, h3, h4, h5⟩ := run_append_own_at (P := P) w base t ty e i z size bytes ht hi hz hsize hby hzs hsz v n xs hown ad m c news hl hnews h1 h63 hbytes hbase
  refine ⟨v', w', hr, h2, h3, ?_⟩
  have hsmall : n + m ≤ 9223372036854775807 := by simp only [maxLen] at h63; omega
  have hl' : news.length = m * i.size := by rw [hsize]; exact hl
  have hxl : xs.length = n * i.size := by rw [hsize]; exact hown.1
  have hms : (n + m) * size = n * size + m * size := Nat.add_mul ..
  rcases owned_formN hown with ⟨rfl, rfl, rfl⟩ | ⟨g, cap, cur, rfl, hbg, hnc, hcm, hg, hcs, htake, _⟩
  · have h := run_append_nil (P := P) w t ty e i z ht hi hz ad m c news hl' hnews hm (by omega) (by rw [hby]; have hb := hbytes; simp only [Nat.zero_add] at hb; omega)
    rw [hr] at h
    injection h with k4 k5
    subst k4 k5
    exact .inr ⟨rfl, ((Below.refl _ _).drew).alloc (Nat.le_refl _) _⟩
  · by_cases hroom : n + m ≤ cap
    · have hcap : (n + m) * size ≤ cap * size := Nat.mul_le_mul_right _ hroom
      have h := run_append_room (P := P) w t ty e i ht hi g n cap cur hg ad m c news hl' hnews h1 hroom (by rw [hl, hsize, hcs]; omega)
      rw [hr] at h
      injection h with k4 k5
      subst k4
      exact .inl ⟨g, cap, rfl, rfl⟩
    · have holds : ∀ j u, xs[j]? = some u → w.cell? ((⟨g, 0, none⟩ : Addr).add j) = some u := by
        intro j u hu
        have hc := hg.cell j
        have h0 : (⟨g, 0, none⟩ : Addr).add j = ⟨g, j, none⟩ := by cases j <;> simp [Addr.add]
        rw [h0, hc, ← Array.getElem?_toList]
        rw [← htake] at hu
        have hj : j < n * size := by
          have := (List.getElem?_eq_some_iff.1 hu).1
          rw [List.length_take] at this
          omega
        rwa [List.getElem?_take_of_lt hj] at hu
      have h := run_append_grow (P := P) w t ty e i z ht hi hz ⟨g, 0, none⟩ n cap xs hxl holds ad m c news hl' hnews (by omega) (by omega) (growslice_fits (by omega) (by rw [hby]; exact hbytes))
      rw [hr] at h
      injection h with k4 k5
      subst k4 k5
      exact .inr ⟨rfl, ((Below.refl _ _).drew).alloc (Nat.le_refl _) _⟩
end
section
variable (R e s n m : Nat) (v : Value) (ys : List Value)
/-- the grown row in the old one's place -/
def InPlace (w : World) (k : Nat) : Prop := ∃ cap, w.ownsRow R e s (.slice (some ⟨k, 0, none⟩) (n + m) cap) (n + m) ys
/-- a world in which the row may have grown in its place; all else is as it was, but for what is new -/
def Gro (a b : World) : Prop := Turned (fun k => v.ownBlock = some k) a b ∧ ∀ k, v.ownBlock = some k → k < a.heap.size → b.heap[k]? = a.heap[k]? ∨ ∃ cap, v = .slice (some ⟨k, 0, none⟩) n cap ∧ b.ownsRow R e s (.slice (some ⟨k, 0, none⟩) (n + m) cap) (n + m) ys
instance : Gen.RelOk (Gro R e s n m v ys) where
  refl w := ⟨Turned.refl _ _, fun _ _ _ => .inl rfl⟩
  drew w := ⟨(Turned.refl _ _).drew, fun _ _ _ => .inl rfl⟩
  trans a b c h1 h2 := ⟨h1.1.trans h2.1, fun k hk hlt => by
    have hltb : k < b.heap.size := Nat.lt_of_lt_of_le hlt h1.1.size
    rcases h2.2 k hk hltb with h | h
    · rcases h1.2 k hk hlt with h3 | ⟨cap, h4, h3⟩
      · exact .inl (h.trans h3)
      · exact .inr ⟨cap, h4, owned_keepN h3 fun g hg _ => by
          have hg : some k = some g := hg
          injection hg with hg
          subst hg
          exact h⟩
    · exact .inr h⟩
/-- the grown row -/
def Grown (N : Nat) (u : Value) (w : World) : Prop := w.ownsRow R e s u (n + m) ys ∧ ((∃ k cap, v = .slice (some ⟨k, 0, none⟩) n cap ∧ u = .slice (some ⟨k, 0, none⟩) (n + m) cap ∧ k < N) ∨ ∃ r, u.ownBlock = some r ∧ N ≤ r ∧ ∀ k, v.ownBlock = some k → k < N)
variable {R e s n m v ys}
theorem Gro.own {w0 w : World} {xs news : List Value} (h : Gro R e s n m v (xs ++ news) w0 w) (ho : w0.ownsRow R e s v n xs) : w.ownsRow R e s v n xs := by
  rcases owned_formN ho with ⟨rfl, rfl, rfl⟩ | ⟨g, cap, cur, rfl, _, _, _, _, _, _, hlt⟩
  · exact ⟨ho.1, .inl ⟨rfl, rfl⟩⟩
  · rcases h.2 g rfl hlt with h2 | ⟨cap', h2, h3⟩
    · exact owned_keepN ho fun k hk _ => by
        have hk : some g = some k := hk
        injection hk with hk
        subst hk
        exact h2
    · injection h2 with _ _ h2
      subst h2
      have h4 := own_cutN h3 (Nat.le_add_right n m)
      rwa [List.take_left' ho.1] at h4
theorem Gro.grow {w w' : World} {u : Value} {xs news : List Value} (ho : w.ownsRow R e s v n xs) (hw : w'.ownsRow R e s u (n + m) (xs ++ news)) (hb : w.grownBy w' v.ownBlock) (hg : Grew w w' v u n m) : Gro R e s n m v (xs ++ news) w w' := by
  refine ⟨Turned.of_grown hb (fun k h _ => h), fun k hk hlt => ?_⟩
  rcases hg with ⟨g, cap, h1, h2⟩ | ⟨_, h2⟩
  · subst h1 h2
    have hk : some g = some k := hk
    injection hk with hk
    subst hk
    exact .inr ⟨cap, rfl, hw⟩
  · exact .inl (h2.block k hlt)
theorem Grown.of {w0 w w' : World} {u : Value} {xs news : List Value} (ho0 : w0.ownsRow R e s v n xs) (hsz : w0.heap.size ≤ w.heap.size) (hw : w'.ownsRow R e s u (n + m) (xs ++ news)) (hg : Grew w w' v u n m) : Grown R e s n m v (xs ++ news) w0.heap.size u w' := by
  refine ⟨hw, ?_⟩
  rcases hg with ⟨g, cap, h1, h2⟩ | ⟨h1, _⟩
  · exact .inl ⟨g, cap, h1, h2, (owned_ltN ho0 (g := g) (by rw [h1]; rfl)).2⟩
  · exact .inr ⟨_, h1, hsz, fun k hk => (owned_ltN ho0 hk).2⟩
theorem Grown.stays {N : Nat} {w w' : World} {u : Value} {xs news : List Value} (h : Grown R e s n m v (xs ++ news) N u w) (hx : Gro R e s n m v (xs ++ news) w w') : Grown R e s n m v (xs ++ news) N u w' := by
  obtain ⟨h1, h2⟩ := h
  refine ⟨?_, h2⟩
  rcases h2 with ⟨k, cap, rfl, rfl, hk⟩ | ⟨r, hr, hN, hv⟩
  · have hlt := (owned_ltN h1 (g := k) rfl).2
    rcases hx.2 k rfl hlt with h3 | ⟨cap', h3, h4⟩
    · exact owned_keepN h1 fun j hj _ => by
        have hj : some k = some j := hj
        injection hj with hj
        subst hj
        exact h3
    · injection h3 with _ _ h3
      subst h3
      exact h4
  · exact owned_keepN h1 fun j hj hlt => hx.1.block j hlt (fun hvj => by
      have := hv j hvj
      rw [hr] at hj
      injection hj with hj
      omega)
theorem Grown.blk {N : Nat} {w : World} {u : Value} {xs news : List Value} (hm : 0 < n + m) (h : Grown R e s n m v (xs ++ news) N u w) : ∃ r, u.ownBlock = some r ∧ r < w.heap.size := by
  obtain ⟨g, cap, rfl⟩ := owned_placeN h.1 hm
  exact ⟨g, rfl, (owned_ltN h.1 (g := g) rfl).2⟩
end
theorem fold_set : ∀ (l : List Value) (k : Nat) (arr : Array Value), k + l.length ≤ arr.size → (l.zipIdx k).foldl (fun cs (p : Value × Nat) => cs.setIfInBounds (0 + p.2) p.1) arr = (arr.toList.take k ++ l ++ arr.toList.drop (k + l.length)).toArray
  | [], k, arr, _ => by simp
  | x :: l, k, arr, h => by
    simp only [List.length_cons] at h
    rw [List.zipIdx_cons, List.foldl_cons, fold_set l (k + 1) _ (by simp; omega)]
    simp only [Nat.zero_add, Array.toList_setIfInBounds, List.length_cons]
    congr 1
    have hk : k < arr.toList.length := by simp; omega
    rw [List.take_set, List.drop_set_of_lt (by omega), List.take_succ_eq_append_getElem hk, List.set_append_right _ _ (by simp; omega)]
    have : k - (List.take k arr.toList).length = 0 := by simp; omega
    rw [this]
    simp [Nat.add_comm, Nat.add_left_comm]
section
variable {P : Program}
theorem run_buildSlice1 (t e : TypeId) (i : TypeInfo) (z : Value) (cs : Array Value) (ht : P.underlying t = some (.slice e)) (hi : P.info? e = some i) (hz : i.zero = some z) (hs : i.size = cs.size) (h0 : 0 < cs.size) (h24 : cs.size ≤ 16777216) (w : World) :
    (Instr.buildSlice t 1 #[(0, .agg cs)]).run P w = .ok (.slice (some ⟨w.heap.size, 0, none⟩) 1 1) (w.alloc (.cells cs e)) := by
  have h24' : ¬ (16777216 < cs.size) := by omega
  have hne : cs.size ≠ 0 := by omega
  have hc : ∀ arr : Array Value, arr.size = cs.size → cs.zipIdx.foldl (fun (a : Array Value) (p : Value × Nat) => a.setIfInBounds (0 + p.2) p.1) arr = cs := by
    intro arr ha
    rw [← Array.foldl_toList, Array.toList_zipIdx, fold_set cs.toList 0 arr (by simp [ha])]
    have : List.drop (0 + cs.toList.length) arr.toList = [] := List.drop_eq_nil_of_le (by simp [ha])
    rw [this]; simp
  have hf : ∀ arr : Array Value, arr.size = cs.size → Instr.fill (fun i => some (i * cs.size, cs.size)) arr [(0, .agg cs)] = some cs := by
    intro arr ha
    simp only [Instr.fill, Value.cells, Nat.zero_mul]
    have h2 := hc arr ha
    simp only [Nat.zero_add] at h2 ⊢
    rw [if_neg (by simp [ha])]
    have h3 : ∀ (k : Nat), k = cs.zipIdx.size → Array.foldl (fun (a : Array Value) (p : Value × Nat) => a.setIfInBounds p.2 p.1) arr cs.zipIdx 0 k = cs := fun k hk => by rw [hk]; exact h2
    exact congrArg some (h3 _ (by simp))
  have hf2 := hf ((Array.range cs.size).map (z.cells[· % z.cells.size]!)) (by simp)
  simp only [Instr.buildSlice, Sem.run_bind, run_underlying ht, Result.andThen_ok]
  simp [run_sizeOf w hi, Program.cellsOf, hi, hs, h24', hne, zeroValue, run_typeInfo w hi, hz, hf2, newRow]
end
section
variable {P : Program} {ρ : Operand → Value} {o : Oper}
theorem exec_load_blk (ty : TypeId) (x : Operand) (ho : o.op = .load ty x) (g : Nat) (hx : ρ x = .pointer (some ⟨g, 0, none⟩)) (t : TypeId) (cs : Array Value) (d : TypeDesc) (w : World) (hg : Blk w g t cs)
    (hu : P.underlying ty = some d) (hd : (match d with | .struct _ | .array _ _ => true | _ => false) = true) (hi : (P.info? ty).map (·.size) = some cs.size) : (execOp ρ o).run P w = .ok (.value (.agg cs)) w := by
  unfold execOp
  simp only [ho, hx, Instr.loadAt, Instr.sureAddr, Sem.run_bind, Sem.run_pure, Result.andThen_ok, run_loadVar_row w g t ty cs (0, 0) d hg hu hd hi]
theorem exec_load_slice (ty e : TypeId) (x : Operand) (ho : o.op = .load ty x) (p : Addr) (hx : ρ x = .pointer (some p)) (u : Value) (w : World) (hu : P.underlying ty = some (.slice e)) (hc : w.cell? p = some u) : (execOp ρ o).run P w = .ok (.value u) w := by
  unfold execOp
  simp [ho, hx, Instr.loadAt, Instr.sureAddr, loadVar, isAgg, run_underlying hu, hc]
theorem exec_build1 (t e : TypeId) (x : Operand) (ho : o.op = .buildSlice t 1 #[(0, x)]) (i : TypeInfo) (z : Value) (cs : Array Value) (hx : ρ x = .agg cs) (ht : P.underlying t = some (.slice e)) (hi : P.info? e = some i) (hz : i.zero = some z) (hs : i.size = cs.size) (h0 : 0 < cs.size) (h24 : cs.size ≤ 16777216) (w : World) :
    (execOp ρ o).run P w = .ok (.value (.slice (some ⟨w.heap.size, 0, none⟩) 1 1)) (w.alloc (.cells cs e)) := by
  unfold execOp
  simp only [ho, List.map_toArray, List.map_cons, List.map_nil, hx, Sem.run_bind, run_buildSlice1 t e i z cs ht hi hz hs h0 h24 w, Result.andThen_ok, Sem.run_pure]
theorem exec_append (s x : Operand) (t : TypeId) (ho : o.op = .call { callee := .builtin .append, args := #[s, x], argTypes := #[t, t] }) (v y v' : Value) (w w' : World) (hs : ρ s = v) (hx : ρ x = y)
    (hr : (Builtin.append_ #[t, t] o.type #[v, y]).run P w = .ok v' w') : (execOp ρ o).run P w = .ok (.value v') w' := by
  unfold execOp
  simp only [ho, resolve, invoke, builtin, Sem.run_bind, Sem.run_pure, Result.andThen_ok, List.map_toArray, List.map_cons, List.map_nil, hs, hx, hr]
end
/-- a row of one, made behind N -/
def MadeRow (N : Nat) (ty : TypeId) (cs : Array Value) (u : Value) (w : World) : Prop := ∃ r, u = .slice (some ⟨r, 0, none⟩) 1 1 ∧ N ≤ r ∧ Blk w r ty cs
theorem MadeRow.cells {ty : TypeId} {l : List Value} {r : Nat} {w : World} (h : Blk w r ty l.toArray) : ∀ j u, l[j]? = some u → w.cell? ((⟨r, 0, none⟩ : Addr).add j) = some u := by
  intro j u hu
  have h0 : (⟨r, 0, none⟩ : Addr).add j = ⟨r, j, none⟩ := by cases j <;> simp [Addr.add]
  rw [h0, h.cell j, ← hu]
  simp
/-- copy into a block, whatever the source is -/
theorem wpList_copyS {P : Program} {ops : Array Oper} {rest : List Oper} {o : Oper} {a : Act} {w : World} {Q : Exit → Act → World → Prop} (hgd : o.guard = none) (d s : Operand) (dT sT : TypeId)
    (ho : o.op = .call { callee := .builtin .copy, args := #[d, s], argTypes := #[dT, sT] }) (elem : TypeId) (hu : P.underlying dT = some (.slice elem)) (hsz : (P.info? elem).map (·.size) = some 1)
    (g off dLen dCap : Nat) (A : Option Addr) (sLen sCap : Nat) (cur : Array Value) (t : TypeId) (hg : Blk w g t cur) (cs : List Value) (hn : cs.length = Nat.min sLen dLen)
    (hsrc : Src w A sLen sCap cs) (hfit : off + cs.length ≤ cur.size)
    (hd : a.eval d = .slice (some ⟨g, off, none⟩) dLen dCap) (hs : a.eval s = .slice A sLen sCap)
    (h : ∀ w', Blk w' g t (cur.toList.take off ++ (cs ++ cur.toList.drop (off + cs.length))).toArray → w.grownBy w' (some g) → wpList P ops Q rest (a.put o.dst (goInt cs.length)) w') : wpList P ops Q (o :: rest) a w := by
  rcases A with _ | ad
  · obtain ⟨rfl, rfl⟩ := hsrc.none_ rfl
    obtain rfl : cs = [] := List.eq_nil_of_length_eq_zero hsrc.len
    refine wpList_plain hgd fun K hK => ?_
    have hw : Blk w g t (cur.toList.take off ++ ([] ++ cur.toList.drop (off + ([] : List Value).length))).toArray := by simpa using hg
    have hr : (Builtin.copy_ #[dT, sT] o.type #[.slice (some ⟨g, off, none⟩) dLen dCap, .slice none 0 0]).run P w = .ok (goInt 0) w := by
      cases hi : P.info? elem with
      | none => simp [hi] at hsz
      | some i =>
        simp [Builtin.copy_, run_underlying hu, Builtin.lenOf, sizeOf, typeInfo, hi, Builtin.firstCells, storeCells]
    unfold Oper.wp execOp
    simp only [ho, resolve, invoke, builtin, Sem.run_bind, Sem.run_pure, Result.andThen_ok, List.map_toArray, List.map_cons, List.map_nil, hd, hs, hr]
    exact hK _ _ (h w hw (World.grownBy.refl w _))
  · exact wpList_copyA hgd d s dT sT ho elem hu hsz g off dLen dCap ad sLen sCap cur t hg cs hn (hsrc.cells ad rfl) hfit hsrc.one hd hs h
end Go.Proofs.Ytidiepbmbbflhaa
