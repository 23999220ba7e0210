/- rows of structs: append onto one, and where the new row lies. spenceref05, package log: shapes. package log: how a shape lies. package blob: runs in memory; which sectors they have. spencelaw07: puts in memory. GenTail's law, where what is made need not be apart: a made slot may hold an aggregate. Printed by gen/free.py. GenMade's law, where what is made need not be apart. Printed by gen/free.py. the region law of XFreMade: an operation that looks at two made slots. spencelaw07.BlobEnds: its plain words. -/
import Derived.Test.YtfppddnfdinipaaMBE1
import Derived.LoopN
import Derived.Below
section
namespace Go.Proofs.Ytfppddnfdinipaa
open Go Go.RowKit
section
variable {P : Program} {w : World}
theorem owned_formN {w : World} {base n s : Nat} {e : TypeId} {v : Value} {xs : List Value} (h : w.ownsRow base e s v n xs) :
    (v = .slice none 0 0 ∧ n = 0 ∧ xs = []) ∨ ∃ g cap cur, v = .slice (some ⟨g, 0, none⟩) n cap ∧ base ≤ g ∧ n ≤ cap ∧ cap ≤ maxLen ∧ Blk w g e cur ∧ cur.size = cap * s ∧ cur.toList.take (n * s) = xs ∧ g < w.heap.size := by
  obtain ⟨hl, h⟩ := h
  rcases h with ⟨h, h2⟩ | ⟨g, cap, cur, h, hb, hh, hn, hc, hs, ht⟩
  · exact .inl ⟨h, h2, List.eq_nil_of_length_eq_zero (by rw [hl, h2, Nat.zero_mul])⟩
  · exact .inr ⟨g, cap, cur, h, hb, hn, hc, hh, hs, ht, Blk.lt hh⟩
theorem own_cutN {w : World} {base e g n cap k s : Nat} {xs : List Value} (h : w.ownsRow base e s (.slice (some ⟨g, 0, none⟩) n cap) n xs) (hk : k ≤ n) : w.ownsRow base e s (.slice (some ⟨g, 0, none⟩) k cap) k (xs.take (k * s)) := by
  obtain ⟨hl, h⟩ := h
  have hks : k * s ≤ n * s := Nat.mul_le_mul_right _ hk
  rcases h with ⟨h, _⟩ | ⟨g', cap', cur, h, hb, hh, hn, hc, hs, ht⟩
  · cases h
  · injection h with e1 e2 e3
    injection e1 with e1
    injection e1 with e1
    subst e1 e3
    refine ⟨by rw [List.length_take]; omega, .inr ⟨g, cap, cur, rfl, hb, hh, by omega, hc, hs, ?_⟩⟩
    rw [← ht, List.take_take]
    congr 1
    omega
theorem owned_keepN {w w' : World} {base n s : Nat} {e : TypeId} {v : Value} {xs : List Value} (h : w.ownsRow base e s v n xs) (hk : ∀ g, v.ownBlock = some g → g < w.heap.size → w'.heap[g]? = w.heap[g]?) : w'.ownsRow base e s v n xs := by
  obtain ⟨hl, h⟩ := h
  refine ⟨hl, ?_⟩
  rcases h with h | ⟨g, cap, cur, h, hb, hh, hr⟩
  · exact .inl h
  · subst h
    exact .inr ⟨g, cap, cur, rfl, hb, (hk g rfl (Blk.lt hh)).trans hh, hr⟩
theorem owned_ltN {w : World} {base n g s : Nat} {e : TypeId} {v : Value} {xs : List Value} (h : w.ownsRow base e s v n xs) (hg : v.ownBlock = some g) : base ≤ g ∧ g < w.heap.size := by
  rcases owned_formN h with ⟨rfl, _⟩ | ⟨g', cap, cur, rfl, hb, _, _, hh, _⟩
  · cases hg
  · injection hg with hg
    change g' = g at hg
    subst hg
    exact ⟨hb, hh.lt⟩
theorem owned_neN {w : World} {base n g s : Nat} {e t : TypeId} {v : Value} {xs : List Value} {cs : Array Value} (h : w.ownsRow base e s v n xs) (hb : Blk w g t cs) (hne : e ≠ t) : v.ownBlock ≠ some g := by
  rcases owned_formN h with ⟨rfl, _⟩ | ⟨g', cap, cur, rfl, _, _, _, hh, _⟩
  · simp [Value.ownBlock]
  · intro he
    injection he with he
    change g' = g at he
    subst he
    exact Blk.ne_ hh hb hne rfl
theorem owned_baseN {w : World} {base base' n s : Nat} {e : TypeId} {v : Value} {xs : List Value} (h : w.ownsRow base e s v n xs) (hb : ∀ g, v.ownBlock = some g → base' ≤ g) : w.ownsRow base' e s v n xs := by
  obtain ⟨hl, h⟩ := h
  refine ⟨hl, ?_⟩
  rcases h with h | ⟨g, cap, cur, rfl, _, hr⟩
  · exact .inl h
  · exact .inr ⟨g, cap, cur, rfl, hb g rfl, hr⟩
theorem owned_placeN {w : World} {base n s : Nat} {e : TypeId} {v : Value} {xs : List Value} (h : w.ownsRow base e s v n xs) (hn : 0 < n) : ∃ g cap, v = .slice (some ⟨g, 0, none⟩) n cap := by
  rcases owned_formN h with ⟨_, h0, _⟩ | ⟨g, cap, cur, rfl, _⟩
  · omega
  · exact ⟨g, cap, rfl⟩
theorem run_appG (base : Nat) (t ty e : TypeId) (i : TypeInfo) (z : Value) (size bytes : Nat) (ht : P.underlying t = some (.slice e)) (hi : P.info? e = some i) (hz : i.zero = some z)
    (hsize : i.size = size) (hby : i.bytes = bytes) (hzs : z.cells.size = size) (hsz : 0 < size) (v : Value) (n : Nat) (xs : List Value) (hown : w.ownsRow base e size v n xs)
    (ad : Addr) (m c : Nat) (news : List Value) (hl : news.length = m * size) (hnews : ∀ j u, news[j]? = some u → w.cell? (ad.add j) = some u) (h1 : ∀ u ∈ news, u.oneCell' = true) (hm : 0 < m)
    (h63 : n + m ≤ maxLen) (hbytes : (n + m) * bytes ≤ 140737488355328) (hbase : base ≤ w.heap.size) :
    ∃ v' w', (Builtin.append_ #[t, t] ty #[v, .slice (some ad) m c]).run P w = .ok v' w' ∧ w'.ownsRow base e size v' (n + m) (xs ++ news) ∧ w.grownBy w' v.ownBlock ∧ Grew w w' v v' n m := by
  obtain ⟨v', w', hr, h2, h3, h4, h5⟩ := run_append_own_at (P := P) w base t ty e i z size bytes ht hi hz hsize hby hzs hsz v n xs hown ad m c news hl hnews h1 h63 hbytes hbase
  refine ⟨v', w', hr, h2, h3, ?_⟩
  have hsmall : n + m ≤ 9223372036854775807 := by simp only [maxLen] at h63; omega
  have hl' : news.length = m * i.size := by rw [hsize]; exact hl
  have hxl : xs.length = n * i.size := by rw [hsize]; exact hown.1
  have hms : (n + m) * size = n * size + m * size := Nat.add_mul ..
  rcases owned_formN hown with ⟨rfl, rfl, rfl⟩ | ⟨g, cap, cur, rfl, hbg, hnc, hcm, hg, hcs, htake, _⟩
  · have h := run_append_nil (P := P) w t ty e i z ht hi hz ad m c news hl' hnews hm (by omega) (by rw [hby]; have hb := hbytes; simp only [Nat.zero_add] at hb; omega)
    rw [hr] at h
    injection h with k4 k5
    subst k4 k5
    exact .inr ⟨rfl, ((Below.refl _ _).drew).alloc (Nat.le_refl _) _⟩
  · by_cases hroom : n + m ≤ cap
    · have hcap : (n + m) * size ≤ cap * size := Nat.mul_le_mul_right _ hroom
      have h := run_append_room (P := P) w t ty e i ht hi g n cap cur hg ad m c news hl' hnews h1 hroom (by rw [hl, hsize, hcs]; omega)
      rw [hr] at h
      injection h with k4 k5
      subst k4
      exact .inl ⟨g, cap, rfl, rfl⟩
    · have holds : ∀ j u, xs[j]? = some u → w.cell? ((⟨g, 0, none⟩ : Addr).add j) = some u := by
        intro j u hu
        have hc := hg.cell j
        have h0 : (⟨g, 0, none⟩ : Addr).add j = ⟨g, j, none⟩ := by cases j <;> simp [Addr.add]
        rw [h0, hc, ← Array.getElem?_toList]
        rw [← htake] at hu
        have hj : j < n * size := by
          have := (List.getElem?_eq_some_iff.1 hu).1
          rw [List.length_take] at this
          omega
        rwa [List.getElem?_take_of_lt hj] at hu
      have h := run_append_grow (P := P) w t ty e i z ht hi hz ⟨g, 0, none⟩ n cap xs hxl holds ad m c news hl' hnews (by omega) (by omega) (growslice_fits (by omega) (by rw [hby]; exact hbytes))
      rw [hr] at h
      injection h with k4 k5
      subst k4 k5
      exact .inr ⟨rfl, ((Below.refl _ _).drew).alloc (Nat.le_refl _) _⟩
end
section
variable (R e s n m : Nat) (v : Value) (ys : List Value)
/-- the grown row in the old one's place -/
def InPlace (w : World) (k : Nat) : Prop := ∃ cap, w.ownsRow R e s (.slice (some ⟨k, 0, none⟩) (n + m) cap) (n + m) ys
/-- a world in which the row may have grown in its place; all else is as it was, but for what is new -/
def Gro (a b : World) : Prop := Turned (fun k => v.ownBlock = some k) a b ∧ ∀ k, v.ownBlock = some k → k < a.heap.size → b.heap[k]? = a.heap[k]? ∨ ∃ cap, v = .slice (some ⟨k, 0, none⟩) n cap ∧ b.ownsRow R e s (.slice (some ⟨k, 0, none⟩) (n + m) cap) (n + m) ys
instance : Gen.RelOk (Gro R e s n m v ys) where
  refl w := ⟨Turned.refl _ _, fun _ _ _ => .inl rfl⟩
  drew w := ⟨(Turned.refl _ _).drew, fun _ _ _ => .inl rfl⟩
  trans a b c h1 h2 := ⟨h1.1.trans h2.1, fun k hk hlt => by
    have hltb : k < b.heap.size := Nat.lt_of_lt_of_le hlt h1.1.size
    rcases h2.2 k hk hltb with h | h
    · rcases h1.2 k hk hlt with h3 | ⟨cap, h4, h3⟩
      · exact .inl (h.trans h3)
      · exact .inr ⟨cap, h4, owned_keepN h3 fun g hg _ => by
          have hg : some k = some g := hg
          injection hg with hg
          subst hg
          exact h⟩
    · exact .inr h⟩
/-- the grown row -/
def Grown (N : Nat) (u : Value) (w : World) : Prop := w.ownsRow R e s u (n + m) ys ∧ ((∃ k cap, v = .slice (some ⟨k, 0, none⟩) n cap ∧ u = .slice (some ⟨k, 0, none⟩) (n + m) cap ∧ k < N) ∨ ∃ r, u.ownBlock = some r ∧ N ≤ r ∧ ∀ k, v.ownBlock = some k → k < N)
variable {R e s n m v ys}
theorem Gro.own {w0 w : World} {xs news : List Value} (h : Gro R e s n m v (xs ++ news) w0 w) (ho : w0.ownsRow R e s v n xs) : w.ownsRow R e s v n xs := by
  rcases owned_formN ho with ⟨rfl, rfl, rfl⟩ | ⟨g, cap, cur, rfl, _, _, _, _, _, _, hlt⟩
  · exact ⟨ho.1, .inl ⟨rfl, rfl⟩⟩
  · rcases h.2 g rfl hlt with h2 | ⟨cap', h2, h3⟩
    · exact owned_keepN ho fun k hk _ => by
        have hk : some g = some k := hk
        injection hk with hk
        subst hk
        exact h2
    · injection h2 with _ _ h2
      subst h2
      have h4 := own_cutN h3 (Nat.le_add_right n m)
      rwa [List.take_left' ho.1] at h4
theorem Gro.grow {w w' : World} {u : Value} {xs news : List Value} (ho : w.ownsRow R e s v n xs) (hw : w'.ownsRow R e s u (n + m) (xs ++ news)) (hb : w.grownBy w' v.ownBlock) (hg : Grew w w' v u n m) : Gro R e s n m v (xs ++ news) w w' := by
  refine ⟨Turned.of_grown hb (fun k h _ => h), fun k hk hlt => ?_⟩
  rcases hg with ⟨g, cap, h1, h2⟩ | ⟨_, h2⟩
  · subst h1 h2
    have hk : some g = some k := hk
    injection hk with hk
    subst hk
    exact .inr ⟨cap, rfl, hw⟩
  · exact .inl (h2.block k hlt)
theorem Grown.of {w0 w w' : World} {u : Value} {xs news : List Value} (ho0 : w0.ownsRow R e s v n xs) (hsz : w0.heap.size ≤ w.heap.size) (hw : w'.ownsRow R e s u (n + m) (xs ++ news)) (hg : Grew w w' v u n m) : Grown R e s n m v (xs ++ news) w0.heap.size u w' := by
  refine ⟨hw, ?_⟩
  rcases hg with ⟨g, cap, h1, h2⟩ | ⟨h1, _⟩
  · exact .inl ⟨g, cap, h1, h2, (owned_ltN ho0 (g := g) (by rw [h1]; rfl)).2⟩
  · exact .inr ⟨_, h1, hsz, fun k hk => (owned_ltN ho0 hk).2⟩
theorem Grown.stays {N : Nat} {w w' : World} {u : Value} {xs news : List Value} (h : Grown R e s n m v (xs ++ news) N u w) (hx : Gro R e s n m v (xs ++ news) w w') : Grown R e s n m v (xs ++ news) N u w' := by
  obtain ⟨h1, h2⟩ := h
  refine ⟨?_, h2⟩
  rcases h2 with ⟨k, cap, rfl, rfl, hk⟩ | ⟨r, hr, hN, hv⟩
  · have hlt := (owned_ltN h1 (g := k) rfl).2
    rcases hx.2 k rfl hlt with h3 | ⟨cap', h3, h4⟩
    · exact owned_keepN h1 fun j hj _ => by
        have hj : some k = some j := hj
        injection hj with hj
        subst hj
        exact h3
    · injection h3 with _ _ h3
      subst h3
      exact h4
  · exact owned_keepN h1 fun j hj hlt => hx.1.block j hlt (fun hvj => by
      have := hv j hvj
      rw [hr] at hj
      injection hj with hj
      omega)
theorem Grown.blk {N : Nat} {w : World} {u : Value} {xs news : List Value} (hm : 0 < n + m) (h : Grown R e s n m v (xs ++ news) N u w) : ∃ r, u.ownBlock = some r ∧ r < w.heap.size := by
  obtain ⟨g, cap, rfl⟩ := owned_placeN h.1 hm
  exact ⟨g, rfl, (owned_ltN h.1 (g := g) rfl).2⟩
end
theorem fold_set : ∀ (l : List Value) (k : Nat) (arr : Array Value), k + l.length ≤ arr.size → (l.zipIdx k).foldl (fun cs (p : Value × Nat) => cs.setIfInBounds (0 + p.2) p.1) arr = (arr.toList.take k ++ l ++ arr.toList.drop (k + l.length)).toArray
  | [], k, arr, _ => by simp
  | x :: l, k, arr, h => by
    simp only [List.length_cons] at h
    rw [List.zipIdx_cons, List.foldl_cons, fold_set l (k + 1) _ (by simp; omega)]
    simp only [Nat.zero_add, Array.toList_setIfInBounds, List.length_cons]
    congr 1
    have hk : k < arr.toList.length := by simp; omega
    rw [List.take_set, List.drop_set_of_lt (by omega), List.take_succ_eq_append_getElem hk, List.set_append_right _ _ (by simp; omega)]
    have : k - (List.take k arr.toList).length = 0 := by simp; omega
    rw [this]
    simp [Nat.add_comm, Nat.add_left_comm]
section
variable {P : Program}
theorem run_buildSlice1 (t e : TypeId) (i : TypeInfo) (z : Value) (cs : Array Value) (ht : P.underlying t = some (.slice e)) (hi : P.info? e = some i) (hz : i.zero = some z) (hs : i.size = cs.size) (h0 : 0 < cs.size) (h24 : cs.size ≤ 16777216) (w : World) :
    (Instr.buildSlice t 1 #[(0, .agg cs)]).run P w = .ok (.slice (some ⟨w.heap.size, 0, none⟩) 1 1) (w.alloc (.cells cs e)) := by
  have h24' : ¬ (16777216 < cs.size) := by omega
  have hne : cs.size ≠ 0 := by omega
  have hc : ∀ arr : Array Value, arr.size = cs.size → cs.zipIdx.foldl (fun (a : Array Value) (p : Value × Nat) => a.setIfInBounds (0 + p.2) p.1) arr = cs := by
    intro arr ha
    rw [← Array.foldl_toList, Array.toList_zipIdx, fold_set cs.toList 0 arr (by simp [ha])]
    have : List.drop (0 + cs.toList.length) arr.toList = [] := List.drop_eq_nil_of_le (by simp [ha])
    rw [this]; simp
  have hf : ∀ arr : Array Value, arr.size = cs.size → Instr.fill (fun i => some (i * cs.size, cs.size)) arr [(0, .agg cs)] = some cs := by
    intro arr ha
    simp only [Instr.fill, Value.cells, Nat.zero_mul]
    have h2 := hc arr ha
    simp only [Nat.zero_add] at h2 ⊢
    rw [if_neg (by simp [ha])]
    have h3 : ∀ (k : Nat), k = cs.zipIdx.size → Array.foldl (fun (a : Array Value) (p : Value × Nat) => a.setIfInBounds p.2 p.1) arr cs.zipIdx 0 k = cs := fun k hk => by rw [hk]; exact h2
    exact congrArg some (h3 _ (by simp))
  have hf2 := hf ((Array.range cs.size).map (z.cells[· % z.cells.size]!)) (by simp)
  simp only [Instr.buildSlice, Sem.run_bind, run_underlying ht, Result.andThen_ok]
  simp [run_sizeOf w hi, Program.cellsOf, hi, hs, h24', hne, zeroValue, run_typeInfo w hi, hz, hf2, newRow]
end
section
variable {P : Program} {ρ : Operand → Value} {o : Oper}
theorem exec_load_blk (ty : TypeId) (x : Operand) (ho : o.op = .load ty x) (g : Nat) (hx : ρ x = .pointer (some ⟨g, 0, none⟩)) (t : TypeId) (cs : Array Value) (d : TypeDesc) (w : World) (hg : Blk w g t cs)
    (hu : P.underlying ty = some d) (hd : (match d with | .struct _ | .array _ _ => true | _ => false) = true) (hi : (P.info? ty).map (·.size) = some cs.size) : (execOp ρ o).run P w = .ok (.value (.agg cs)) w := by
  unfold execOp
  simp only [ho, hx, Instr.loadAt, Instr.sureAddr, Sem.run_bind, Sem.run_pure, Result.andThen_ok, run_loadVar_row w g t ty cs (0, 0) d hg hu hd hi]
theorem exec_load_slice (ty e : TypeId) (x : Operand) (ho : o.op = .load ty x) (p : Addr) (hx : ρ x = .pointer (some p)) (u : Value) (w : World) (hu : P.underlying ty = some (.slice e)) (hc : w.cell? p = some u) : (execOp ρ o).run P w = .ok (.value u) w := by
  unfold execOp
  simp [ho, hx, Instr.loadAt, Instr.sureAddr, loadVar, isAgg, run_underlying hu, hc]
theorem exec_build1 (t e : TypeId) (x : Operand) (ho : o.op = .buildSlice t 1 #[(0, x)]) (i : TypeInfo) (z : Value) (cs : Array Value) (hx : ρ x = .agg cs) (ht : P.underlying t = some (.slice e)) (hi : P.info? e = some i) (hz : i.zero = some z) (hs : i.size = cs.size) (h0 : 0 < cs.size) (h24 : cs.size ≤ 16777216) (w : World) :
    (execOp ρ o).run P w = .ok (.value (.slice (some ⟨w.heap.size, 0, none⟩) 1 1)) (w.alloc (.cells cs e)) := by
  unfold execOp
  simp only [ho, List.map_toArray, List.map_cons, List.map_nil, hx, Sem.run_bind, run_buildSlice1 t e i z cs ht hi hz hs h0 h24 w, Result.andThen_ok, Sem.run_pure]
theorem exec_append (s x : Operand) (t : TypeId) (ho : o.op = .call { callee := .builtin .append, args := #[s, x], argTypes := #[t, t] }) (v y v' : Value) (w w' : World) (hs : ρ s = v) (hx : ρ x = y)
    (hr : (Builtin.append_ #[t, t] o.type #[v, y]).run P w = .ok v' w') : (execOp ρ o).run P w = .ok (.value v') w' := by
  unfold execOp
  simp only [ho, resolve, invoke, builtin, Sem.run_bind, Sem.run_pure, Result.andThen_ok, List.map_toArray, List.map_cons, List.map_nil, hs, hx, hr]
end
/-- a row of one, made behind N -/
def MadeRow (N : Nat) (ty : TypeId) (cs : Array Value) (u : Value) (w : World) : Prop := ∃ r, u = .slice (some ⟨r, 0, none⟩) 1 1 ∧ N ≤ r ∧ Blk w r ty cs
theorem MadeRow.cells {ty : TypeId} {l : List Value} {r : Nat} {w : World} (h : Blk w r ty l.toArray) : ∀ j u, l[j]? = some u → w.cell? ((⟨r, 0, none⟩ : Addr).add j) = some u := by
  intro j u hu
  have h0 : (⟨r, 0, none⟩ : Addr).add j = ⟨r, j, none⟩ := by cases j <;> simp [Addr.add]
  rw [h0, h.cell j, ← hu]
  simp
/-- copy into a block, whatever the source is -/
theorem wpList_copyS {P : Program} {ops : Array Oper} {rest : List Oper} {o : Oper} {a : Act} {w : World} {Q : Exit → Act → World → Prop} (hgd : o.guard = none) (d s : Operand) (dT sT : TypeId)
    (ho : o.op = .call { callee := .builtin .copy, args := #[d, s], argTypes := #[dT, sT] }) (elem : TypeId) (hu : P.underlying dT = some (.slice elem)) (hsz : (P.info? elem).map (·.size) = some 1)
    (g off dLen dCap : Nat) (A : Option Addr) (sLen sCap : Nat) (cur : Array Value) (t : TypeId) (hg : Blk w g t cur) (cs : List Value) (hn : cs.length = Nat.min sLen dLen)
    (hsrc : Src w A sLen sCap cs) (hfit : off + cs.length ≤ cur.size)
    (hd : a.eval d = .slice (some ⟨g, off, none⟩) dLen dCap) (hs : a.eval s = .slice A sLen sCap)
    (h : ∀ w', Blk w' g t (cur.toList.take off ++ (cs ++ cur.toList.drop (off + cs.length))).toArray → w.grownBy w' (some g) → wpList P ops Q rest (a.put o.dst (goInt cs.length)) w') : wpList P ops Q (o :: rest) a w := by
  rcases A with _ | ad
  · obtain ⟨rfl, rfl⟩ := hsrc.none_ rfl
    obtain rfl : cs = [] := List.eq_nil_of_length_eq_zero hsrc.len
    refine wpList_plain hgd fun K hK => ?_
    have hw : Blk w g t (cur.toList.take off ++ ([] ++ cur.toList.drop (off + ([] : List Value).length))).toArray := by simpa using hg
    have hr : (Builtin.copy_ #[dT, sT] o.type #[.slice (some ⟨g, off, none⟩) dLen dCap, .slice none 0 0]).run P w = .ok (goInt 0) w := by
      cases hi : P.info? elem with
      | none => simp [hi] at hsz
      | some i =>
        simp [Builtin.copy_, run_underlying hu, Builtin.lenOf, sizeOf, typeInfo, hi, Builtin.firstCells, storeCells]
    unfold Oper.wp execOp
    simp only [ho, resolve, invoke, builtin, Sem.run_bind, Sem.run_pure, Result.andThen_ok, List.map_toArray, List.map_cons, List.map_nil, hd, hs, hr]
    exact hK _ _ (h w hw (World.grownBy.refl w _))
  · exact wpList_copyA hgd d s dT sT ho elem hu hsz g off dLen dCap ad sLen sCap cur t hg cs hn (hsrc.cells ad rfl) hfit hsrc.one hd hs h
end Go.Proofs.Ytfppddnfdinipaa
end
section
namespace Go.Proofs.Ytfppddnfdinipaa
open Go Go.RowKit
set_option maxRecDepth 100000
def inW (n : Int) : Prop := 1 ≤ n ∧ n ≤ 8192
instance (n : Int) : Decidable (inW n) := by unfold inW; exact inferInstance
def rightP (l a d : Int) : Prop := inW l ∧ inW a ∧ inW d ∧ 1 + l + 2 * a + d ≤ 8192
instance (l a d : Int) : Decidable (rightP l a d) := by unfold rightP; exact inferInstance
theorem within_any (n : Int) (w : World) : Calls Try.prog 163 #[.int .i64 n] w fun e w' => e = .returned (.bool (decide (inW n))) ∧ w' = w := by
  by_cases h1 : 1 ≤ n
  · by_cases h2 : n ≤ 8192
    · rw [decide_eq_true (show inW n from ⟨h1, h2⟩)]
      go_enter Try.func163, Try.ntmps163
      go_wp2
      go_ret
      exact ⟨rfl, rfl⟩
    · rw [decide_eq_false (show ¬ inW n from fun h => h2 h.2)]
      go_enter Try.func163, Try.ntmps163
      go_wp2
      go_ret
      exact ⟨rfl, rfl⟩
  · rw [decide_eq_false (show ¬ inW n from fun h => h1 h.1)]
    go_enter Try.func163, Try.ntmps163
    go_wp2
    go_ret
    exact ⟨rfl, rfl⟩
theorem within_yes {n : Int} (h : inW n) (w : World) : Calls Try.prog 163 #[.int .i64 n] w fun e w' => e = .returned (.bool true) ∧ w' = w := by
  have := within_any n w
  rwa [decide_eq_true h] at this
theorem within_no {n : Int} (h : ¬ inW n) (w : World) : Calls Try.prog 163 #[.int .i64 n] w fun e w' => e = .returned (.bool false) ∧ w' = w := by
  have := within_any n w
  rwa [decide_eq_false h] at this
theorem rright_any (l a d : Int) (w : World) : Calls Try.prog 129 #[.agg #[.int .i64 l, .int .i64 a, .int .i64 d]] w fun e w' => e = .returned (.bool (decide (rightP l a d))) ∧ w' = w.alloc (.cells #[.int .i64 l, .int .i64 a, .int .i64 d] 64) := by
  by_cases h1 : inW l
  · by_cases h2 : inW a
    · by_cases h3 : inW d
      · obtain ⟨a1, a2⟩ := h1
        obtain ⟨b1, b2⟩ := h2
        obtain ⟨c1, c2⟩ := h3
        by_cases h4 : 1 + l + 2 * a + d ≤ 8192
        · rw [decide_eq_true (show rightP l a d from ⟨⟨a1, a2⟩, ⟨b1, b2⟩, ⟨c1, c2⟩, h4⟩)]
          go_enter Try.func129, Try.ntmps129
          go_wp2_with fail
          refine (within_yes ⟨a1, a2⟩ _).mono ?_
          rintro e w' ⟨rfl, rfl⟩
          dsimp only
          go_wp2_with fail
          refine (within_yes ⟨b1, b2⟩ _).mono ?_
          rintro e w' ⟨rfl, rfl⟩
          dsimp only
          go_wp2_with fail
          refine (within_yes ⟨c1, c2⟩ _).mono ?_
          rintro e w' ⟨rfl, rfl⟩
          dsimp only
          go_wp2_with fail
          go_ret
          exact ⟨rfl, rfl⟩
        · rw [decide_eq_false (show ¬ rightP l a d from fun h => h4 h.2.2.2)]
          go_enter Try.func129, Try.ntmps129
          go_wp2_with fail
          refine (within_yes ⟨a1, a2⟩ _).mono ?_
          rintro e w' ⟨rfl, rfl⟩
          dsimp only
          go_wp2_with fail
          refine (within_yes ⟨b1, b2⟩ _).mono ?_
          rintro e w' ⟨rfl, rfl⟩
          dsimp only
          go_wp2_with fail
          refine (within_yes ⟨c1, c2⟩ _).mono ?_
          rintro e w' ⟨rfl, rfl⟩
          dsimp only
          go_wp2_with fail
          go_ret
          exact ⟨(congrArg (fun b => Ending.returned (Value.bool b)) (decide_eq_false (show ¬ (1 + l + 2 * a + d ≤ 8192) by omega)) :), rfl⟩
      · rw [decide_eq_false (show ¬ rightP l a d from fun h => h3 h.2.2.1)]
        go_enter Try.func129, Try.ntmps129
        go_wp2_with fail
        refine (within_yes h1 _).mono ?_
        rintro e w' ⟨rfl, rfl⟩
        dsimp only
        go_wp2_with fail
        refine (within_yes h2 _).mono ?_
        rintro e w' ⟨rfl, rfl⟩
        dsimp only
        go_wp2_with fail
        refine (within_no h3 _).mono ?_
        rintro e w' ⟨rfl, rfl⟩
        dsimp only
        go_wp2_with fail
        go_ret
        exact ⟨rfl, rfl⟩
    · rw [decide_eq_false (show ¬ rightP l a d from fun h => h2 h.2.1)]
      go_enter Try.func129, Try.ntmps129
      go_wp2_with fail
      refine (within_yes h1 _).mono ?_
      rintro e w' ⟨rfl, rfl⟩
      dsimp only
      go_wp2_with fail
      refine (within_no h2 _).mono ?_
      rintro e w' ⟨rfl, rfl⟩
      dsimp only
      go_wp2_with fail
      go_ret
      exact ⟨rfl, rfl⟩
  · rw [decide_eq_false (show ¬ rightP l a d from fun h => h1 h.1)]
    go_enter Try.func129, Try.ntmps129
    go_wp2_with fail
    refine (within_no h1 _).mono ?_
    rintro e w' ⟨rfl, rfl⟩
    dsimp only
    go_wp2_with fail
    go_ret
    exact ⟨rfl, rfl⟩
/-- how many sectors; where the data begins -/
def secs (l a d : Int) : Int := if rightP l a d then 1 + l + 2 * a + d else 0
def firstS (l a d : Int) : Int := if rightP l a d then 1 + l + 2 * a else 0
theorem rsecs_any (l a d : Int) (w : World) : Calls Try.prog 73 #[.agg #[.int .i64 l, .int .i64 a, .int .i64 d]] w fun e w' => e = .returned (.int .i64 (secs l a d)) ∧ Below w.heap.size w w' := by
  by_cases h : rightP l a d
  · have hr := decide_eq_true h
    rw [secs, if_pos h]
    obtain ⟨⟨a1, a2⟩, ⟨b1, b2⟩, ⟨c1, c2⟩, h4⟩ := h
    go_enter Try.func73, Try.ntmps73
    go_wp2_with fail
    refine (rright_any l a d _).mono ?_
    rintro e w' ⟨rfl, rfl⟩
    rw [hr]
    dsimp only
    go_wp2_with fail
    go_ret
    exact ⟨rfl, ((Below.refl _ w).alloc (Nat.le_refl _) _).alloc (by rw [size_alloc]; omega) _⟩
  · have hr := decide_eq_false h
    rw [secs, if_neg h]
    go_enter Try.func73, Try.ntmps73
    go_wp2_with fail
    refine (rright_any l a d _).mono ?_
    rintro e w' ⟨rfl, rfl⟩
    rw [hr]
    dsimp only
    go_wp2_with fail
    go_ret
    exact ⟨rfl, ((Below.refl _ w).alloc (Nat.le_refl _) _).alloc (by rw [size_alloc]; omega) _⟩
theorem ix4 (p q r s : Int) (w : World) : (Instr.index 137 (.agg #[.int .i64 p, .int .i64 q, .int .i64 r, .int .i64 s]) (.int .i64 0)).run Try.prog w = .ok (.int .i64 p) w ∧ (Instr.index 137 (.agg #[.int .i64 p, .int .i64 q, .int .i64 r, .int .i64 s]) (.int .i64 1)).run Try.prog w = .ok (.int .i64 q) w ∧
    (Instr.index 137 (.agg #[.int .i64 p, .int .i64 q, .int .i64 r, .int .i64 s]) (.int .i64 2)).run Try.prog w = .ok (.int .i64 r) w ∧ (Instr.index 137 (.agg #[.int .i64 p, .int .i64 q, .int .i64 r, .int .i64 s]) (.int .i64 3)).run Try.prog w = .ok (.int .i64 s) w := ⟨by kernel_rfl, by kernel_rfl, by kernel_rfl, by kernel_rfl⟩
set_option maxHeartbeats 2000000 in
theorem lright_any (l a d : Int) (w : World) : Calls Try.prog 29 #[.agg #[.int .i64 l, .int .i64 a, .int .i64 d]] w fun e w' => e = .returned (.bool (decide (rightP l a d))) ∧ w' = w.alloc (.cells #[.int .i64 l, .int .i64 a, .int .i64 d] 64) := by
  have i0 := fun w => (ix4 l a a d w).1
  have i1 := fun w => (ix4 l a a d w).2.1
  have i2 := fun w => (ix4 l a a d w).2.2.1
  have i3 := fun w => (ix4 l a a d w).2.2.2
  by_cases hl : 1 ≤ l
  · by_cases hl2 : l ≤ 8192
    · by_cases ha : 1 ≤ a
      · by_cases ha2 : a ≤ 8192
        · by_cases hd : 1 ≤ d
          · by_cases hd2 : d ≤ 8192
            · by_cases h4 : 1 + l + 2 * a + d ≤ 8192
              · have h5 : 1 + l + a + a + d ≤ 8192 := by omega
                rw [decide_eq_true (show rightP l a d from ⟨⟨hl, hl2⟩, ⟨ha, ha2⟩, ⟨hd, hd2⟩, h4⟩)]
                go_enter Try.func29, Try.ntmps29
                go_wp2_with fail
                refine wp_loop_rounds 5 ?_
                rw [rounds_succ]; go_wp2
                rw [rounds_succ]; go_wp2
                rw [rounds_succ]; go_wp2
                rw [rounds_succ]; go_wp2
                rw [rounds_succ]; go_wp2
                go_ret
                exact ⟨by simp, rfl⟩
              · have h5 : ¬ 1 + l + a + a + d ≤ 8192 := by omega
                rw [decide_eq_false (show ¬ rightP l a d from fun h => h4 h.2.2.2)]
                go_enter Try.func29, Try.ntmps29
                go_wp2_with fail
                refine wp_loop_rounds 5 ?_
                rw [rounds_succ]; go_wp2
                rw [rounds_succ]; go_wp2
                rw [rounds_succ]; go_wp2
                rw [rounds_succ]; go_wp2
                rw [rounds_succ]; go_wp2
                go_ret
                exact ⟨by simp [h5], rfl⟩
            · rw [decide_eq_false (show ¬ rightP l a d from fun h => hd2 h.2.2.1.2)]
              go_enter Try.func29, Try.ntmps29
              go_wp2_with fail
              refine wp_loop_rounds 5 ?_
              rw [rounds_succ]; go_wp2
              rw [rounds_succ]; go_wp2
              rw [rounds_succ]; go_wp2
              rw [rounds_succ]; go_wp2
              go_ret
              exact ⟨rfl, rfl⟩
          · rw [decide_eq_false (show ¬ rightP l a d from fun h => hd h.2.2.1.1)]
            go_enter Try.func29, Try.ntmps29
            go_wp2_with fail
            refine wp_loop_rounds 5 ?_
            rw [rounds_succ]; go_wp2
            rw [rounds_succ]; go_wp2
            rw [rounds_succ]; go_wp2
            rw [rounds_succ]; go_wp2
            go_ret
            exact ⟨rfl, rfl⟩
        · rw [decide_eq_false (show ¬ rightP l a d from fun h => ha2 h.2.1.2)]
          go_enter Try.func29, Try.ntmps29
          go_wp2_with fail
          refine wp_loop_rounds 5 ?_
          rw [rounds_succ]; go_wp2
          rw [rounds_succ]; go_wp2
          go_ret
          exact ⟨rfl, rfl⟩
      · rw [decide_eq_false (show ¬ rightP l a d from fun h => ha h.2.1.1)]
        go_enter Try.func29, Try.ntmps29
        go_wp2_with fail
        refine wp_loop_rounds 5 ?_
        rw [rounds_succ]; go_wp2
        rw [rounds_succ]; go_wp2
        go_ret
        exact ⟨rfl, rfl⟩
    · rw [decide_eq_false (show ¬ rightP l a d from fun h => hl2 h.1.2)]
      go_enter Try.func29, Try.ntmps29
      go_wp2_with fail
      refine wp_loop_rounds 5 ?_
      rw [rounds_succ]; go_wp2
      go_ret
      exact ⟨rfl, rfl⟩
  · rw [decide_eq_false (show ¬ rightP l a d from fun h => hl h.1.1)]
    go_enter Try.func29, Try.ntmps29
    go_wp2_with fail
    refine wp_loop_rounds 5 ?_
    rw [rounds_succ]; go_wp2
    go_ret
    exact ⟨rfl, rfl⟩
end Go.Proofs.Ytfppddnfdinipaa
end
section
namespace Go.Proofs.Ytfppddnfdinipaa
open Go Go.RowKit
theorem _root_.Go.RowKit.Below.al {w0 w : World} (h : Below w0.heap.size w0 w) (o : Obj) : Below w0.heap.size w0 (w.alloc o) := h.alloc h.size o
theorem _root_.Go.RowKit.Below.next {w0 w w' : World} (h : Below w0.heap.size w0 w) (k : Below w.heap.size w w') : Below w0.heap.size w0 w' := h.trans (Below.mono k h.size)
set_option maxRecDepth 100000
theorem behind_any (f m n : Int) (hf : 0 ≤ f ∧ f ≤ 100000) (hm : 0 ≤ m ∧ m ≤ 100000) (w : World) : Calls Try.prog 61 #[.agg #[.int .i64 f, .int .i64 m], .int .i64 n] w fun e w' => e = .returned (.agg #[.int .i64 (f + m), .int .i64 n]) ∧ w' = (w.alloc (.cells #[.int .i64 f, .int .i64 m] 139)).alloc (.cells #[.int .i64 (f + m), .int .i64 n] 139) := by
  obtain ⟨f1, f2⟩ := hf
  obtain ⟨m1, m2⟩ := hm
  go_enter Try.func61, Try.ntmps61
  go_wp2
  exact bodyPost_ret (results_cell_row rfl _ _ (w.heap.size + 1) 139 #[.int .i64 (f + m), .int .i64 n] (0, 0) _ rfl (Blk.new1 _ _ _ _) Try.underlying139 rfl (by kernel_rfl)) rfl ⟨rfl, rfl⟩
theorem laid_any (l a d : Int) (hl : 0 ≤ l ∧ l ≤ 10000) (ha : 0 ≤ a ∧ a ≤ 10000) (w : World) : Calls Try.prog 60 #[.agg #[.int .i64 l, .int .i64 a, .int .i64 d]] w fun e w' => e = .returned (.agg #[.int .i64 1, .int .i64 l, .int .i64 (1 + l), .int .i64 a, .int .i64 (1 + l + a), .int .i64 a, .int .i64 (1 + l + a + a), .int .i64 d]) ∧ Below w.heap.size w w' := by
  obtain ⟨l1, l2⟩ := hl
  obtain ⟨a1, a2⟩ := ha
  go_enter Try.func60, Try.ntmps60
  go_wp2_with fail
  refine (behind_any 1 l a ⟨by omega, by omega⟩ ⟨by omega, by omega⟩ _).mono ?_
  rintro e w' ⟨rfl, rfl⟩
  dsimp only
  go_wp2_with fail
  refine (behind_any (1 + l) a a ⟨by omega, by omega⟩ ⟨by omega, by omega⟩ _).mono ?_
  rintro e w' ⟨rfl, rfl⟩
  dsimp only
  go_wp2_with fail
  refine (behind_any (1 + l + a) a d ⟨by omega, by omega⟩ ⟨by omega, by omega⟩ _).mono ?_
  rintro e w' ⟨rfl, rfl⟩
  dsimp only
  go_wp2_with fail
  refine bodyPost_ret (results_cell_row rfl _ _ (w.heap.size + 1) 142 #[.int .i64 1, .int .i64 l, .int .i64 (1 + l), .int .i64 a, .int .i64 (1 + l + a), .int .i64 a, .int .i64 (1 + l + a + a), .int .i64 d] (0, 0) _ rfl (((((((Blk.new1 _ _ _ _).alloc _).alloc _).alloc _).alloc _).alloc _).alloc _) Try.underlying142 rfl (by kernel_rfl)) rfl ⟨rfl, ?_⟩
  exact (((((((((Below.refl _ w).alloc (Nat.le_refl _) _).al _).al _).al _).al _).al _).al _).al _)
theorem field_data (p q r s t u x y : Int) (w : World) : (Instr.field 142 (.agg #[.int .i64 p, .int .i64 q, .int .i64 r, .int .i64 s, .int .i64 t, .int .i64 u, .int .i64 x, .int .i64 y]) 2).run Try.prog w = .ok (.agg #[.int .i64 x, .int .i64 y]) w := by kernel_rfl
theorem field_first (x y : Int) (w : World) : (Instr.field 139 (.agg #[.int .i64 x, .int .i64 y]) 0).run Try.prog w = .ok (.int .i64 x) w := by kernel_rfl
theorem lsecs_any (l a d : Int) (w : World) : Calls Try.prog 30 #[.agg #[.int .i64 l, .int .i64 a, .int .i64 d]] w fun e w' => e = .returned (.int .i64 (secs l a d)) ∧ Below w.heap.size w w' := by
  by_cases h : rightP l a d
  · have hr := decide_eq_true h
    rw [secs, if_pos h]
    obtain ⟨⟨a1, a2⟩, ⟨b1, b2⟩, ⟨c1, c2⟩, h4⟩ := h
    have f1 := field_data 1 l (1 + l) a (1 + l + a) a (1 + l + a + a) d
    have f2 := fun x y => field_first x y
    go_enter Try.func30, Try.ntmps30
    go_wp2_with fail
    refine (lright_any l a d _).mono ?_
    rintro e w' ⟨rfl, rfl⟩
    rw [hr]
    dsimp only
    go_wp2_with fail
    refine (laid_any l a d ⟨by omega, by omega⟩ ⟨by omega, by omega⟩ _).mono ?_
    rintro e w2 ⟨rfl, hb2⟩
    have H2 := hide (((Below.refl _ w).alloc (Nat.le_refl _) (.cells #[.int .i64 l, .int .i64 a, .int .i64 d] 64)).al (.cells #[.int .i64 l, .int .i64 a, .int .i64 d] 64) |>.next hb2)
    clear hb2
    dsimp only
    go_wp2_with fail
    refine (behind_any (1 + l + a + a) d 0 ⟨by omega, by omega⟩ ⟨by omega, by omega⟩ _).mono ?_
    rintro e w3 ⟨rfl, hw3⟩
    have H3 := hide (H2.out.next (show Below w2.heap.size w2 w3 by rw [hw3]; exact ((Below.refl _ w2).alloc (Nat.le_refl _) _).al _))
    clear hw3
    dsimp only
    go_wp2_with fail
    go_ret
    exact ⟨by rw [show 1 + l + 2 * a + d = 1 + l + a + a + d by omega]; rfl, H3.out⟩
  · have hr := decide_eq_false h
    rw [secs, if_neg h]
    go_enter Try.func30, Try.ntmps30
    go_wp2_with fail
    refine (lright_any l a d _).mono ?_
    rintro e w' ⟨rfl, rfl⟩
    rw [hr]
    dsimp only
    go_wp2_with fail
    go_ret
    exact ⟨rfl, ((Below.refl _ w).alloc (Nat.le_refl _) _).al _⟩
theorem lfirst_any (l a d : Int) (w : World) : Calls Try.prog 65 #[.agg #[.int .i64 l, .int .i64 a, .int .i64 d]] w fun e w' => e = .returned (.int .i64 (firstS l a d)) ∧ Below w.heap.size w w' := by
  by_cases h : rightP l a d
  · have hr := decide_eq_true h
    rw [firstS, if_pos h]
    obtain ⟨⟨a1, a2⟩, ⟨b1, b2⟩, ⟨c1, c2⟩, h4⟩ := h
    have f1 := field_data 1 l (1 + l) a (1 + l + a) a (1 + l + a + a) d
    have f2 := fun x y => field_first x y
    go_enter Try.func65, Try.ntmps65
    go_wp2_with fail
    refine (lright_any l a d _).mono ?_
    rintro e w' ⟨rfl, rfl⟩
    rw [hr]
    dsimp only
    go_wp2_with fail
    refine (laid_any l a d ⟨by omega, by omega⟩ ⟨by omega, by omega⟩ _).mono ?_
    rintro e w2 ⟨rfl, hb2⟩
    have H2 := hide (((Below.refl _ w).alloc (Nat.le_refl _) (.cells #[.int .i64 l, .int .i64 a, .int .i64 d] 64)).al (.cells #[.int .i64 l, .int .i64 a, .int .i64 d] 64) |>.next hb2)
    clear hb2
    dsimp only
    go_wp2_with fail
    go_ret
    exact ⟨by rw [show 1 + l + 2 * a = 1 + l + a + a by omega]; rfl, H2.out⟩
  · have hr := decide_eq_false h
    rw [firstS, if_neg h]
    go_enter Try.func65, Try.ntmps65
    go_wp2_with fail
    refine (lright_any l a d _).mono ?_
    rintro e w' ⟨rfl, rfl⟩
    rw [hr]
    dsimp only
    go_wp2_with fail
    go_ret
    exact ⟨rfl, ((Below.refl _ w).alloc (Nat.le_refl _) _).al _⟩
theorem rfirst_any (l a d : Int) (w : World) : Calls Try.prog 166 #[.agg #[.int .i64 l, .int .i64 a, .int .i64 d]] w fun e w' => e = .returned (.int .i64 (firstS l a d)) ∧ Below w.heap.size w w' := by
  by_cases h : rightP l a d
  · have hr := decide_eq_true h
    rw [firstS, if_pos h]
    obtain ⟨⟨a1, a2⟩, ⟨b1, b2⟩, ⟨c1, c2⟩, h4⟩ := h
    go_enter Try.func166, Try.ntmps166
    go_wp2_with fail
    refine (rright_any l a d _).mono ?_
    rintro e w' ⟨rfl, rfl⟩
    rw [hr]
    dsimp only
    go_wp2_with fail
    go_ret
    exact ⟨rfl, ((Below.refl _ w).alloc (Nat.le_refl _) _).al _⟩
  · have hr := decide_eq_false h
    rw [firstS, if_neg h]
    go_enter Try.func166, Try.ntmps166
    go_wp2_with fail
    refine (rright_any l a d _).mono ?_
    rintro e w' ⟨rfl, rfl⟩
    rw [hr]
    dsimp only
    go_wp2_with fail
    go_ret
    exact ⟨rfl, ((Below.refl _ w).alloc (Nat.le_refl _) _).al _⟩
end Go.Proofs.Ytfppddnfdinipaa
end
section
namespace Go.Proofs.Ytfppddnfdinipaa
open Go Go.RowKit
abbrev Run := Int × Int
def runCells (l : List Run) : List Value := l.flatMap fun r => [.int .i64 r.1, .int .i64 r.2]
theorem runCells_len (l : List Run) : (runCells l).length = l.length * 2 := by
  induction l with
  | nil => rfl
  | cons p l ih =>
    show ([Value.int .i64 p.1, .int .i64 p.2] ++ runCells l).length = _
    rw [List.length_append, ih]
    show 2 + l.length * 2 = (l.length + 1) * 2
    omega
theorem runCells_app (a b : List Run) : runCells (a ++ b) = runCells a ++ runCells b := by simp [runCells]
theorem runCells_one (l : List Run) : ∀ u ∈ runCells l, u.oneCell' = true := by
  intro u hu
  obtain ⟨p, hp, hu⟩ := List.mem_flatMap.1 hu
  simp only [List.mem_cons, List.not_mem_nil, or_false] at hu
  rcases hu with rfl | rfl <;> rfl
theorem runCells_at : ∀ (l : List Run) (j : Nat) (p : Run), l[j]? = some p → (runCells l)[j * 2]? = some (.int .i64 p.1) ∧ (runCells l)[j * 2 + 1]? = some (.int .i64 p.2)
  | [], j, p, h => by simp at h
  | q :: l, 0, p, h => by
    simp only [List.getElem?_cons_zero, Option.some.injEq] at h
    subst h
    exact ⟨rfl, rfl⟩
  | q :: l, j + 1, p, h => by
    have ih := runCells_at l j p (by simpa using h)
    show ([Value.int .i64 q.1, .int .i64 q.2] ++ runCells l)[(j + 1) * 2]? = _ ∧ ([Value.int .i64 q.1, .int .i64 q.2] ++ runCells l)[(j + 1) * 2 + 1]? = _
    rw [List.getElem?_append_right (by show 2 ≤ _; omega), List.getElem?_append_right (by show 2 ≤ _; omega)]
    have e : (j + 1) * 2 - [Value.int .i64 q.1, .int .i64 q.2].length = j * 2 := by show (j + 1) * 2 - 2 = _; omega
    have e2 : (j + 1) * 2 + 1 - [Value.int .i64 q.1, .int .i64 q.2].length = j * 2 + 1 := by show (j + 1) * 2 + 1 - 2 = _; omega
    rw [e, e2]
    exact ih
def r64 (r : Run) : Prop := (-9223372036854775808 ≤ r.1 ∧ r.1 ≤ 9223372036854775807) ∧ (-9223372036854775808 ≤ r.2 ∧ r.2 ≤ 9223372036854775807)
/-- runs that lie below block B -/
def RunsM (w : World) (B : Nat) (v : Value) (l : List Run) : Prop :=
  ∃ A cap, v = .slice A l.length cap ∧ l.length ≤ cap ∧ (A = none → cap = 0) ∧ (0 < l.length → ∃ b off, A = some ⟨b, off, none⟩ ∧ b < B ∧ ∀ j r, l[j]? = some r → w.cell? ⟨b, off + j * 2, none⟩ = some (.int .i64 r.1) ∧ w.cell? ⟨b, off + j * 2 + 1, none⟩ = some (.int .i64 r.2)) ∧ ∀ r ∈ l, r64 r
theorem RunsM.alike {w w' : World} {B : Nat} {v : Value} {l : List Run} (h : RunsM w B v l) (ha : Alike B w w') : RunsM w' B v l := by
  obtain ⟨A, cap, hv, hc, hn, hA, hr⟩ := h
  exact ⟨A, cap, hv, hc, hn, fun h0 => by
    obtain ⟨b, off, h1, h2, h3⟩ := hA h0
    exact ⟨b, off, h1, h2, fun j r hj => ⟨(ha.cell (p := ⟨b, off + j * 2, none⟩) h2).trans (h3 j r hj).1, (ha.cell (p := ⟨b, off + j * 2 + 1, none⟩) h2).trans (h3 j r hj).2⟩⟩, hr⟩
theorem RunsM.widen {w : World} {B B' : Nat} {v : Value} {l : List Run} (h : RunsM w B v l) (hB : B ≤ B') : RunsM w B' v l := by
  obtain ⟨A, cap, hv, hc, hn, hA, hr⟩ := h
  exact ⟨A, cap, hv, hc, hn, fun h0 => by
    obtain ⟨b, off, h1, h2, h3⟩ := hA h0
    exact ⟨b, off, h1, by omega, h3⟩, hr⟩
theorem RunsM.src {w : World} {B cap : Nat} {A : Option Addr} {l : List Run} (h : RunsM w B (.slice A l.length cap) l) : (A = none → l.length = 0 ∧ cap = 0) ∧ ∀ ad, A = some ad → ad.block < B ∨ l = [] := by
  obtain ⟨A', cap', hv, hc, hn, hA, hr⟩ := h
  injection hv with e1 e2 e3
  subst e1 e3
  refine ⟨fun h0 => ⟨by have := hn h0; omega, hn h0⟩, fun ad had => ?_⟩
  rcases Nat.eq_zero_or_pos l.length with hl | hl
  · exact .inr (List.length_eq_zero_iff.1 hl)
  · obtain ⟨b, off, h1, h2, _⟩ := hA hl
    rw [h1] at had
    obtain rfl := Option.some.inj had
    exact .inl h2
theorem info_run : (Try.prog.info? 88).map (fun i => (i.zero, i.size, i.bytes)) = some (some (.agg #[.int .i64 0, .int .i64 0]), 2, 16) := by kernel_rfl
theorem runs_new (w : World) (l : List Run) (hr : ∀ r ∈ l, r64 r) : RunsM (w.alloc (.cells (runCells l).toArray 88)) (w.heap.size + 1) (.slice (some ⟨w.heap.size, 0, none⟩) l.length l.length) l := by
  refine ⟨_, l.length, rfl, Nat.le_refl _, (fun h => by cases h), fun _ => ⟨w.heap.size, 0, rfl, by omega, fun j r hj => ?_⟩, hr⟩
  have hb := Blk.new w 88 (runCells l).toArray
  have h := runCells_at l j r hj
  rw [Nat.zero_add, hb.cell, hb.cell]
  exact ⟨by simpa using h.1, by simpa using h.2⟩
theorem runs_nil (w : World) (B : Nat) : RunsM w B (.slice none 0 0) [] := ⟨none, 0, rfl, Nat.le_refl _, fun _ => rfl, (fun h => by cases h), fun r hr => by cases hr⟩
/-- a row of runs of one's own -/
def OwnRuns (base : Nat) (w : World) (v : Value) (l : List Run) : Prop := w.ownsRow base 88 2 v l.length (runCells l) ∧ ∀ r ∈ l, r64 r
theorem OwnRuns.below {base : Nat} {w w' : World} {v : Value} {l : List Run} (h : OwnRuns base w v l) (hb : Below w.heap.size w w') : OwnRuns base w' v l :=
  ⟨owned_keepN h.1 fun k _ hl => hb.block k hl, h.2⟩
theorem OwnRuns.m {base : Nat} {w : World} {v : Value} {l : List Run} (h : OwnRuns base w v l) : ∃ A cap, v = .slice A l.length cap ∧ RunsM w w.heap.size (.slice A l.length cap) l := by
  rcases owned_formN h.1 with ⟨rfl, h0, _⟩ | ⟨g, cap, cur, rfl, hg, hc, hcs, hb, hsz, ht, hlt⟩
  · exact ⟨none, 0, by rw [h0], none, 0, rfl, by omega, fun _ => rfl, (fun h => by omega), h.2⟩
  · refine ⟨_, cap, rfl, _, cap, rfl, hc, (fun h => by cases h), fun _ => ⟨g, 0, rfl, hlt, fun j r hj => ?_⟩, h.2⟩
    have hj2 := (List.getElem?_eq_some_iff.1 hj).1
    have h2 := runCells_at l j r hj
    rw [← ht, List.getElem?_take_of_lt (by omega), List.getElem?_take_of_lt (by omega)] at h2
    rw [Nat.zero_add, hb.cell, hb.cell, ← Array.getElem?_toList, ← Array.getElem?_toList]
    exact h2
/-- more runs behind a row of one's own -/
theorem OwnRuns.app {base : Nat} {w wm : World} {v : Value} {l news : List Run} (h : OwnRuns base w v l) (hbase : base ≤ w.heap.size) (hw : Below w.heap.size w wm) (hm : 0 < news.length) (hl : l.length + news.length ≤ 100000) (g off : Nat) (hc : ∀ j r, news[j]? = some r → wm.cell? ⟨g, off + j * 2, none⟩ = some (.int .i64 r.1) ∧ wm.cell? ⟨g, off + j * 2 + 1, none⟩ = some (.int .i64 r.2)) (hn : ∀ r ∈ news, r64 r) (c : Nat) :
    ∃ v' w', (Builtin.append_ #[73, 73] 73 #[v, .slice (some ⟨g, off, none⟩) news.length c]).run Try.prog wm = .ok v' w' ∧ OwnRuns base w' v' (l ++ news) ∧ wm.grownBy w' v.ownBlock ∧ Below base w w' := by
  obtain ⟨i, hi, hz⟩ := Option.map_eq_some_iff.1 info_run
  injection hz with hz0 hz
  injection hz with hz1 hz2
  have hr := h.below hw
  have hs := hw.size
  have hcells : ∀ j u, (runCells news)[j]? = some u → wm.cell? ((⟨g, off, none⟩ : Addr).add j) = some u := by
    intro j u hu
    rw [Addr.add_mid]
    have hj : j < news.length * 2 := by
      have := (List.getElem?_eq_some_iff.1 hu).1
      rwa [runCells_len] at this
    have hq : news[j / 2]? = some news[j / 2] := List.getElem?_eq_getElem (by omega)
    have h1 := hc _ _ hq
    have h2 := runCells_at news _ _ hq
    rcases Nat.mod_two_eq_zero_or_one j with hz | hz
    · rw [show j = j / 2 * 2 by omega] at hu ⊢
      rw [h2.1] at hu
      rw [h1.1, hu]
    · rw [show j = j / 2 * 2 + 1 by omega] at hu ⊢
      rw [h2.2] at hu
      rw [← Nat.add_assoc, h1.2, hu]
  obtain ⟨v', w', h1, h2, h3, h4⟩ := run_appG (P := Try.prog) (w := wm) base 73 73 88 i _ 2 16 Try.underlying73 hi hz0 hz1 hz2 rfl (by omega) v l.length (runCells l) hr.1 ⟨g, off, none⟩ news.length c (runCells news) (runCells_len _) hcells (runCells_one news) hm (by simp only [maxLen]; omega) (by omega) (by omega)
  refine ⟨v', w', h1, ⟨by rw [List.length_append, runCells_app]; exact h2, fun p hp => ?_⟩, h3, (Below.mono hw hbase).grown h3 (by omega) fun k hk => (owned_ltN hr.1 hk).1⟩
  rcases List.mem_append.1 hp with hp | hp
  · exact h.2 p hp
  · exact hn p hp
/-- which sectors a run has -/
def posR (r : Run) : List Nat := (List.range r.2.toNat).map (r.1.toNat + ·)
def pos (l : List Run) : List Nat := l.flatMap posR
def okRun (d : Int) (r : Run) : Prop := 0 ≤ r.1 ∧ r.1 < d ∧ 1 ≤ r.2 ∧ r.2 ≤ d - r.1
instance (d : Int) (r : Run) : Decidable (okRun d r) := by unfold okRun; exact inferInstance
def apartP (l a d : Int) (rs : List Run) : Prop := rightP l a d ∧ (∀ r ∈ rs, okRun d r) ∧ (pos rs).Nodup
instance (l a d : Int) (rs : List Run) : Decidable (apartP l a d rs) := by unfold apartP; exact inferInstance
theorem posR_lt {d : Int} {r : Run} (h : okRun d r) : ∀ x ∈ posR r, (x : Int) < d := by
  intro x hx
  obtain ⟨k, hk, rfl⟩ := List.mem_map.1 hx
  have := List.mem_range.1 hk
  obtain ⟨h1, h2, h3, h4⟩ := h
  omega
theorem pos_lt {d : Int} {rs : List Run} (h : ∀ r ∈ rs, okRun d r) : ∀ x ∈ pos rs, (x : Int) < d := by
  intro x hx
  obtain ⟨r, hr, hx⟩ := List.mem_flatMap.1 hx
  exact posR_lt (h r hr) x hx
theorem nodup_short : ∀ {n : Nat} {l : List Nat}, l.Nodup → (∀ x ∈ l, x < n) → l.length ≤ n
  | 0, l, _, hl => by
    cases l with
    | nil => exact Nat.le_refl _
    | cons a l => exact absurd (hl a (by simp)) (by omega)
  | n + 1, l, h, hl => by
    have h1 : (l.erase n).length ≤ n := nodup_short (h.erase n) fun x hx => by
      have h2 := (List.Nodup.mem_erase_iff h).1 hx
      have := hl x h2.2
      have := h2.1
      omega
    have h3 := List.length_erase (a := n) (l := l)
    split at h3 <;> omega
theorem pos_len_le (rs : List Run) (h : ∀ r ∈ rs, 1 ≤ r.2) : rs.length ≤ (pos rs).length := by
  induction rs with
  | nil => exact Nat.le_refl _
  | cons r rs ih =>
    show rs.length + 1 ≤ (posR r ++ pos rs).length
    rw [List.length_append]
    have h1 := h r (by simp)
    have h2 := ih fun r hr => h r (by simp [hr])
    have h3 : (posR r).length = r.2.toNat := by simp [posR]
    omega
end Go.Proofs.Ytfppddnfdinipaa
end
section
namespace Go.Proofs.Ytfppddnfdinipaa
open Go Go.RowKit
structure Put where
  b : List UInt8
  rs : List Run
  many : Int
  n : Int
/-- a put's four cells -/
structure PutCell (w : World) (B b o : Nat) (p : Put) : Prop where
  c0 : ∃ A c, w.cell? ⟨b, o, none⟩ = some (.slice A p.b.length c) ∧ BytesAt w B (.slice A p.b.length c) p.b ∧ (A = none → c = 0)
  c1 : ∃ A c, w.cell? ⟨b, o + 1, none⟩ = some (.slice A p.rs.length c) ∧ RunsM w B (.slice A p.rs.length c) p.rs
  c2 : w.cell? ⟨b, o + 2, none⟩ = some (.int .i64 p.many)
  c3 : w.cell? ⟨b, o + 3, none⟩ = some (.int .i64 p.n)
  k2 : -9223372036854775808 ≤ p.many ∧ p.many ≤ 9223372036854775807
  k3 : -9223372036854775808 ≤ p.n ∧ p.n ≤ 9223372036854775807
def PutsM (w : World) (B : Nat) (v : Value) (ls : List Put) : Prop :=
  ∃ A cap, v = .slice A ls.length cap ∧ ls.length ≤ cap ∧ (0 < ls.length → ∃ b off, A = some ⟨b, off, none⟩ ∧ b < B ∧ ∀ j p, ls[j]? = some p → PutCell w B b (off + j * 4) p)
theorem PutCell.alike {w w' : World} {B b o : Nat} {p : Put} (h : PutCell w B b o p) (hb : b < B) (ha : Alike B w w') : PutCell w' B b o p := by
  obtain ⟨A, c, h1, h2, h3⟩ := h.c0
  obtain ⟨A', c', k1, k2⟩ := h.c1
  have e : ∀ q, w'.cell? ⟨b, q, none⟩ = w.cell? ⟨b, q, none⟩ := fun q => ha.cell (p := ⟨b, q, none⟩) hb
  exact ⟨⟨A, c, (e _).trans h1, h2.alike ha, h3⟩, ⟨A', c', (e _).trans k1, k2.alike ha⟩, (e _).trans h.c2, (e _).trans h.c3, h.k2, h.k3⟩
theorem PutsM.alike {w w' : World} {B : Nat} {v : Value} {ls : List Put} (h : PutsM w B v ls) (ha : Alike B w w') : PutsM w' B v ls := by
  obtain ⟨A, cap, hv, hc, hA⟩ := h
  exact ⟨A, cap, hv, hc, fun h0 => by
    obtain ⟨b, off, h1, h2, h3⟩ := hA h0
    exact ⟨b, off, h1, h2, fun j p hj => (h3 j p hj).alike h2 ha⟩⟩
/-- how much some puts have -/
def load (ls : List Put) : Nat := (ls.map fun p => p.b.length + 10 * p.rs.length).sum
theorem load_take (ls : List Put) (k : Nat) (p : Put) (h : ls[k]? = some p) : load (ls.take (k + 1)) = load (ls.take k) + (p.b.length + 10 * p.rs.length) := by
  obtain ⟨hi, he⟩ := List.getElem?_eq_some_iff.1 h
  unfold load
  rw [List.take_succ_eq_append_getElem hi, he, List.map_append, List.sum_append]
  simp
theorem load_take_le (ls : List Put) (k : Nat) : load (ls.take k) ≤ load ls := by
  have h : load ls = load (ls.take k) + load (ls.drop k) := by
    unfold load
    rw [← List.sum_append, ← List.map_append, List.take_append_drop]
  omega
theorem load_get (ls : List Put) (k : Nat) (p : Put) (h : ls[k]? = some p) : p.b.length + 10 * p.rs.length ≤ load ls := by
  have h1 := load_take ls k p h
  have h2 := load_take_le ls (k + 1)
  omega
end Go.Proofs.Ytfppddnfdinipaa
end
section
namespace Go.Proofs.Ytfppddnfdinipaa.Fre
open Go Go.RowKit
/-- what the head may do to the world -/
class RelOk (X : World → World → Prop) : Prop where
  refl : ∀ w, X w w
  trans : ∀ a b c, X a b → X b c → X a c
  drew : ∀ w, X w w.drew
def Ext (X : World → World → Prop) (w w' : World) : Prop := X w w'
theorem Ext.refl {X : World → World → Prop} [RelOk X] (w : World) : Ext X w w := RelOk.refl (X := X) w
theorem Ext.trans {X : World → World → Prop} [RelOk X] {a b c : World} (h : Ext X a b) (k : Ext X b c) : Ext X a c := RelOk.trans (X := X) a b c h k
theorem Ext.drew {X : World → World → Prop} [RelOk X] (w : World) : Ext X w w.drew := RelOk.drew (X := X) w
/-- what is made, slot by slot -/
abbrev Made := Tmp → Option (Value → World → Prop)

section
variable {P : Program} {ops : Array Oper} {md : Region.Mode} {F : Made} {w0 : World} {X : World → World → Prop} [RelOk X]

/-- what a made thing is stays X so -/
def stays (X : World → World → Prop) (F : Made) : Prop := ∀ t V, F t = some V → ∀ u w w', V u w → Ext X w w' → V u w'

/-- an operation hands on one value -/
def quietTo (X : World → World → Prop) (P : Program) (v : Value) (w : World) : Result Next → Prop
  | .ok (.value u) w' => w' = w ∧ u = v
  | .ok .skip w' => w' = w ∧ v = undef
  | .ok (.enter f args) w' => w' = w ∧ Calls P f args w (fun e w'' => e = .returned v ∧ Ext X w w'')
  | _ => False
/-- a value is none of the made ones -/
def newTo (_ : Made) (_ : Option Tmp) (_ : World) (_ : Value) : Prop := True
/-- an operation makes something -/
def freshTo (X : World → World → Prop) (P : Program) (F : Made) (d : Option Tmp) (V : Value → World → Prop) (w : World) : Result Next → Prop
  | .ok (.value u) w' => Ext X w w' ∧ V u w' ∧ newTo F d w u
  | .ok (.enter f args) w' => w' = w ∧ Calls P f args w (fun e w'' => ∃ u, e = .returned u ∧ Ext X w w'' ∧ V u w'' ∧ newTo F d w u)
  | _ => False
/-- the one or the other -/
def makesTo (X : World → World → Prop) (P : Program) (F : Made) (d : Option Tmp) (V? : Option (Value → World → Prop)) (v : Value) (w : World) (r : Result Next) : Prop :=
  match V? with
  | some V => v = undef ∧ freshTo X P F d V w r
  | none => quietTo X P v w r

/-- frames that are one but for made slots -/
def Same (F : Made) (a b : Act) : Prop := a.defers = b.defers ∧ a.tmps.size = b.tmps.size ∧ ∀ t, F t = none → a.tmps[t]? = b.tmps[t]?

/-- the made slots that are looked at hold what they should -/
def Holds (F : Made) (l : List Tmp) (b : Act) (w : World) : Prop := ∀ t ∈ l, ∀ V, F t = some V → ∃ u, b.tmps[t]? = some u ∧ V u w

/-- what an operation does in whatever frame that is as 'a' but for made slots, and whose made slots that it looks at hold what they should -/
def Does (X : World → World → Prop) (P : Program) (ops : Array Oper) (F : Made) (w0 : World) (o : Oper) (v : Value) (a : Act) : Prop :=
  ∀ b w, Ext X w0 w → Same F b a → Holds F (o.looksAt ops) b w →
    (Region.wanted o (yielded ops b.tmps) = true → makesTo X P F o.dst (o.dst.bind F) v w ((execOp b.eval o).run P w)) ∧
    (Region.wanted o (yielded ops b.tmps) = false → v = undef ∧ o.dst.bind F = none)

theorem tmps_put (a : Act) (d : Tmp) (x : Value) (t : Tmp) (h : t ≠ d) : (a.put (some d) x).tmps[t]? = a.tmps[t]? := by
  simp only [Act.put]
  rw [Array.getElem?_setIfInBounds_ne (Ne.symm h)]
theorem size_put (a : Act) (dst : Option Tmp) (x : Value) : (a.put dst x).tmps.size = a.tmps.size := by cases dst <;> simp [Act.put]
theorem defers_put (a : Act) (dst : Option Tmp) (x : Value) : (a.put dst x).defers = a.defers := by cases dst <;> rfl
theorem tmps_put_at (a : Act) (d : Tmp) (x : Value) : (a.put (some d) x).tmps[d]? = if d < a.tmps.size then some x else none := by
  simp only [Act.put, Array.getElem?_setIfInBounds, if_true]
theorem Same.put {a b : Act} (h : Same F a b) (dst : Option Tmp) (x : Value) : Same F (a.put dst x) (b.put dst x) := by
  refine ⟨by rw [defers_put, defers_put, h.1], by rw [size_put, size_put, h.2.1], fun t ht => ?_⟩
  cases dst with
  | none => exact h.2.2 t ht
  | some d =>
    by_cases e : t = d
    · subst e
      rw [tmps_put_at, tmps_put_at, h.2.1]
    · rw [tmps_put _ _ _ _ e, tmps_put _ _ _ _ e]
      exact h.2.2 t ht

theorem Holds.put {l : List Tmp} {b : Act} {w : World} (dst : Option Tmp) (x : Value) (hl : ∀ d, dst = some d → d ∉ l) : Holds F l (b.put dst x) w ↔ Holds F l b w := by
  unfold Holds
  constructor
  · intro h t ht V hV
    obtain ⟨u, hu, hv⟩ := h t ht V hV
    refine ⟨u, ?_, hv⟩
    cases dst with
    | none => exact hu
    | some d => rwa [tmps_put _ _ _ _ (fun e => hl d rfl (by rw [← e]; exact ht))] at hu
  · intro h t ht V hV
    obtain ⟨u, hu, hv⟩ := h t ht V hV
    refine ⟨u, ?_, hv⟩
    cases dst with
    | none => exact hu
    | some d => rw [tmps_put _ _ _ _ (fun e => hl d rfl (by rw [← e]; exact ht))]; exact hu

omit [RelOk X] in
/-- another slot makes no difference -/
theorem Does.of_put {o : Oper} (hs : ∀ cs b, o.op ≠ .select cs b) {v : Value} {a : Act} {dst : Option Tmp} {x : Value} (hd : ∀ d, dst = some d → d ∉ o.looksAt ops) (h : Does X P ops F w0 o v (a.put dst x)) : Does X P ops F w0 o v a := by
  intro b w hw hb hh
  have h2 := h (b.put dst x) w hw (hb.put dst x) ((Holds.put dst x hd).2 hh)
  rwa [wanted_put o b dst x hd, execOp_put o hs b dst x hd] at h2
omit [RelOk X] in
theorem Does.put {o : Oper} (hs : ∀ cs b, o.op ≠ .select cs b) {v : Value} {a : Act} {dst : Option Tmp} {x : Value} (hd : ∀ d, dst = some d → d ∉ o.looksAt ops) (h : Does X P ops F w0 o v a) : Does X P ops F w0 o v (a.put dst x) := by
  cases dst with
  | none => exact h
  | some d =>
    intro b w hw hb hh
    have hsame : Same F (b.put (some d) (a.tmps.getD d undef)) a := by
      refine ⟨by rw [defers_put, hb.1, defers_put], by rw [size_put, hb.2.1, size_put], fun t ht => ?_⟩
      by_cases e : t = d
      · subst e
        rw [tmps_put_at, hb.2.1, size_put]
        split
        · rename_i hlt; simp [hlt]
        · rename_i hlt; rw [Array.getElem?_eq_none (Nat.le_of_not_lt hlt)]
      · rw [tmps_put _ _ _ _ e, hb.2.2 t ht, tmps_put _ _ _ _ e]
    have h2 := h (b.put (some d) (a.tmps.getD d undef)) w hw hsame ((Holds.put (some d) _ hd).2 hh)
    rwa [wanted_put o b (some d) _ hd, execOp_put o hs b (some d) _ hd] at h2

def absOp (X : World → World → Prop) (P : Program) (ops : Array Oper) (F : Made) (w0 : World) (i : Nat) (K : Act → Prop) (a : Act) : Prop :=
  match ops[i]? with
  | none => K a
  | some o => ∃ v, Does X P ops F w0 o v a ∧ K (a.put o.dst v)
omit [RelOk X] in
theorem absOp_mono {i : Nat} {a : Act} {K K' : Act → Prop} (h : ∀ a, K a → K' a) (hh : absOp X P ops F w0 i K a) : absOp X P ops F w0 i K' a := by
  unfold absOp at *
  cases ho : ops[i]? with
  | none => simp only [ho] at hh; exact h _ hh
  | some o =>
    simp only [ho] at hh
    obtain ⟨v, h1, h2⟩ := hh
    exact ⟨v, h1, h _ h2⟩

omit [RelOk X] in
theorem absOp_put {j : Nat} {oi oj : Oper} {v : Value} (hj : ops[j]? = some oj) (hap : oi.apart ops oj = true)
    (hsi : ∀ cs b, oi.op ≠ .select cs b) (hsj : ∀ cs b, oj.op ≠ .select cs b) {K : Act → Prop} {a : Act}
    (hy : Does X P ops F w0 oi v a) (h : absOp X P ops F w0 j K (a.put oi.dst v)) :
    absOp X P ops F w0 j (fun a' => Does X P ops F w0 oi v a' ∧ K (a'.put oi.dst v)) a := by
  obtain ⟨h1, h2, h3⟩ := Oper.apart_spec hap
  unfold absOp at *
  simp only [hj] at *
  obtain ⟨u, hu, hk⟩ := h
  exact ⟨u, hu.of_put hsj h1, hy.put hsi h3, by rw [← Act.put_comm a v u h2]; exact hk⟩

/-- whatever order the head is taken in, L holds when it is done -/
def headF (X : World → World → Prop) (P : Program) (md : Region.Mode) (ops : Array Oper) (F : Made) (w0 : World) (n : Nat) (L : Array Bool → Act → Prop) : Nat → Array Bool → Act → Prop
  | 0, d, a => L d a
  | f + 1, d, a => Region.ready md ops d ≠ [] ∧ ∀ i ∈ Region.ready md ops d, i < n ∧ absOp X P ops F w0 i (headF X P md ops F w0 n L f (d.setIfInBounds i true)) a

omit [RelOk X] in
theorem headF_first {n i : Nat} {oi : Oper} {v : Value} {L : Array Bool → Act → Prop} (hi : ops[i]? = some oi) (hsel : ∀ (j : Nat) (o : Oper) cs b, ops[j]? = some o → o.op ≠ .select cs b)
    (hs : Region.sinkB md ops n = true) (hc : Region.chainB md ops n = true) (hn : n < ops.size) (hin : i < n) (hdone : ∀ d a, L d a → ∀ j ∈ Region.ready md ops d, n ≤ j) (f : Nat) :
    ∀ (d : Array Bool) (a : Act), HeadInv md ops n d →
      (∀ j oj, ops[j]? = some oj → j ≠ i → d.getD j true = false → (∀ e ∈ oj.after, Region.binds md e = true → e.on ≠ i) → oi.apart ops oj = true) →
      i ∈ Region.ready md ops d → Does X P ops F w0 oi v a →
      headF X P md ops F w0 n L f (d.setIfInBounds i true) (a.put oi.dst v) → headF X P md ops F w0 n L (f + 1) d a := by
  have own : ∀ (K : Act → Prop) (a : Act), Does X P ops F w0 oi v a → K (a.put oi.dst v) → absOp X P ops F w0 i K a := by
    intro K a hy hk
    unfold absOp
    simp only [hi]
    exact ⟨v, hy, hk⟩
  induction f with
  | zero =>
    intro d a inv _ hr hy H
    refine ⟨List.ne_nil_of_mem hr, fun j hj => ?_⟩
    have hjn := headQ_lt hs hc hn inv hin (mem_ready.1 hr).1 hj
    refine ⟨hjn, ?_⟩
    rcases Nat.decEq j i with hji | hji
    · exact absurd (hdone _ _ H j (ready_mono hj hji)) (by omega)
    · subst hji
      exact own _ _ hy H
  | succ f ih =>
    intro d a inv hfree hr hy H
    refine ⟨List.ne_nil_of_mem hr, fun j hj => ?_⟩
    have hjn := headQ_lt hs hc hn inv hin (mem_ready.1 hr).1 hj
    refine ⟨hjn, ?_⟩
    rcases Nat.decEq j i with hji | hji
    · obtain ⟨hjun, oj, hoj, hall⟩ := mem_ready.1 hj
      have hnot : ∀ e ∈ oj.after, Region.binds md e = true → e.on ≠ i := by
        intro e he hb heq
        have h1 := hall e he hb
        rw [heq, getD_both (mem_ready.1 hr).1] at h1
        cases h1
      have hstep := absOp_put hoj (hfree j oj hoj hji hjun hnot) (fun cs b => hsel i oi cs b hi) (fun cs b => hsel j oj cs b hoj) hy (H.2 j (ready_mono hj hji)).2
      refine absOp_mono (fun a' h3 => ih (d.setIfInBounds j true) a' (inv.set hj hjn) ?_ (ready_mono hr (Ne.symm hji)) h3.1 ?_) hstep
      · intro k ok hk hki hunk hno
        refine hfree k ok hk hki ?_ hno
        rcases Nat.decEq j k with hjk | hjk
        · rwa [getD_set_ne true hjk] at hunk
        · subst hjk
          exact hjun
      · rw [Array.setIfInBounds_comm _ _ hji]
        exact h3.2
    · subst hji
      exact own _ _ hy H

/-- the walk in the text's order -/
def wpMade (X : World → World → Prop) (P : Program) (ops : Array Oper) (F : Made) (w0 : World) (Q : Act → Prop) : List Oper → Act → Prop
  | [], a => Q a
  | o :: rest, a => ∃ v, Does X P ops F w0 o v a ∧ wpMade X P ops F w0 Q rest (a.put o.dst v)

omit [RelOk X] in
theorem headF_lex {n g : Nat} {Lq : Act → Prop} (hsel : Region.noSelect ops = true) (hs : Region.sinkB md ops n = true) (hc : Region.chainB md ops n = true) (hn : n < ops.size) :
    ∀ (l : List Oper) (k : Nat) (d : Array Bool) (a : Act), (∀ j, j < l.length → l[j]? = ops[k + j]?) → k + l.length = n → HeadInv md ops n d → (∀ i, i < k → d.getD i false = true) →
    Region.lexHead md ops g l.length k d = true → wpMade X P ops F w0 Lq l a →
    headF X P md ops F w0 n (fun d' a' => (Region.seqB md ops g n d' = true ∧ ∀ i, i < n → d'.getD i false = true) ∧ Lq a') l.length d a
  | [], k, d, a, _, hk, _, hd, hB, h => by
    obtain rfl : k = n := by simpa using hk
    exact ⟨⟨by simpa [Region.lexHead] using hB, hd⟩, h⟩
  | o :: l, k, d, a, hl, hk, inv, hd, hB, h => by
    have h0 : ops[k]? = some o := by simpa using (hl 0 (by simp)).symm
    simp only [List.length_cons, Region.lexHead, Bool.and_eq_true] at hB
    obtain ⟨⟨hr, hf⟩, hB'⟩ := hB
    have hkn : k < n := by simp only [List.length_cons] at hk; omega
    have hr' : k ∈ Region.ready md ops d := by simpa using hr
    obtain ⟨v, hy, hK⟩ := h
    refine headF_first h0 (Region.noSelect_spec hsel) hs hc hn hkn (fun d' a' hL => seqB_ready hL.1.1) l.length d a inv (Region.free_spec h0 hf) hr' hy ?_
    refine headF_lex hsel hs hc hn l (k + 1) _ _ (fun j hj => ?_) (by simp only [List.length_cons] at hk; omega) (inv.set hr' hkn) (fun i hi => ?_) hB' hK
    · have := hl (j + 1) (by simp; omega)
      simpa [Nat.add_assoc, Nat.add_comm 1 j] using this
    · by_cases e : k = i
      · subst e
        have : k < d.size := by rw [inv.size]; omega
        simp [this]
      · rw [getD_set_ne false e]
        exact hd i (by omega)

/-- made slots that are looked at have been made -/
def madeB (md : Region.Mode) (ops : Array Oper) (keys : List Tmp) (n : Nat) : Bool :=
  (List.range n).all fun j => match ops[j]? with
    | none => true
    | some o => (o.looksAt ops).all fun t => !keys.contains t || (List.range n).any fun i => (ops[i]?).bind (·.dst) == some t && Region.waitsFor md ops j i
/-- all made slots are made by the head -/
def allMadeB (ops : Array Oper) (keys : List Tmp) (n : Nat) : Bool := keys.all fun t => (List.range n).any fun i => (ops[i]?).bind (·.dst) == some t

def Sim (X : World → World → Prop) (ops : Array Oper) (F : Made) (w0 : World) (d : Array Bool) (a b : Act) (w : World) : Prop :=
  Ext X w0 w ∧ Same F b a ∧ ∀ i o t V, ops[i]? = some o → d.getD i false = true → o.dst = some t → F t = some V → ∃ u, b.tmps[t]? = some u ∧ V u w

theorem any_of_headF {n g : Nat} {keys : List Tmp} (hF : stays X F) (hkeys : ∀ t V, F t = some V → t ∈ keys) (hmade : madeB md ops keys n = true) (hsz : ∀ t ∈ keys, ∀ a : Act, ∀ b : Act, Same F b a → True)
    {L : Array Bool → Act → Prop} {Q' : Exit → Act → World → Prop} {size : Nat} (hrange : ∀ t V, F t = some V → t < size)
    (hL : ∀ d a b w, b.tmps.size = size → Sim X ops F w0 d a b w → L d a → wpAny P md ops Q' g d b w) :
    ∀ (f : Nat) (d : Array Bool) (a b : Act) (w : World), b.tmps.size = size → HeadInv md ops n d → Sim X ops F w0 d a b w → headF X P md ops F w0 n L f d a → wpAny P md ops Q' (f + g) d b w
  | 0, d, a, b, w, hb, _, hs, h => by
    rw [Nat.zero_add]
    exact hL _ _ _ _ hb hs h
  | f + 1, d, a, b, w, hb, inv, hs, h => by
    rw [Nat.add_right_comm]
    refine ⟨fun he => absurd he h.1, fun i hi => ?_⟩
    obtain ⟨hin, hop⟩ := h.2 i hi
    obtain ⟨hun, oi, hoi, hall⟩ := mem_ready.1 hi
    obtain ⟨hw, hsame, hV⟩ := hs
    unfold absOp at hop
    simp only [hoi] at hop
    obtain ⟨v, hdo, hk⟩ := hop
    -- the made slots that it looks at
    have hhold : Holds F (oi.looksAt ops) b w := by
      intro t ht V hFt
      have h1 := List.all_eq_true.1 hmade i (List.mem_range.2 hin)
      simp only [hoi] at h1
      have h2 := List.all_eq_true.1 h1 t ht
      have hk2 : keys.contains t = true := by simpa using hkeys t V hFt
      simp only [hk2, Bool.not_true, Bool.false_or] at h2
      obtain ⟨j, _, hj2⟩ := List.any_eq_true.1 h2
      simp only [Bool.and_eq_true, beq_iff_eq] at hj2
      obtain ⟨hj3, hj4⟩ := hj2
      obtain ⟨oi', hoi', e, he, hbd, hon⟩ := Region.waitsFor_spec hj4
      obtain rfl : oi' = oi := Option.some.inj (hoi'.symm.trans hoi)
      cases hoj : ops[j]? with
      | none => simp [hoj] at hj3
      | some oj =>
        have hdst : oj.dst = some t := by simpa [hoj] using hj3
        exact (hV j oj t V hoj (by have := hall e he hbd; rwa [hon] at this) hdst hFt)
    obtain ⟨hyes, hno⟩ := hdo b w hw hsame hhold
    -- the next state
    have next : ∀ (x : Value) (w' : World), Ext X w w' → (∀ t V, oi.dst = some t → F t = some V → V x w' ∧ newTo F oi.dst w x) → (oi.dst.bind F = none → x = v) →
        wpAny P md ops Q' (f + g) (d.setIfInBounds i true) (b.put oi.dst x) w' := by
      intro x w' hx hVx hxv
      refine any_of_headF hF hkeys hmade hsz hrange hL f _ (a.put oi.dst v) _ w' (by rw [size_put]; exact hb) (inv.set hi hin) ⟨hw.trans hx, ?_, ?_⟩ hk
      · refine ⟨by rw [defers_put, defers_put, hsame.1], by rw [size_put, size_put, hsame.2.1], fun t ht => ?_⟩
        cases hd : oi.dst with
        | none => exact hsame.2.2 t ht
        | some dd =>
          by_cases e : t = dd
          · subst e
            rw [hxv (by simp [hd, ht]), tmps_put_at, tmps_put_at, hsame.2.1]
          · rw [tmps_put _ _ _ _ e, tmps_put _ _ _ _ e]
            exact hsame.2.2 t ht
      · -- what stands in a slot of the next frame
        have at_new : ∀ t V, oi.dst = some t → F t = some V → (b.put oi.dst x).tmps[t]? = some x := by
          intro t V e hFt
          rw [e, tmps_put_at, if_pos (by rw [hb]; exact hrange t V hFt)]
        have at_old : ∀ t, oi.dst ≠ some t → (b.put oi.dst x).tmps[t]? = b.tmps[t]? := by
          intro t e
          cases hd : oi.dst with
          | none => rfl
          | some dd => exact tmps_put _ _ _ _ (fun e3 => e (by rw [hd, e3]))
        have was : ∀ j oj t V, ops[j]? = some oj → (d.setIfInBounds i true).getD j false = true → oj.dst = some t → F t = some V → oi.dst ≠ some t → d.getD j false = true := by
          intro j oj t V hoj hlj hdj hFt e
          have hji : j ≠ i := by
            intro e2
            subst e2
            obtain rfl : oj = oi := Option.some.inj (hoj.symm.trans hoi)
            exact e hdj
          rwa [getD_set_ne false (Ne.symm hji)] at hlj
        intro j oj t V hoj hlj hdj hFt
        by_cases e : oi.dst = some t
        · exact ⟨x, at_new t V e hFt, (hVx t V e hFt).1⟩
        · obtain ⟨u, hu, hVu⟩ := hV j oj t V hoj (was j oj t V hoj hlj hdj hFt e) hdj hFt
          exact ⟨u, by rw [at_old t e]; exact hu, hF t V hFt u w w' hVu hx⟩
    unfold wpOp
    simp only [hoi]
    by_cases hwt : Region.wanted oi (yielded ops b.tmps) = true
    · rw [if_pos hwt]
      refine .inl ?_
      have hm := hyes hwt
      unfold Oper.wp
      generalize (execOp b.eval oi).run P w = r at hm
      cases hbind : oi.dst.bind F with
      | none =>
        simp only [makesTo, hbind] at hm
        have hVx : ∀ (x : Value) (w' : World) t V, oi.dst = some t → F t = some V → V x w' ∧ newTo F oi.dst w x := by
          intro x w' t V h1 h2
          simp [h1, h2] at hbind
        cases r with
        | halt x w' => exact hm.elim
        | ok nx w' =>
          cases nx <;> simp only [quietTo] at hm
          case value u =>
            obtain ⟨rfl, rfl⟩ := hm
            exact next _ _ (Ext.refl _) (hVx _ _) (fun _ => rfl)
          case skip =>
            obtain ⟨rfl, rfl⟩ := hm
            exact next _ _ (Ext.refl _) (hVx _ _) (fun _ => rfl)
          case enter fn args =>
            obtain ⟨rfl, hcall⟩ := hm
            refine hcall.mono ?_
            rintro e w'' ⟨rfl, hx⟩
            exact next _ _ hx (hVx _ _) (fun _ => rfl)
      | some V =>
        simp only [makesTo, hbind] at hm
        obtain ⟨_, hm⟩ := hm
        have hnone : oi.dst.bind F = none → ∀ x : Value, x = v := fun h => by rw [hbind] at h; cases h
        have hVx : ∀ (x : Value) (w' : World), V x w' ∧ newTo F oi.dst w x → ∀ t V', oi.dst = some t → F t = some V' → V' x w' ∧ newTo F oi.dst w x := by
          intro x w' hx t V' h1 h2
          simp only [h1, Option.bind_some, h2, Option.some.injEq] at hbind
          rw [hbind]; exact hx
        cases r with
        | halt x w' => exact hm.elim
        | ok nx w' =>
          cases nx <;> simp only [freshTo] at hm
          case value u => exact next _ _ hm.1 (hVx _ _ hm.2) (fun h => hnone h _)
          case enter fn args =>
            obtain ⟨rfl, hcall⟩ := hm
            refine hcall.mono ?_
            rintro e w'' ⟨u, rfl, hx, hVu⟩
            exact next _ _ hx (hVx _ _ hVu) (fun h => hnone h _)
    · rw [if_neg hwt]
      have h3 := hno (by simpa using hwt)
      refine next _ _ (Ext.refl _) ?_ (fun _ => h3.1.symm)
      intro t V h1 h2
      have h4 := h3.2
      simp [h1, h2] at h4

/-- THE LAW. -/
theorem wp_made_tail {id : Nat} {Q : Exit → Act → World → Prop} {a : Act} {w : World} {l : List Oper} (n : Nat) (keys : List Tmp) (F : Made) (hm : P.follows .mixedOrders = true)
    (hB : (Region.lexTailB .any l.toArray n && madeB .any l.toArray keys n && allMadeB l.toArray keys n) = true) (hkeys : ∀ t V, F t = some V → t ∈ keys) (hF : stays X F) (hrange : ∀ t ∈ keys, t < a.tmps.size)
    (h : wpMade X P l.toArray F w (fun a' => ∀ b w', Ext X w w' → Same F b a' → (∀ t V, F t = some V → ∃ u, b.tmps[t]? = some u ∧ V u w') → wpList P l.toArray Q (l.drop n) b w') (l.take n) a) :
    (Code.region id l.toArray true).wp P Q a w := by
  simp only [Bool.and_eq_true] at hB
  obtain ⟨⟨hB, hmade⟩, hallm⟩ := hB
  simp only [Region.lexTailB, Bool.and_eq_true, decide_eq_true_eq] at hB
  obtain ⟨⟨⟨⟨hsel, hn⟩, hs⟩, hc⟩, hlex⟩ := hB
  have hn' : n < l.length := by simpa using hn
  have htl : (l.take n).length = n := by simp; omega
  have hdl : (l.drop n).length = l.toArray.size - n := by simp
  have inv0 : HeadInv .any l.toArray n (Array.replicate l.toArray.size false) :=
    ⟨by simp, fun j oj _ hl => (by rw [getD_replicate_false] at hl; cases hl), fun t _ ht => getD_in (by simpa using ht) (getD_replicate_false _ _)⟩
  have H := headF_lex (md := .any) (g := l.toArray.size - n) hsel hs hc hn (l.take n) 0 _ a (fun j hj => by
    have hj' : j < n := by rw [htl] at hj; exact hj
    simp [hj']) (by simpa using htl) inv0 (fun i hi => absurd hi (Nat.not_lt_zero _)) (by rw [htl]; exact hlex) h
  refine wp_region_any hm ?_
  have hfin := any_of_headF (Q' := Q) (g := l.toArray.size - n) (size := a.tmps.size) hF hkeys hmade (fun _ _ _ _ _ => trivial) (fun t V h => hrange t (hkeys t V h)) (fun d a' b w' _ hsim hL => by
    have mk : ∀ t V, F t = some V → ∃ i oi, l.toArray[i]? = some oi ∧ d.getD i false = true ∧ oi.dst = some t := by
      intro t V hFt
      have h5 := List.all_eq_true.1 hallm t (hkeys t V hFt)
      obtain ⟨i, hi, hi2⟩ := List.any_eq_true.1 h5
      simp only [beq_iff_eq] at hi2
      cases hoi : l.toArray[i]? with
      | none => simp [hoi] at hi2
      | some oi => exact ⟨i, oi, hoi, hL.1.2 i (List.mem_range.1 hi), by simpa [hoi] using hi2⟩
    have h2 := hL.2 b w' hsim.1 hsim.2.1 (fun t V hFt => by
      obtain ⟨i, oi, hoi, hdn, hdst⟩ := mk t V hFt
      exact hsim.2.2 i oi t V hoi hdn hdst hFt)
    have h4 := wpAny_of_seq (md := .any) (Q' := Q) (l.drop n) n d b w' (fun j => by simp [List.getElem?_drop]) (by rw [hdl]; exact hL.1.1) h2
    rwa [hdl] at h4) _ _ a a w.drew rfl inv0 ⟨Ext.drew w, ⟨rfl, rfl, fun _ _ => rfl⟩, fun i o t V _ hd => by rw [getD_replicate_false] at hd; cases hd⟩ H
  rw [htl, show n + (l.toArray.size - n) = l.toArray.size by omega] at hfin
  exact hfin

/- FOR THE WALK -/
theorem Same.fix {a b : Act} {t : Tmp} {u : Value} (h : Same F b a) (hu : b.tmps[t]? = some u) : Same (fun s => if s = t then none else F s) b (a.put (some t) u) := by
  have ht : t < b.tmps.size := by
    rcases Nat.lt_or_ge t b.tmps.size with h | h
    · exact h
    · rw [Array.getElem?_eq_none h] at hu; cases hu
  refine ⟨by rw [defers_put]; exact h.1, by rw [size_put]; exact h.2.1, fun s hs => ?_⟩
  by_cases e : s = t
  · subst e
    rw [tmps_put_at, if_pos (by rw [← h.2.1]; exact ht), hu]
  · rw [tmps_put _ _ _ _ e]
    exact h.2.2 s (by simpa [e] using hs)
theorem Same.eq {a b : Act} (h : Same F b a) (hF : ∀ s, F s = none) : b = a := by
  obtain ⟨bt, bd⟩ := b
  obtain ⟨at', ad⟩ := a
  obtain ⟨h1, _, h3⟩ := h
  have h4 : bt = at' := Array.ext_getElem? fun i => h3 i (hF i)
  cases h1; cases h4; rfl
theorem Same.eval {a b : Act} (h : Same F b a) {x : Operand} (hx : ∀ t, x = .tmp t → F t = none) : b.eval x = a.eval x := by
  cases x with
  | tmp t =>
    have h1 := h.2.2 t (hx t rfl)
    show b.tmps.getD t undef = a.tmps.getD t undef
    rw [Array.getD_eq_getD_getElem?, Array.getD_eq_getD_getElem?, h1]
  | _ => rfl
omit [RelOk X] in
theorem does_of {o : Oper} {v : Value} {a : Act} (hs : ∀ cs b, o.op ≠ .select cs b) (hg : o.guard = none) (hl : ∀ x ∈ o.op.operands, ∀ t, x = .tmp t → F t = none)
    (h : ∀ w, Ext X w0 w → makesTo X P F o.dst (o.dst.bind F) v w ((execOp a.eval o).run P w)) : Does X P ops F w0 o v a := by
  intro b w hw hb _
  have e : execOp b.eval o = execOp a.eval o := execOp_congr o hs fun x hx => hb.eval (hl x hx)
  have hwt : Region.wanted o (yielded ops b.tmps) = true := by unfold Region.wanted; rw [hg]
  rw [e]
  exact ⟨fun _ => h w hw, fun h2 => by rw [hwt] at h2; cases h2⟩
end
end Go.Proofs.Ytfppddnfdinipaa.Fre
end
section
namespace Go.Proofs.Ytfppddnfdinipaa.Fre
open Go Go.RowKit
/-- slot by slot, what a made thing is -/
abbrev MadeL := List (Tmp × (Value → World → Prop))
def madeBy (L : MadeL) : Made := fun t => (L.find? (fun p => p.1 == t)).map (·.2)
/-- what is made stays X so, and lies somewhere -/
structure MadeOk (X : World → World → Prop) (V : Value → World → Prop) : Prop where
  stays : ∀ u w w', V u w → Ext X w w' → V u w'
theorem madeBy_mem {L : MadeL} {t : Tmp} {V : Value → World → Prop} (h : madeBy L t = some V) : (t, V) ∈ L := by
  unfold madeBy at h
  cases hf : L.find? (fun p => p.1 == t) with
  | none => rw [hf] at h; cases h
  | some p =>
    rw [hf] at h
    obtain rfl := Option.some.inj h
    have h1 := List.mem_of_find?_eq_some hf
    have h2 := List.find?_some hf
    simp only [beq_iff_eq] at h2
    obtain ⟨a, b⟩ := p
    subst h2
    exact h1
theorem madeBy_cons (t : Tmp) (V : Value → World → Prop) (L : MadeL) (s : Tmp) : madeBy ((t, V) :: L) s = if t = s then some V else madeBy L s := by
  unfold madeBy
  by_cases h : t = s
  · simp [h]
  · simp [h]
theorem madeBy_look : ∀ {L : MadeL} {t : Tmp} {V : Value → World → Prop}, (L.map (·.1)).Nodup → (t, V) ∈ L → madeBy L t = some V
  | [], _, _, _, hm => by cases hm
  | (t', V') :: L, t, V, hn, hm => by
    simp only [List.map_cons, List.nodup_cons] at hn
    rw [madeBy_cons]
    rcases List.mem_cons.1 hm with hm | hm
    · injection hm with e1 e2
      subst e1 e2
      rw [if_pos rfl]
    · rw [if_neg (fun e => hn.1 (List.mem_map.2 ⟨_, hm, e.symm⟩))]
      exact madeBy_look hn.2 hm
theorem madeBy_none {L : MadeL} {t : Tmp} (h : (L.map (·.1)).contains t = false) : madeBy L t = none := by
  cases hm : madeBy L t with
  | none => rfl
  | some V =>
    have h1 := madeBy_mem hm
    have h2 : (L.map (·.1)).contains t = true := by
      rw [List.contains_iff_mem]
      exact List.mem_map.2 ⟨_, h1, rfl⟩
    rw [h2] at h; cases h
section
variable {P : Program} {ops : Array Oper} {L : MadeL} {w0 : World} {rest : List Oper} {o : Oper} {a : Act} {Q : Act → Prop} {X : World → World → Prop} [RelOk X]
omit [RelOk X] in
theorem stays_by (hL : ∀ p ∈ L, MadeOk X p.2) : stays X (madeBy L) := fun _ _ hV u w w' hu hw => (hL _ (madeBy_mem hV)).stays u w w' hu hw
/-- an operation that looks at no made slot but t, and is no select -/
def looksB (keys : List Tmp) (ops : Array Oper) (o : Oper) : Bool := (match o.op with | .select _ _ => false | _ => true) && (o.looksAt ops).all fun s => !keys.contains s
theorem looksB_sel {keys : List Tmp} (h : looksB keys ops o = true) : ∀ cs b, o.op ≠ .select cs b := by
  intro cs b e
  unfold looksB at h
  rw [e] at h
  cases h
theorem looksB_opd {keys : List Tmp} (h : looksB keys ops o = true) {x : Operand} (hx : x ∈ o.op.operands) {t : Tmp} (e : x = .tmp t) : keys.contains t = false := by
  simp only [looksB, Bool.and_eq_true] at h
  have h2 := List.all_eq_true.1 h.2 t (by
    unfold Oper.looksAt
    exact List.mem_append_left _ (List.mem_filterMap.2 ⟨x, by simpa using hx, by rw [e]⟩))
  simpa using h2
theorem looksB_guard {keys : List Tmp} (h : looksB keys ops o = true) {g : Nat} {y : Bool} (hg : o.guard = some (g, y)) {t : Tmp} (ht : (ops[g]?).bind (·.dst) = some t) : keys.contains t = false := by
  simp only [looksB, Bool.and_eq_true] at h
  have h2 := List.all_eq_true.1 h.2 t (by
    unfold Oper.looksAt
    refine List.mem_append_right _ ?_
    rw [hg]
    simp [ht])
  simpa using h2
theorem wanted_same {F : Made} {b : Act} (hb : Same F b a) (hg : ∀ g x, o.guard = some (g, x) → ∀ t, (ops[g]?).bind (·.dst) = some t → F t = none) : Region.wanted o (yielded ops b.tmps) = Region.wanted o (yielded ops a.tmps) := by
  unfold Region.wanted
  cases hgd : o.guard with
  | none => rfl
  | some p =>
    obtain ⟨g, x⟩ := p
    simp only
    unfold yielded
    cases ht : (ops[g]?).bind (·.dst) with
    | none => rfl
    | some t => simp only [Option.bind_some, hb.2.2 t (hg g x hgd t ht)]
theorem looksB_wanted {b : Act} (hB : looksB (L.map (·.1)) ops o = true) (hb : Same (madeBy L) b a) : Region.wanted o (yielded ops b.tmps) = Region.wanted o (yielded ops a.tmps) :=
  wanted_same hb fun _ _ hg _ ht => madeBy_none (looksB_guard hB hg ht)
theorem looksB_exec {b : Act} (hB : looksB (L.map (·.1)) ops o = true) (hb : Same (madeBy L) b a) : execOp b.eval o = execOp a.eval o :=
  execOp_congr o (looksB_sel hB) fun _ hx => hb.eval fun _ e => madeBy_none (looksB_opd hB hx e)

omit [RelOk X] in
/-- an operation that hands on a value -/
theorem made_val (v : Value) (hB : looksB (L.map (·.1)) ops o = true) (hw : Region.wanted o (yielded ops a.tmps) = true) (hd : o.dst.bind (madeBy L) = none)
    (hrun : ∀ w, Ext X w0 w → (execOp a.eval o).run P w = .ok (.value v) w) (h : wpMade X P ops (madeBy L) w0 Q rest (a.put o.dst v)) : wpMade X P ops (madeBy L) w0 Q (o :: rest) a := by
  refine ⟨v, fun b w hx hb _ => ⟨fun _ => ?_, fun h2 => ?_⟩, h⟩
  · rw [hd, looksB_exec hB hb, hrun w hx]
    exact ⟨rfl, rfl⟩
  · rw [looksB_wanted hB hb, hw] at h2; cases h2
omit [RelOk X] in
/-- an operation that is not wanted -/
theorem made_skip (hB : looksB (L.map (·.1)) ops o = true) (hw : Region.wanted o (yielded ops a.tmps) = false) (hd : o.dst.bind (madeBy L) = none)
    (h : wpMade X P ops (madeBy L) w0 Q rest (a.put o.dst undef)) : wpMade X P ops (madeBy L) w0 Q (o :: rest) a := by
  refine ⟨undef, fun b w hx hb _ => ⟨fun h2 => ?_, fun _ => ⟨rfl, hd⟩⟩, h⟩
  rw [looksB_wanted hB hb, hw] at h2; cases h2
omit [RelOk X] in
/-- a call that makes at most memory, and hands on a value -/
theorem made_call (v : Value) (f : Nat) (args : Array Value) (hB : looksB (L.map (·.1)) ops o = true) (hw : Region.wanted o (yielded ops a.tmps) = true) (hd : o.dst.bind (madeBy L) = none)
    (hrun : ∀ w, (execOp a.eval o).run P w = .ok (.enter f args) w) (hc : ∀ w, Ext X w0 w → Calls P f args w fun e w' => e = .returned v ∧ Ext X w w')
    (h : wpMade X P ops (madeBy L) w0 Q rest (a.put o.dst v)) : wpMade X P ops (madeBy L) w0 Q (o :: rest) a := by
  refine ⟨v, fun b w hx hb _ => ⟨fun _ => ?_, fun h2 => ?_⟩, h⟩
  · rw [hd, looksB_exec hB hb, hrun w]
    exact ⟨rfl, hc w hx⟩
  · rw [looksB_wanted hB hb, hw] at h2; cases h2
omit [RelOk X] in
/-- an operation that makes something -/
theorem made_new (t : Tmp) (V : Value → World → Prop) (hB : looksB (L.map (·.1)) ops o = true) (hw : Region.wanted o (yielded ops a.tmps) = true) (hd : o.dst = some t) (hV : madeBy L t = some V)
    (hrun : ∀ w, Ext X w0 w → ∃ u w', (execOp a.eval o).run P w = .ok (.value u) w' ∧ Ext X w w' ∧ V u w')
    (h : wpMade X P ops (madeBy L) w0 Q rest (a.put o.dst undef)) : wpMade X P ops (madeBy L) w0 Q (o :: rest) a := by
  refine ⟨undef, fun b w hx hb _ => ⟨fun _ => ?_, fun h2 => ?_⟩, h⟩
  · obtain ⟨u, w', h1, h2, h3⟩ := hrun w hx
    rw [hd, Option.bind_some, hV, looksB_exec hB hb, h1]
    exact ⟨rfl, h2, h3, trivial⟩
  · rw [looksB_wanted hB hb, hw] at h2; cases h2
omit [RelOk X] in
/-- a call that makes something -/
theorem made_newcall (t : Tmp) (V : Value → World → Prop) (f : Nat) (args : Array Value) (hB : looksB (L.map (·.1)) ops o = true) (hw : Region.wanted o (yielded ops a.tmps) = true) (hd : o.dst = some t) (hV : madeBy L t = some V)
    (hrun : ∀ w, (execOp a.eval o).run P w = .ok (.enter f args) w) (hc : ∀ w, Ext X w0 w → Calls P f args w fun e w' => ∃ u, e = .returned u ∧ Ext X w w' ∧ V u w')
    (h : wpMade X P ops (madeBy L) w0 Q rest (a.put o.dst undef)) : wpMade X P ops (madeBy L) w0 Q (o :: rest) a := by
  refine ⟨undef, fun b w hx hb _ => ⟨fun _ => ?_, fun h2 => ?_⟩, h⟩
  · rw [hd, Option.bind_some, hV, looksB_exec hB hb, hrun w]
    refine ⟨rfl, rfl, (hc w hx).mono ?_⟩
    rintro e w' ⟨u, h1, h2, h3⟩
    exact ⟨u, h1, h2, h3, trivial⟩
  · rw [looksB_wanted hB hb, hw] at h2; cases h2

/-- the same, of an operation that looks at one made slot -/
def looksB1 (s : Tmp) (keys : List Tmp) (ops : Array Oper) (o : Oper) : Bool := (match o.op with | .select _ _ => false | _ => true) && (o.op.operands.toList.all fun x => match x with | .tmp t => t == s || !keys.contains t | _ => true) &&
  (match o.guard with | some (g, _) => ((ops[g]?).bind (·.dst)).toList.all fun t => !keys.contains t | none => true) && (o.looksAt ops).contains s
theorem looksB1_wanted {s : Tmp} {b : Act} (hB : looksB1 s (L.map (·.1)) ops o = true) (hb : Same (madeBy L) b a) : Region.wanted o (yielded ops b.tmps) = Region.wanted o (yielded ops a.tmps) := by
  refine wanted_same hb fun g _ hg t ht => madeBy_none ?_
  simp only [looksB1, Bool.and_eq_true] at hB
  have h := hB.1.2
  rw [hg] at h
  simpa [ht] using h
theorem looksB1_exec {s : Tmp} {u : Value} {b : Act} (hB : looksB1 s (L.map (·.1)) ops o = true) (hb : Same (madeBy L) b a) (hu : b.tmps[s]? = some u) : execOp b.eval o = execOp (a.put (some s) u).eval o := by
  simp only [looksB1, Bool.and_eq_true] at hB
  refine execOp_congr o ?_ fun x hx => ?_
  · intro cs d e
    have h := hB.1.1.1
    rw [e] at h
    cases h
  · refine (hb.fix hu).eval fun t e => ?_
    have h := List.all_eq_true.1 hB.1.1.2 x (by simpa using hx)
    rw [e] at h
    simp only [Bool.or_eq_true, beq_iff_eq, Bool.not_eq_true'] at h
    rcases h with h | h
    · rw [if_pos h]
    · split
      · rfl
      · exact madeBy_none h
theorem looksB1_holds {s : Tmp} {V : Value → World → Prop} {b : Act} {w : World} (hB : looksB1 s (L.map (·.1)) ops o = true) (hV : madeBy L s = some V) (hh : Holds (madeBy L) (o.looksAt ops) b w) : ∃ u, b.tmps[s]? = some u ∧ V u w := by
  simp only [looksB1, Bool.and_eq_true] at hB
  exact hh s (by simpa using hB.2) V hV
omit [RelOk X] in
theorem made_val1 (s : Tmp) (V : Value → World → Prop) (v : Value) (hB : looksB1 s (L.map (·.1)) ops o = true) (hV : madeBy L s = some V) (hw : Region.wanted o (yielded ops a.tmps) = true) (hd : o.dst.bind (madeBy L) = none)
    (hrun : ∀ u w, Ext X w0 w → V u w → (execOp (a.put (some s) u).eval o).run P w = .ok (.value v) w) (h : wpMade X P ops (madeBy L) w0 Q rest (a.put o.dst v)) : wpMade X P ops (madeBy L) w0 Q (o :: rest) a := by
  refine ⟨v, fun b w hx hb hh => ⟨fun _ => ?_, fun h2 => ?_⟩, h⟩
  · obtain ⟨u, hu, hVu⟩ := looksB1_holds hB hV hh
    rw [hd, looksB1_exec hB hb hu, hrun u w hx hVu]
    exact ⟨rfl, rfl⟩
  · rw [looksB1_wanted hB hb, hw] at h2; cases h2
omit [RelOk X] in
theorem made_call1 (s : Tmp) (V : Value → World → Prop) (v : Value) (f : Nat) (args : Value → Array Value) (hB : looksB1 s (L.map (·.1)) ops o = true) (hV : madeBy L s = some V) (hw : Region.wanted o (yielded ops a.tmps) = true) (hd : o.dst.bind (madeBy L) = none)
    (hrun : ∀ u w, (execOp (a.put (some s) u).eval o).run P w = .ok (.enter f (args u)) w) (hc : ∀ u w, Ext X w0 w → V u w → Calls P f (args u) w fun e w' => e = .returned v ∧ Ext X w w')
    (h : wpMade X P ops (madeBy L) w0 Q rest (a.put o.dst v)) : wpMade X P ops (madeBy L) w0 Q (o :: rest) a := by
  refine ⟨v, fun b w hx hb hh => ⟨fun _ => ?_, fun h2 => ?_⟩, h⟩
  · obtain ⟨u, hu, hVu⟩ := looksB1_holds hB hV hh
    rw [hd, looksB1_exec hB hb hu, hrun u w]
    exact ⟨rfl, hc u w hx hVu⟩
  · rw [looksB1_wanted hB hb, hw] at h2; cases h2
omit [RelOk X] in
/-- what is made out of one made thing -/
theorem made_new1 (s : Tmp) (V : Value → World → Prop) (t : Tmp) (V' : Value → World → Prop) (hB : looksB1 s (L.map (·.1)) ops o = true) (hV : madeBy L s = some V) (hw : Region.wanted o (yielded ops a.tmps) = true) (hd : o.dst = some t) (hV' : madeBy L t = some V')
    (hrun : ∀ u w, Ext X w0 w → V u w → ∃ u' w', (execOp (a.put (some s) u).eval o).run P w = .ok (.value u') w' ∧ Ext X w w' ∧ V' u' w')
    (h : wpMade X P ops (madeBy L) w0 Q rest (a.put o.dst undef)) : wpMade X P ops (madeBy L) w0 Q (o :: rest) a := by
  refine ⟨undef, fun b w hx hb hh => ⟨fun _ => ?_, fun h2 => ?_⟩, h⟩
  · obtain ⟨u, hu, hVu⟩ := looksB1_holds hB hV hh
    obtain ⟨u', w', h1, h2, h3⟩ := hrun u w hx hVu
    rw [hd, Option.bind_some, hV', looksB1_exec hB hb hu, h1]
    exact ⟨rfl, h2, h3, trivial⟩
  · rw [looksB1_wanted hB hb, hw] at h2; cases h2

/-- the end: the made things, one by one, in their slots -/
def ended : MadeL → World → Act → (Act → Prop) → Prop
  | [], _, a, K => K a
  | (t, V) :: L, w, a, K => ∀ u, V u w → ended L w (a.put (some t) u) K
theorem ended_elim (K : Act → Prop) (w : World) : ∀ (L : MadeL) (a b : Act), Same (madeBy L) b a → (L.map (·.1)).Nodup → (∀ t V, (t, V) ∈ L → ∃ u, b.tmps[t]? = some u ∧ V u w) → ended L w a K → K b
  | [], a, b, hs, _, _, h => by
    obtain rfl := hs.eq (fun _ => rfl)
    exact h
  | (t, V) :: L, a, b, hs, hn, hh, h => by
    obtain ⟨u, hu, hVu⟩ := hh t V (by simp)
    have h2 := h u hVu
    simp only [List.map_cons, List.nodup_cons] at hn
    refine ended_elim K w L _ b ?_ hn.2 (fun s V' hm => hh s V' (by simp [hm])) h2
    have h3 := hs.fix hu
    refine ⟨h3.1, h3.2.1, fun s hs' => h3.2.2 s ?_⟩
    show (if s = t then none else madeBy ((t, V) :: L) s) = none
    split
    · rfl
    · rename_i hne
      rw [madeBy_cons, if_neg (Ne.symm hne)]
      exact hs'
/-- THE LAW -/
theorem wp_made {id : Nat} {Q : Exit → Act → World → Prop} {a : Act} {w : World} {l : List Oper} (n : Nat) (L : MadeL) (hm : P.follows .mixedOrders = true)
    (hB : (Region.lexTailB .any l.toArray n && madeB .any l.toArray (L.map (·.1)) n && allMadeB l.toArray (L.map (·.1)) n) = true) (hL : ∀ p ∈ L, MadeOk X p.2) (hn : (L.map (·.1)).Nodup) (hrange : ∀ t ∈ L.map (·.1), t < a.tmps.size)
    (h : wpMade X P l.toArray (madeBy L) w (fun a' => ∀ w', Ext X w w' → ended L w' a' fun b => wpList P l.toArray Q (l.drop n) b w') (l.take n) a) :
    (Code.region id l.toArray true).wp P Q a w := by
  refine wp_made_tail n (L.map (·.1)) (madeBy L) hm hB (fun t V hV => List.mem_map.2 ⟨_, madeBy_mem hV, rfl⟩) (stays_by hL) hrange ?_
  have e : ∀ (rest : List Oper) (a : Act), wpMade X P l.toArray (madeBy L) w (fun a' => ∀ w', Ext X w w' → ended L w' a' fun b => wpList P l.toArray Q (l.drop n) b w') rest a →
      wpMade X P l.toArray (madeBy L) w (fun a' => ∀ b w', Ext X w w' → Same (madeBy L) b a' → (∀ t V, madeBy L t = some V → ∃ u, b.tmps[t]? = some u ∧ V u w') → wpList P l.toArray Q (l.drop n) b w') rest a := by
    intro rest
    induction rest with
    | nil =>
      intro a h b w' hx hs hh
      exact ended_elim _ w' L a b hs hn (fun t V hm => hh t V (madeBy_look hn hm)) (h w' hx)
    | cons o rest ih =>
      intro a h
      obtain ⟨v, h1, h2⟩ := h
      exact ⟨v, h1, ih _ h2⟩
  exact e _ _ h

end
end Go.Proofs.Ytfppddnfdinipaa.Fre
end
section
namespace Go.Proofs.Ytfppddnfdinipaa.Fre
open Go Go.RowKit
section
variable {P : Program} {ops : Array Oper} {L : MadeL} {w0 : World} {rest : List Oper} {o : Oper} {a : Act} {Q : Act → Prop} {X : World → World → Prop} [RelOk X]
def looksB2 (s r : Tmp) (keys : List Tmp) (ops : Array Oper) (o : Oper) : Bool := (match o.op with | .select _ _ => false | _ => true) && (o.op.operands.toList.all fun x => match x with | .tmp t => t == s || t == r || !keys.contains t | _ => true) &&
  (match o.guard with | some (g, _) => ((ops[g]?).bind (·.dst)).toList.all fun t => !keys.contains t | none => true) && (o.looksAt ops).contains s && (o.looksAt ops).contains r
theorem looksB2_wanted {s r : Tmp} {b : Act} (hB : looksB2 s r (L.map (·.1)) ops o = true) (hb : Same (madeBy L) b a) : Region.wanted o (yielded ops b.tmps) = Region.wanted o (yielded ops a.tmps) := by
  refine wanted_same hb fun g _ hg t ht => madeBy_none ?_
  simp only [looksB2, Bool.and_eq_true] at hB
  have h := hB.1.1.2
  rw [hg] at h
  simpa [ht] using h
theorem looksB2_exec {s r : Tmp} {u v : Value} {b : Act} (hB : looksB2 s r (L.map (·.1)) ops o = true) (hb : Same (madeBy L) b a) (hu : b.tmps[s]? = some u) (hv : b.tmps[r]? = some v) : execOp b.eval o = execOp ((a.put (some s) u).put (some r) v).eval o := by
  simp only [looksB2, Bool.and_eq_true] at hB
  refine execOp_congr o ?_ fun x hx => ?_
  · intro cs d e
    have h := hB.1.1.1.1
    rw [e] at h
    cases h
  · refine ((hb.fix hu).fix hv).eval fun t e => ?_
    have h := List.all_eq_true.1 hB.1.1.1.2 x (by simpa using hx)
    rw [e] at h
    simp only [Bool.or_eq_true, beq_iff_eq, Bool.not_eq_true'] at h
    rcases h with (h | h) | h
    · split
      · rfl
      · first | rfl | rw [if_pos h]
    · rw [if_pos h]
    · split
      · rfl
      · split
        · rfl
        · exact madeBy_none h
theorem looksB2_holds {s r : Tmp} {V V2 : Value → World → Prop} {b : Act} {w : World} (hB : looksB2 s r (L.map (·.1)) ops o = true) (hV : madeBy L s = some V) (hV2 : madeBy L r = some V2) (hh : Holds (madeBy L) (o.looksAt ops) b w) : (∃ u, b.tmps[s]? = some u ∧ V u w) ∧ ∃ u, b.tmps[r]? = some u ∧ V2 u w := by
  simp only [looksB2, Bool.and_eq_true] at hB
  exact ⟨hh s (by simpa using hB.1.2) V hV, hh r (by simpa using hB.2) V2 hV2⟩
omit [RelOk X] in
/-- what is made out of two made things -/
theorem made_new2 (s r : Tmp) (V V2 : Value → World → Prop) (t : Tmp) (V' : Value → World → Prop) (hB : looksB2 s r (L.map (·.1)) ops o = true) (hV : madeBy L s = some V) (hV2 : madeBy L r = some V2) (hw : Region.wanted o (yielded ops a.tmps) = true) (hd : o.dst = some t) (hV' : madeBy L t = some V')
    (hrun : ∀ u v w, Ext X w0 w → V u w → V2 v w → ∃ u' w', (execOp ((a.put (some s) u).put (some r) v).eval o).run P w = .ok (.value u') w' ∧ Ext X w w' ∧ V' u' w')
    (h : wpMade X P ops (madeBy L) w0 Q rest (a.put o.dst undef)) : wpMade X P ops (madeBy L) w0 Q (o :: rest) a := by
  refine ⟨undef, fun b w hx hb hh => ⟨fun _ => ?_, fun h2 => ?_⟩, h⟩
  · obtain ⟨⟨u, hu, hVu⟩, v, hv, hVv⟩ := looksB2_holds hB hV hV2 hh
    obtain ⟨u', w', h1, h2, h3⟩ := hrun u v w hx hVu hVv
    rw [hd, Option.bind_some, hV', looksB2_exec hB hb hu hv, h1]
    exact ⟨rfl, h2, h3, trivial⟩
  · rw [looksB2_wanted hB hb, hw] at h2; cases h2
end
end Go.Proofs.Ytfppddnfdinipaa.Fre
end
section
namespace Go.Proofs.Ytfppddnfdinipaa
open Go Go.RowKit
set_option maxRecDepth 100000
/-- only memory is made -/
def Blw (w w' : World) : Prop := Below w.heap.size w w'
instance : Fre.RelOk Blw where
  refl := fun w => Below.refl _ w
  trans := fun _ _ _ h k => Below.trans h (Below.mono k h.size)
  drew := fun w => (Below.refl _ w).drew
/-- a row of runs, wherever it lies -/
def RunV (l : List Run) (u : Value) (w : World) : Prop := ∃ r, u = .slice (some ⟨r, 0, none⟩) l.length l.length ∧ RunsM w w.heap.size u l
theorem runv_ok (l : List Run) : Fre.MadeOk Blw (RunV l) := ⟨fun u w w' ⟨r, h1, h2⟩ hx => by
  have hb : Below w.heap.size w w' := hx
  exact ⟨r, h1, (h2.alike hb.block).widen hb.size⟩⟩
theorem free_run (l : List Run) (hr : ∀ r ∈ l, r64 r) {w0 : World} {R : World → Result Next} (hrun : ∀ w, R w = .ok (.value (.slice (some ⟨w.heap.size, 0, none⟩) l.length l.length)) (w.alloc (.cells (runCells l).toArray 88))) :
    ∀ w, Fre.Ext Blw w0 w → ∃ u w', R w = .ok (.value u) w' ∧ Fre.Ext Blw w w' ∧ RunV l u w' := fun w _ =>
  ⟨_, _, hrun w, (Below.refl _ w).alloc (Nat.le_refl _) _, w.heap.size, rfl, (runs_new w l hr).widen (by rw [size_alloc]; exact Nat.le_refl _)⟩
/-- a block of a run -/
def BlkV (cs : Array Value) (R : Nat) (u : Value) (w : World) : Prop := ∃ k, u = .pointer (some ⟨k, 0, none⟩) ∧ R ≤ k ∧ Blk w k 88 cs
theorem blkv_ok (cs : Array Value) (R : Nat) : Fre.MadeOk Blw (BlkV cs R) := ⟨fun u w w' ⟨k, h1, h2, h3⟩ hx => by
  have hb : Below w.heap.size w w' := hx
  exact ⟨k, h1, h2, h3.below hb h3.lt⟩⟩
/-- the law's ends -/
def en : Nat → Int
  | 0 => -9223372036854775808
  | 1 => -1
  | 2 => 0
  | 3 => 1
  | 4 => 5
  | 5 => 6
  | 6 => 7
  | _ => 9223372036854775807
theorem en_in (k : Nat) : -9223372036854775808 ≤ en k ∧ en k ≤ 9223372036854775807 := by
  unfold en
  split <;> decide
def enCells : Array Value := #[.int .i64 (-9223372036854775808), .int .i64 (-1), .int .i64 0, .int .i64 1, .int .i64 5, .int .i64 6, .int .i64 7, .int .i64 9223372036854775807]
theorem en_cell (k : Nat) (h : k < 8) : enCells[k]? = some (.int .i64 (en k)) := by
  match k, h with
  | 0, _ => rfl
  | 1, _ => rfl
  | 2, _ => rfl
  | 3, _ => rfl
  | 4, _ => rfl
  | 5, _ => rfl
  | 6, _ => rfl
  | 7, _ => rfl
theorem wrapI (x : Int) (h : -9223372036854775808 ≤ x ∧ x ≤ 9223372036854775807) : IntKind.i64.wrap x = x := by
  simp [IntKind.wrap, IntKind.signed, IntKind.bits]
  omega
/-- rows of runs, of bytes, of puts, in blocks of their own -/
theorem runs_blk {w : World} {B b : Nat} (l : List Run) (hr : ∀ r ∈ l, r64 r) (h : Blk w b 88 (runCells l).toArray) (hB : b < B) : RunsM w B (.slice (some ⟨b, 0, none⟩) l.length l.length) l := by
  refine ⟨_, l.length, rfl, Nat.le_refl _, (fun h => by cases h), fun _ => ⟨b, 0, rfl, hB, fun j r hj => ?_⟩, hr⟩
  have h2 := runCells_at l j r hj
  rw [Nat.zero_add, h.cell, h.cell]
  exact ⟨by simpa using h2.1, by simpa using h2.2⟩
theorem bytes_blk {w : World} {B b : Nat} (l : List UInt8) (h : Blk w b 5 (bv l).toArray) (hB : b < B) : BytesAt w B (.slice (some ⟨b, 0, none⟩) l.length l.length) l := by
  refine ⟨_, l.length, rfl, Nat.le_refl _, fun _ => ⟨b, 0, rfl, hB, fun j hj => ?_⟩⟩
  rw [Nat.zero_add, h.cell]
  exact bv_get l j hj
def putC (x : Value × Value × Put) : List Value := [x.1, x.2.1, .int .i64 x.2.2.many, .int .i64 x.2.2.n]
theorem putC_at : ∀ (xs : List (Value × Value × Put)) (j : Nat) (x : Value × Value × Put), xs[j]? = some x → ∀ i, i < 4 → (xs.flatMap putC)[j * 4 + i]? = (putC x)[i]?
  | [], j, x, h => by simp at h
  | y :: l, 0, x, h => by
    simp only [List.getElem?_cons_zero, Option.some.injEq] at h
    subst h
    intro i hi
    rw [List.flatMap_cons, List.getElem?_append_left (by show _ < 4; omega), Nat.zero_mul, Nat.zero_add]
  | y :: l, j + 1, x, h => by
    intro i hi
    rw [List.flatMap_cons, List.getElem?_append_right (by show 4 ≤ _; omega)]
    have e : (j + 1) * 4 + i - (putC y).length = j * 4 + i := by show _ - 4 = _; omega
    rw [e]
    exact putC_at l j x (by simpa using h) i hi
theorem puts_blk {w : World} {B p : Nat} (xs : List (Value × Value × Put)) (h : Blk w p 91 (xs.flatMap putC).toArray) (hB : p < B)
    (hx : ∀ x ∈ xs, (∃ A c, x.1 = .slice A x.2.2.b.length c ∧ BytesAt w B x.1 x.2.2.b ∧ (A = none → c = 0)) ∧ (∃ A c, x.2.1 = .slice A x.2.2.rs.length c ∧ RunsM w B x.2.1 x.2.2.rs) ∧ (-9223372036854775808 ≤ x.2.2.many ∧ x.2.2.many ≤ 9223372036854775807) ∧ (-9223372036854775808 ≤ x.2.2.n ∧ x.2.2.n ≤ 9223372036854775807)) :
    PutsM w B (.slice (some ⟨p, 0, none⟩) xs.length xs.length) (xs.map (·.2.2)) := by
  refine ⟨some ⟨p, 0, none⟩, xs.length, by simp, by simp, fun _ => ⟨p, 0, rfl, hB, fun j q hj => ?_⟩⟩
  rw [List.getElem?_map] at hj
  obtain ⟨x, hj2, rfl⟩ := Option.map_eq_some_iff.1 hj
  obtain ⟨⟨A, c, e1, k1, k2⟩, ⟨A', c', e2, k3⟩, k4, k5⟩ := hx x (List.mem_of_getElem? hj2)
  have hc : ∀ i, i < 4 → w.cell? ⟨p, 0 + j * 4 + i, none⟩ = (putC x)[i]? := fun i hi => by
    rw [Nat.zero_add, h.cell]
    have := putC_at xs j x hj2 i hi
    rw [← this]
    simp
  refine ⟨⟨A, c, ?_, by rw [← e1]; exact k1, k2⟩, ⟨A', c', ?_, by rw [← e2]; exact k3⟩, hc 2 (by omega), hc 3 (by omega), k4, k5⟩
  · have := hc 0 (by omega)
    rw [← e1]
    exact this
  · have := hc 1 (by omega)
    rw [← e2]
    exact this
theorem al_lt {w : World} {b : Nat} (h : b < w.heap.size) (o : Obj) : b < (w.alloc o).heap.size := by rw [size_alloc]; omega
/-- the five puts -/
def putsOf (l : List UInt8) (k : Nat) : List Put := [⟨l, [(5, 1), (1, 2)], k, 0⟩, ⟨l, [((k : Int) % 5, 2)], (k : Int) - 1, (k : Int) % 6⟩, ⟨l, [], (k : Int) % 2, 0⟩, ⟨l, [(0, 4)], 200, 0⟩, ⟨l, [(0, 1), (0, 1)], -1, 0⟩]
theorem puts_law {wr w3 : World} {R k : Nat} (hw : w3 = ((((wr.alloc (.cells #[.int .i64 5, .int .i64 1, .int .i64 1, .int .i64 2] 88)).alloc (.cells #[.int .i64 ((k : Int) % 5), .int .i64 2] 88)).alloc (.cells #[.int .i64 0, .int .i64 4] 88)).alloc (.cells #[.int .i64 0, .int .i64 1, .int .i64 0, .int .i64 1] 88)).alloc (.cells #[.slice (some ⟨R, 0, none⟩) k k, .slice (some ⟨wr.heap.size, 0, none⟩) 2 2, .int .i64 (k : Int), .int .i64 0, .slice (some ⟨R, 0, none⟩) k k, .slice (some ⟨wr.heap.size + 1, 0, none⟩) 1 1, .int .i64 ((k : Int) - 1), .int .i64 ((k : Int) % 6), .slice (some ⟨R, 0, none⟩) k k, .slice none 0 0, .int .i64 ((k : Int) % 2), .int .i64 0, .slice (some ⟨R, 0, none⟩) k k, .slice (some ⟨wr.heap.size + 1 + 1, 0, none⟩) 1 1, .int .i64 200, .int .i64 0, .slice (some ⟨R, 0, none⟩) k k, .slice (some ⟨wr.heap.size + 1 + 1 + 1, 0, none⟩) 2 2, .int .i64 (-1), .int .i64 0] 91))
    (l : List UInt8) (hl : l.length = k) (h : Blk wr R 5 (bv l).toArray) (hk : k < 1000 := by omega) :
    PutsM w3 w3.heap.size (.slice (some ⟨wr.heap.size + 1 + 1 + 1 + 1, 0, none⟩) 5 5) (putsOf l k) ∧ ∀ p ∈ putsOf l k, p.b.length ≤ 140737488355328 ∧ p.rs.length ≤ 140737488355328 := by
  have hR := h.lt
  obtain ⟨s, hs⟩ : ∃ s, s = wr.heap.size := ⟨_, rfl⟩
  have hsz : w3.heap.size = s + 5 := by rw [hw]; simp only [size_alloc, ← hs]
  have h0 : Blk w3 R 5 (bv l).toArray := by rw [hw]; exact ((((h.alloc _).alloc _).alloc _).alloc _).alloc _
  have h1 : Blk w3 s 88 (runCells [(5, 1), (1, 2)]).toArray := by rw [hw, hs]; exact ((((Blk.new wr _ _).alloc _).alloc _).alloc _).alloc _
  have h2 : Blk w3 (s + 1) 88 (runCells [((k : Int) % 5, 2)]).toArray := by
    rw [hw, hs]
    exact ((((Blk.new1 wr _ _ _).alloc _).alloc _).alloc _)
  have h3 : Blk w3 (s + 1 + 1) 88 (runCells [(0, 4)]).toArray := by
    rw [hw, hs]
    have := Blk.new1 (wr.alloc (.cells #[.int .i64 5, .int .i64 1, .int .i64 1, .int .i64 2] 88)) (.cells #[.int .i64 ((k : Int) % 5), .int .i64 2] 88) 88 #[.int .i64 0, .int .i64 4]
    rw [size_alloc] at this
    exact ((this.alloc _).alloc _)
  have h4 : Blk w3 (s + 1 + 1 + 1) 88 (runCells [(0, 1), (0, 1)]).toArray := by
    rw [hw, hs]
    have := Blk.new1 ((wr.alloc (.cells #[.int .i64 5, .int .i64 1, .int .i64 1, .int .i64 2] 88)).alloc (.cells #[.int .i64 ((k : Int) % 5), .int .i64 2] 88)) (.cells #[.int .i64 0, .int .i64 4] 88) 88 #[.int .i64 0, .int .i64 1, .int .i64 0, .int .i64 1]
    rw [size_alloc, size_alloc] at this
    exact this.alloc _
  rw [← hs] at hR hw ⊢
  have hb := bytes_blk (B := w3.heap.size) l h0 (by omega)
  have r1 := runs_blk (B := w3.heap.size) [(5, 1), (1, 2)] (by intro r hr; simp only [List.mem_cons, List.not_mem_nil, or_false] at hr; rcases hr with rfl | rfl <;> (unfold r64; dsimp only; omega)) h1 (by omega)
  have r2 := runs_blk (B := w3.heap.size) [((k : Int) % 5, 2)] (by intro r hr; simp only [List.mem_singleton] at hr; subst hr; unfold r64; dsimp only; omega) h2 (by omega)
  have r3 := runs_blk (B := w3.heap.size) [(0, 4)] (by intro r hr; simp only [List.mem_singleton] at hr; subst hr; unfold r64; dsimp only; omega) h3 (by omega)
  have r4 := runs_blk (B := w3.heap.size) [(0, 1), (0, 1)] (by intro r hr; simp only [List.mem_cons, List.not_mem_nil, or_false] at hr; rcases hr with rfl | rfl <;> (unfold r64; dsimp only; omega)) h4 (by omega)
  rw [hl] at hb
  have h5 := puts_blk (w := w3) (B := w3.heap.size) (p := s + 1 + 1 + 1 + 1) [(.slice (some ⟨R, 0, none⟩) k k, .slice (some ⟨s, 0, none⟩) 2 2, ⟨l, [(5, 1), (1, 2)], k, 0⟩), (.slice (some ⟨R, 0, none⟩) k k, .slice (some ⟨s + 1, 0, none⟩) 1 1, ⟨l, [((k : Int) % 5, 2)], (k : Int) - 1, (k : Int) % 6⟩), (.slice (some ⟨R, 0, none⟩) k k, .slice none 0 0, ⟨l, [], (k : Int) % 2, 0⟩), (.slice (some ⟨R, 0, none⟩) k k, .slice (some ⟨s + 1 + 1, 0, none⟩) 1 1, ⟨l, [(0, 4)], 200, 0⟩), (.slice (some ⟨R, 0, none⟩) k k, .slice (some ⟨s + 1 + 1 + 1, 0, none⟩) 2 2, ⟨l, [(0, 1), (0, 1)], -1, 0⟩)]
    (by
      have := Blk.new1 (((wr.alloc (.cells #[.int .i64 5, .int .i64 1, .int .i64 1, .int .i64 2] 88)).alloc (.cells #[.int .i64 ((k : Int) % 5), .int .i64 2] 88)).alloc (.cells #[.int .i64 0, .int .i64 4] 88)) (.cells #[.int .i64 0, .int .i64 1, .int .i64 0, .int .i64 1] 88) 91 #[.slice (some ⟨R, 0, none⟩) k k, .slice (some ⟨s, 0, none⟩) 2 2, .int .i64 (k : Int), .int .i64 0, .slice (some ⟨R, 0, none⟩) k k, .slice (some ⟨s + 1, 0, none⟩) 1 1, .int .i64 ((k : Int) - 1), .int .i64 ((k : Int) % 6), .slice (some ⟨R, 0, none⟩) k k, .slice none 0 0, .int .i64 ((k : Int) % 2), .int .i64 0, .slice (some ⟨R, 0, none⟩) k k, .slice (some ⟨s + 1 + 1, 0, none⟩) 1 1, .int .i64 200, .int .i64 0, .slice (some ⟨R, 0, none⟩) k k, .slice (some ⟨s + 1 + 1 + 1, 0, none⟩) 2 2, .int .i64 (-1), .int .i64 0]
      rw [size_alloc, size_alloc, size_alloc, ← hs] at this
      rw [hw]
      exact this) (by omega)
    (by
      intro x hx
      simp only [List.mem_cons, List.not_mem_nil, or_false] at hx
      rcases hx with rfl | rfl | rfl | rfl | rfl
      · exact ⟨⟨_, k, by rw [hl], hb, fun h => by cases h⟩, ⟨_, _, rfl, r1⟩, by dsimp only; omega, by dsimp only; omega⟩
      · exact ⟨⟨_, k, by rw [hl], hb, fun h => by cases h⟩, ⟨_, _, rfl, r2⟩, by dsimp only; omega, by dsimp only; omega⟩
      · exact ⟨⟨_, k, by rw [hl], hb, fun h => by cases h⟩, ⟨_, _, rfl, runs_nil _ _⟩, by dsimp only; omega, by dsimp only; omega⟩
      · exact ⟨⟨_, k, by rw [hl], hb, fun h => by cases h⟩, ⟨_, _, rfl, r3⟩, by dsimp only; omega, by dsimp only; omega⟩
      · exact ⟨⟨_, k, by rw [hl], hb, fun h => by cases h⟩, ⟨_, _, rfl, r4⟩, by dsimp only; omega, by dsimp only; omega⟩)
  refine ⟨h5, fun p hp => ?_⟩
  simp only [putsOf, List.mem_cons, List.not_mem_nil, or_false] at hp
  rcases hp with rfl | rfl | rfl | rfl | rfl <;> (dsimp only; simp; omega)
theorem puts_one {w5 w6 : World} (hw : w6 = w5.alloc (.cells #[.slice none 0 0, .slice none 0 0, .int .i64 0, .int .i64 0] 91)) : PutsM w6 w6.heap.size (.slice (some ⟨w5.heap.size, 0, none⟩) 1 1) [⟨[], [], 0, 0⟩] := by
  have hsz : w6.heap.size = w5.heap.size + 1 := by rw [hw, size_alloc]
  exact puts_blk (w := w6) (B := w6.heap.size) (p := w5.heap.size) [(.slice none 0 0, .slice none 0 0, ⟨[], [], 0, 0⟩)] (by rw [hw]; exact Blk.new _ _ _) (by omega) (by
    intro x hx
    simp only [List.mem_singleton] at hx
    subst hx
    exact ⟨⟨none, 0, rfl, ⟨none, 0, rfl, Nat.le_refl _, fun h => absurd h (by simp)⟩, fun _ => rfl⟩, ⟨none, 0, rfl, runs_nil _ _⟩, by dsimp only; omega, by dsimp only; omega⟩)
end Go.Proofs.Ytfppddnfdinipaa
end
