/- Readers: what Go's data in memory read as; each type's reader is made of its parts' readers. -/
import Derived.Test.YtidiepbmbbflhaaRow
import Derived.Deep.MidRow
namespace Go.Proofs.Ytidiepbmbbflhaa
open Go Go.RowKit Go.WideShapes Go.ChangeShapes
theorem rangeAt_alike {B : Nat} {w w' : World} {b o : Nat} {cs : List Value} (h : w.rangeAt b o cs) (ha : Alike B w w') (hb : b < B) : w'.rangeAt b o cs :=
  fun j v hv => (ha.cell (p := ⟨b, o + j, none⟩) hb).trans (h j v hv)
theorem rangeAt_app {w : World} {b o : Nat} {c1 c2 : List Value} (h1 : w.rangeAt b o c1) (h2 : w.rangeAt b (o + c1.length) c2) : w.rangeAt b o (c1 ++ c2) := by
  intro j v hv
  rw [List.getElem?_append] at hv
  split at hv
  · exact h1 j v hv
  · have := h2 (j - c1.length) v hv
    rwa [show o + c1.length + (j - c1.length) = o + j by omega] at this
theorem rangeAt_left {w : World} {b o : Nat} {c1 c2 : List Value} (h : w.rangeAt b o (c1 ++ c2)) : w.rangeAt b o c1 := by
  intro j v hv
  have hj := (List.getElem?_eq_some_iff.1 hv).1
  exact h j v (by rw [List.getElem?_append_left hj]; exact hv)
theorem rangeAt_right {w : World} {b o : Nat} {c1 c2 : List Value} (h : w.rangeAt b o (c1 ++ c2)) : w.rangeAt b (o + c1.length) c2 := by
  intro j v hv
  have := h (c1.length + j) v (by rw [List.getElem?_append_right (by omega)]; simpa using hv)
  rwa [← Nat.add_assoc] at this
theorem rangeAt_blk {w : World} {g : Nat} {t : TypeId} {cs : Array Value} (h : Blk w g t cs) : w.rangeAt g 0 cs.toList := by
  intro j v hv
  rw [Nat.zero_add, h.cell]
  simpa using hv
/-- a reader: of a type t that takes n cells -/
structure Lay (α : Type) where
  t : TypeId
  n : Nat
  At : World → Nat → List Value → α → Prop
  len : ∀ {w B cs x}, At w B cs x → cs.length = n
  one : ∀ {w B cs x}, At w B cs x → ∀ v ∈ cs, v.oneCell' = true
  alike : ∀ {w w' B cs x}, At w B cs x → Alike B w w' → At w' B cs x
  widen : ∀ {w B B' cs x}, At w B cs x → B ≤ B' → At w B' cs x
/-- a struct's fields, one behind the other -/
structure Flds (α : Type) where
  shape : Nat → List (TypeId × Nat)
  n : Nat
  At : World → Nat → List Value → α → Prop
  len : ∀ {w B cs x}, At w B cs x → cs.length = n
  one : ∀ {w B cs x}, At w B cs x → ∀ v ∈ cs, v.oneCell' = true
  alike : ∀ {w w' B cs x}, At w B cs x → Alike B w w' → At w' B cs x
  widen : ∀ {w B B' cs x}, At w B cs x → B ≤ B' → At w B' cs x
/-- all data of the type are read -/
structure Lay.Opens {α : Type} (L : Lay α) (P : Program) : Prop where
  cells : P.cellsOf L.t = L.n
  op : ∀ {H : Type} {enc : TypeId × Value → H} {w : World} {sp : Nat → Bool} {hd : Bool} {fuel : Nat} {cs : List Value} {y : DataW H × List MemPlace}, DataW.trod enc P w 0 sp hd fuel L.t cs = some y → ∃ x, L.At w w.heap.size cs x
structure Flds.Opens {α : Type} (F : Flds α) (P : Program) : Prop where
  op : ∀ {H : Type} {enc : TypeId × Value → H} {w : World} {sp : Nat → Bool} {hd : Bool} {fuel : Nat} {cs : List Value} {off : Nat}, cs.length = off + F.n →
    (∀ p ∈ F.shape off, ∃ y, DataW.trod enc P w 0 sp hd fuel p.1 ((cs.drop p.2).take (P.cellsOf p.1)) = some y) → ∃ x, F.At w w.heap.size (cs.drop off) x

/-! whole numbers, truth values, strings, arrays of bytes -/
def Lay.int (t : TypeId) (k : IntKind) : Lay Int where
  t := t
  n := 1
  At := fun _ _ cs x => cs = [.int k x] ∧ (Lit.int k x).wf = true
  len := fun h => by rw [h.1]; rfl
  one := fun h v hv => by rw [h.1] at hv; simp only [List.mem_singleton] at hv; subst hv; rfl
  alike := fun h _ => h
  widen := fun h _ => h
theorem opens_int {P : Program} {t : TypeId} {k : IntKind} (ht : P.underlying t = some (.int k)) (hc : P.cellsOf t = 1) : (Lay.int t k).Opens P where
  cells := hc
  op := fun h => by
    obtain ⟨z, rfl, _, hw⟩ := DataW.trod_int ht h
    exact ⟨z, rfl, hw⟩
def Lay.bool (t : TypeId) : Lay Bool where
  t := t
  n := 1
  At := fun _ _ cs x => cs = [.bool x]
  len := fun h => by rw [h]; rfl
  one := fun h v hv => by rw [h] at hv; simp only [List.mem_singleton] at hv; subst hv; rfl
  alike := fun h _ => h
  widen := fun h _ => h
theorem opens_bool {P : Program} {t : TypeId} (ht : P.underlying t = some .bool) (hc : P.cellsOf t = 1) : (Lay.bool t).Opens P where
  cells := hc
  op := fun h => by
    obtain ⟨z, rfl, _⟩ := DataW.trod_bool ht h
    exact ⟨z, rfl⟩
def Lay.str (t : TypeId) : Lay ByteArray where
  t := t
  n := 1
  At := fun _ _ cs x => cs = [.string x] ∧ x.size ≤ maxLen
  len := fun h => by rw [h.1]; rfl
  one := fun h v hv => by rw [h.1] at hv; simp only [List.mem_singleton] at hv; subst hv; rfl
  alike := fun h _ => h
  widen := fun h _ => h
theorem opens_str {P : Program} {t : TypeId} (ht : P.underlying t = some .string) (hc : P.cellsOf t = 1) : (Lay.str t).Opens P where
  cells := hc
  op := fun h => by
    obtain ⟨z, rfl, _, hw⟩ := DataW.trod_string ht h
    exact ⟨z, rfl, hw⟩
/-- an array of k bytes -/
def Lay.u8s (t : TypeId) (k : Nat) : Lay (List UInt8) where
  t := t
  n := k
  At := fun _ _ cs x => cs = bv x ∧ x.length = k
  len := fun h => by rw [h.1, bvL, h.2]
  one := fun h => by rw [h.1]; exact bv1 _
  alike := fun h _ => h
  widen := fun h _ => h
theorem opens_u8s {P : Program} {t e : TypeId} {k : Nat} (ht : P.underlying t = some (.array k e)) (he : P.underlying e = some (.int .u8)) (hc : P.cellsOf t = k) (h1 : P.cellsOf e = 1) : (Lay.u8s t k).Opens P where
  cells := hc
  op := fun {H enc w sp hd fuel cs y} h => by
    obtain ⟨xs, m, _, _, hl, hxl, hel⟩ := DataW.trod_array ht h
    rw [hc] at hl
    have hz : ∀ i, i < k → ∃ z : UInt8, cs[i]? = some (.int .u8 (z.toNat : Int)) := by
      intro i hi
      have h2 := hel i hi
      rw [h1, Nat.mul_one, List.getElem?_eq_getElem (by omega)] at h2
      obtain ⟨z, e1, _, hw⟩ := DataW.trod_int he h2
      have hb := bounds_u8 hw
      refine ⟨UInt8.ofNat z.toNat, ?_⟩
      have e2 : (cs.drop i)[0]? = some (.int .u8 z) := by
        have := congrArg (fun l => l[0]?) e1
        simpa using this
      rw [UInt8.toNat_ofNat']
      rw [List.getElem?_drop, Nat.add_zero] at e2
      rw [e2]
      congr 2
      omega
    obtain ⟨f, hf⟩ : ∃ f : Nat → UInt8, ∀ i, i < k → cs[i]? = some (.int .u8 ((f i).toNat : Int)) :=
      ⟨fun i => if h : i < k then Classical.choose (hz i h) else 0, fun i h => by simp only [dif_pos h]; exact Classical.choose_spec (hz i h)⟩
    refine ⟨(List.range k).map f, ?_, by simp⟩
    apply List.ext_getElem?
    intro i
    by_cases hi : i < k
    · rw [hf i hi]
      simp [bv, hi]
    · rw [List.getElem?_eq_none (by omega), List.getElem?_eq_none (by rw [bvL]; simp; omega)]

/-! structs -/
def Flds.nil : Flds Unit where
  shape := fun _ => []
  n := 0
  At := fun _ _ cs _ => cs = []
  len := fun h => by rw [h]; rfl
  one := fun h v hv => by rw [h] at hv; cases hv
  alike := fun h _ => h
  widen := fun h _ => h
theorem opens_nil {P : Program} : Flds.nil.Opens P where
  op := fun {H enc w sp hd fuel cs off} h _ => ⟨(), by
    have h : cs.length = off + 0 := h
    show cs.drop off = []
    rw [List.drop_eq_nil_iff]
    omega⟩
def Flds.cons {α β : Type} (L : Lay α) (F : Flds β) : Flds (α × β) where
  shape := fun off => (L.t, off) :: F.shape (off + L.n)
  n := L.n + F.n
  At := fun w B cs x => ∃ c1 c2, cs = c1 ++ c2 ∧ L.At w B c1 x.1 ∧ F.At w B c2 x.2
  len := fun ⟨c1, c2, e, h1, h2⟩ => by rw [e, List.length_append, L.len h1, F.len h2]
  one := fun ⟨c1, c2, e, h1, h2⟩ v hv => by
    rw [e, List.mem_append] at hv
    exact hv.elim (L.one h1 v) (F.one h2 v)
  alike := fun ⟨c1, c2, e, h1, h2⟩ ha => ⟨c1, c2, e, L.alike h1 ha, F.alike h2 ha⟩
  widen := fun ⟨c1, c2, e, h1, h2⟩ hb => ⟨c1, c2, e, L.widen h1 hb, F.widen h2 hb⟩
theorem opens_cons {P : Program} {α β : Type} {L : Lay α} {F : Flds β} (hL : L.Opens P) (hF : F.Opens P) : (Flds.cons L F).Opens P where
  op := fun {H enc w sp hd fuel cs off} hl h => by
    have hl : cs.length = off + (L.n + F.n) := hl
    obtain ⟨y, hy⟩ := h (L.t, off) (List.mem_cons_self ..)
    obtain ⟨x1, h1⟩ := hL.op hy
    obtain ⟨x2, h2⟩ := hF.op (off := off + L.n) (cs := cs) (by omega) (fun p hp => h p (List.mem_cons_of_mem _ hp))
    refine ⟨(x1, x2), _, _, ?_, h1, h2⟩
    rw [hL.cells, ← List.drop_drop, List.take_append_drop]
/-- a struct, read by its fields -/
def Lay.struct {γ β : Type} (t : TypeId) (F : Flds β) (f : γ → β) : Lay γ where
  t := t
  n := F.n
  At := fun w B cs x => F.At w B cs (f x)
  len := fun h => F.len h
  one := fun h => F.one h
  alike := fun h => F.alike h
  widen := fun h => F.widen h
theorem opens_struct {P : Program} {γ β : Type} {t : TypeId} {F : Flds β} {f : γ → β} {fs : Array Field} (mk : β → γ) (hmk : ∀ b, f (mk b) = b) (hF : F.Opens P) (ht : P.underlying t = some (.struct fs)) (hc : P.cellsOf t = F.n)
    (hs : fs.toList.map (fun g => (g.type, g.offset)) = F.shape 0) : (Lay.struct t F f).Opens P where
  cells := hc
  op := fun {H enc w sp hd fuel cs y} h => by
    obtain ⟨xs, n, _, _, hl, hxl, hel⟩ := DataW.trod_struct ht h
    obtain ⟨b, hb⟩ := hF.op (H := H) (enc := enc) (w := w) (sp := sp) (hd := hd) (fuel := n) (cs := cs) (off := 0) (by omega) (fun p hp => by
      rw [← hs] at hp
      obtain ⟨g, hg, rfl⟩ := List.mem_map.1 hp
      obtain ⟨i, hi, rfl⟩ := List.getElem_of_mem hg
      have hi2 : fs[i]? = some fs.toList[i] := by simp at hi; simp [hi]
      have h2 := hel i _ hi2
      rw [List.getElem?_eq_getElem (by simpa [hxl] using hi)] at h2
      exact ⟨_, h2⟩)
    refine ⟨mk b, ?_⟩
    show F.At w w.heap.size cs (f (mk b))
    rw [hmk]
    simpa using hb

/-! slices -/
/-- elements that lie one behind the other -/
def ElemsAt {α : Type} (L : Lay α) (w : World) (B b off : Nat) (l : List α) : Prop := ∀ j x, l[j]? = some x → ∃ cs, w.rangeAt b (off + j * L.n) cs ∧ L.At w B cs x
def Lay.slice {α : Type} (t : TypeId) (L : Lay α) : Lay (List α) where
  t := t
  n := 1
  At := fun w B cs l => ∃ A cap, cs = [.slice A l.length cap] ∧ l.length ≤ cap ∧ cap ≤ maxLen ∧ (A = none → cap = 0) ∧ (0 < l.length → ∃ b off, A = some ⟨b, off, none⟩ ∧ b < B ∧ ElemsAt L w B b off l)
  len := fun ⟨A, cap, e, _⟩ => by rw [e]; rfl
  one := fun ⟨A, cap, e, _⟩ v hv => by rw [e] at hv; simp only [List.mem_singleton] at hv; subst hv; rfl
  alike := fun ⟨A, cap, e, h1, h2, h3, h4⟩ ha => ⟨A, cap, e, h1, h2, h3, fun h0 => by
    obtain ⟨b, off, k1, k2, k3⟩ := h4 h0
    exact ⟨b, off, k1, k2, fun j x hj => by
      obtain ⟨cs, q1, q2⟩ := k3 j x hj
      exact ⟨cs, rangeAt_alike q1 ha k2, L.alike q2 ha⟩⟩⟩
  widen := fun ⟨A, cap, e, h1, h2, h3, h4⟩ hB => ⟨A, cap, e, h1, h2, h3, fun h0 => by
    obtain ⟨b, off, k1, k2, k3⟩ := h4 h0
    exact ⟨b, off, k1, by omega, fun j x hj => by
      obtain ⟨cs, q1, q2⟩ := k3 j x hj
      exact ⟨cs, q1, L.widen q2 hB⟩⟩⟩
theorem opens_slice {P : Program} {α : Type} {t : TypeId} {L : Lay α} (hL : L.Opens P) (hn : 0 < L.n) (ht : P.underlying t = some (.slice L.t)) (hc : P.cellsOf t = 1) : (Lay.slice t L).Opens P where
  cells := hc
  op := fun {H enc w sp hd fuel cs y} h => by
    rcases Go.Deep.open_slice ht h with ⟨rfl, _⟩ | ⟨a, len, cap, m, n, D, Pl, rfl, _, hl, hm, hmm, _, hi⟩
    · exact ⟨[], none, 0, rfl, Nat.le_refl _, Nat.zero_le _, fun _ => rfl, fun h => absurd h (by simp)⟩
    · rw [hL.cells] at hi
      have hml : len ≤ m := by rw [hmm]; split <;> omega
      have hel : ∀ i, i < len → ∃ (x : α) (cs : List Value), cs.length = L.n ∧ (∀ k, k < L.n → w.cell? ((a.add (i * L.n)).add k) = cs[k]?) ∧ L.At w w.heap.size cs x := by
        intro i hil
        obtain ⟨cs', hc', htr⟩ := hi i (by omega)
        obtain ⟨_, hcl, hat⟩ := World.cells?_some hc'
        obtain ⟨x, hx⟩ := hL.op htr
        exact ⟨x, cs', hcl, hat, hx⟩
      rcases Nat.eq_zero_or_pos len with rfl | hpos
      · exact ⟨[], some a, cap, rfl, Nat.zero_le _, hm, (fun h => by cases h), fun h => absurd h (by simp)⟩
      obtain ⟨x0, _⟩ := hel 0 hpos
      obtain ⟨f, hf⟩ : ∃ f : Nat → α, ∀ i, i < len → ∃ cs : List Value, cs.length = L.n ∧ (∀ k, k < L.n → w.cell? ((a.add (i * L.n)).add k) = cs[k]?) ∧ L.At w w.heap.size cs (f i) :=
        ⟨fun i => if h : i < len then Classical.choose (hel i h) else x0, fun i h => by simp only [dif_pos h]; exact Classical.choose_spec (hel i h)⟩
      clear hel
      have hll : ((List.range len).map f).length = len := by simp
      refine ⟨(List.range len).map f, some a, cap, by rw [hll], by omega, hm, (fun h => by cases h), fun _ => ?_⟩
      obtain ⟨c0, q0, q1, _⟩ := hf 0 hpos
      have hcell := q1 0 hn
      rw [List.getElem?_eq_getElem (by omega)] at hcell
      obtain ⟨b, off, sp'⟩ := a
      cases sp' with
      | some q =>
        have h2 : w.cell? ⟨b, off, some q⟩ = some c0[0] := by simpa [Addr.add] using hcell
        rw [cell_spot] at h2
        cases h2
      | none =>
        have h2 : w.cell? ⟨b, off, none⟩ = some c0[0] := by simpa [Addr.add] using hcell
        refine ⟨b, off, rfl, World.block_lt_of_cell? w _ h2, fun j x hj => ?_⟩
        obtain ⟨hj1, hj2⟩ := List.getElem?_eq_some_iff.1 hj
        rw [hll] at hj1
        have hj3 : f j = x := by simpa using hj2
        obtain ⟨cs, k1, k2, k3⟩ := hf j hj1
        rw [hj3] at k3
        refine ⟨cs, fun k v hk => ?_, k3⟩
        have hkn : k < L.n := by
          have := (List.getElem?_eq_some_iff.1 hk).1
          omega
        have := k2 k hkn
        rw [add_plain, add_plain, hk] at this
        exact this
end Go.Proofs.Ytidiepbmbbflhaa
