/- Readers: what Go's data in memory read as; each type's reader is made of its parts' readers. spencelaw07: BlobKeeps: rows that grow, arguments, a relation of worlds. The walk of spencekit.Pick: the remainder, from nought on. spencelaw07: BlobKeeps: the walk. Rows: a slice of deeds that came in. spencelaw07.BlobKeeps is true of every input, and leaves all as it was. No condition. -/
import Derived.Test.YtfppddnfdinipaaMBK6
import Derived.Deep.MidRow
import Derived.Test.YtfppddnfdinipaaMBK5
import Derived.Test.YtfppddnfdinipaaMBK1
import Derived.Test.YtfppddnfdinipaaMBK3
import Derived.Lib.SmallJoins
section
namespace Go.Proofs.Ytfppddnfdinipaa
open Go Go.RowKit Go.WideShapes Go.ChangeShapes
theorem rangeAt_alike {B : Nat} {w w' : World} {b o : Nat} {cs : List Value} (h : w.rangeAt b o cs) (ha : Alike B w w') (hb : b < B) : w'.rangeAt b o cs :=
  fun j v hv => (ha.cell (p := ⟨b, o + j, none⟩) hb).trans (h j v hv)
theorem rangeAt_app {w : World} {b o : Nat} {c1 c2 : List Value} (h1 : w.rangeAt b o c1) (h2 : w.rangeAt b (o + c1.length) c2) : w.rangeAt b o (c1 ++ c2) := by
  intro j v hv
  rw [List.getElem?_append] at hv
  split at hv
  · exact h1 j v hv
  · have := h2 (j - c1.length) v hv
    rwa [show o + c1.length + (j - c1.length) = o + j by omega] at this
theorem rangeAt_left {w : World} {b o : Nat} {c1 c2 : List Value} (h : w.rangeAt b o (c1 ++ c2)) : w.rangeAt b o c1 := by
  intro j v hv
  have hj := (List.getElem?_eq_some_iff.1 hv).1
  exact h j v (by rw [List.getElem?_append_left hj]; exact hv)
theorem rangeAt_right {w : World} {b o : Nat} {c1 c2 : List Value} (h : w.rangeAt b o (c1 ++ c2)) : w.rangeAt b (o + c1.length) c2 := by
  intro j v hv
  have := h (c1.length + j) v (by rw [List.getElem?_append_right (by omega)]; simpa using hv)
  rwa [← Nat.add_assoc] at this
theorem rangeAt_blk {w : World} {g : Nat} {t : TypeId} {cs : Array Value} (h : Blk w g t cs) : w.rangeAt g 0 cs.toList := by
  intro j v hv
  rw [Nat.zero_add, h.cell]
  simpa using hv
/-- a reader: of a type t that takes n cells -/
structure Lay (α : Type) where
  t : TypeId
  n : Nat
  At : World → Nat → List Value → α → Prop
  len : ∀ {w B cs x}, At w B cs x → cs.length = n
  one : ∀ {w B cs x}, At w B cs x → ∀ v ∈ cs, v.oneCell' = true
  alike : ∀ {w w' B cs x}, At w B cs x → Alike B w w' → At w' B cs x
  widen : ∀ {w B B' cs x}, At w B cs x → B ≤ B' → At w B' cs x
/-- a struct's fields, one behind the other -/
structure Flds (α : Type) where
  shape : Nat → List (TypeId × Nat)
  n : Nat
  At : World → Nat → List Value → α → Prop
  len : ∀ {w B cs x}, At w B cs x → cs.length = n
  one : ∀ {w B cs x}, At w B cs x → ∀ v ∈ cs, v.oneCell' = true
  alike : ∀ {w w' B cs x}, At w B cs x → Alike B w w' → At w' B cs x
  widen : ∀ {w B B' cs x}, At w B cs x → B ≤ B' → At w B' cs x
/-- all data of the type are read -/
structure Lay.Opens {α : Type} (L : Lay α) (P : Program) : Prop where
  cells : P.cellsOf L.t = L.n
  op : ∀ {H : Type} {enc : TypeId × Value → H} {w : World} {sp : Nat → Bool} {hd : Bool} {fuel : Nat} {cs : List Value} {y : DataW H × List MemPlace}, DataW.trod enc P w 0 sp hd fuel L.t cs = some y → ∃ x, L.At w w.heap.size cs x
structure Flds.Opens {α : Type} (F : Flds α) (P : Program) : Prop where
  op : ∀ {H : Type} {enc : TypeId × Value → H} {w : World} {sp : Nat → Bool} {hd : Bool} {fuel : Nat} {cs : List Value} {off : Nat}, cs.length = off + F.n →
    (∀ p ∈ F.shape off, ∃ y, DataW.trod enc P w 0 sp hd fuel p.1 ((cs.drop p.2).take (P.cellsOf p.1)) = some y) → ∃ x, F.At w w.heap.size (cs.drop off) x

/-! whole numbers, truth values, strings, arrays of bytes -/
def Lay.int (t : TypeId) (k : IntKind) : Lay Int where
  t := t
  n := 1
  At := fun _ _ cs x => cs = [.int k x] ∧ (Lit.int k x).wf = true
  len := fun h => by rw [h.1]; rfl
  one := fun h v hv => by rw [h.1] at hv; simp only [List.mem_singleton] at hv; subst hv; rfl
  alike := fun h _ => h
  widen := fun h _ => h
theorem opens_int {P : Program} {t : TypeId} {k : IntKind} (ht : P.underlying t = some (.int k)) (hc : P.cellsOf t = 1) : (Lay.int t k).Opens P where
  cells := hc
  op := fun h => by
    obtain ⟨z, rfl, _, hw⟩ := DataW.trod_int ht h
    exact ⟨z, rfl, hw⟩
def Lay.bool (t : TypeId) : Lay Bool where
  t := t
  n := 1
  At := fun _ _ cs x => cs = [.bool x]
  len := fun h => by rw [h]; rfl
  one := fun h v hv => by rw [h] at hv; simp only [List.mem_singleton] at hv; subst hv; rfl
  alike := fun h _ => h
  widen := fun h _ => h
theorem opens_bool {P : Program} {t : TypeId} (ht : P.underlying t = some .bool) (hc : P.cellsOf t = 1) : (Lay.bool t).Opens P where
  cells := hc
  op := fun h => by
    obtain ⟨z, rfl, _⟩ := DataW.trod_bool ht h
    exact ⟨z, rfl⟩
def Lay.str (t : TypeId) : Lay ByteArray where
  t := t
  n := 1
  At := fun _ _ cs x => cs = [.string x] ∧ x.size ≤ maxLen
  len := fun h => by rw [h.1]; rfl
  one := fun h v hv => by rw [h.1] at hv; simp only [List.mem_singleton] at hv; subst hv; rfl
  alike := fun h _ => h
  widen := fun h _ => h
theorem opens_str {P : Program} {t : TypeId} (ht : P.underlying t = some .string) (hc : P.cellsOf t = 1) : (Lay.str t).Opens P where
  cells := hc
  op := fun h => by
    obtain ⟨z, rfl, _, hw⟩ := DataW.trod_string ht h
    exact ⟨z, rfl, hw⟩
/-- an array of k bytes -/
def Lay.u8s (t : TypeId) (k : Nat) : Lay (List UInt8) where
  t := t
  n := k
  At := fun _ _ cs x => cs = bv x ∧ x.length = k
  len := fun h => by rw [h.1, bvL, h.2]
  one := fun h => by rw [h.1]; exact bv1 _
  alike := fun h _ => h
  widen := fun h _ => h
theorem opens_u8s {P : Program} {t e : TypeId} {k : Nat} (ht : P.underlying t = some (.array k e)) (he : P.underlying e = some (.int .u8)) (hc : P.cellsOf t = k) (h1 : P.cellsOf e = 1) : (Lay.u8s t k).Opens P where
  cells := hc
  op := fun {H enc w sp hd fuel cs y} h => by
    obtain ⟨xs, m, _, _, hl, hxl, hel⟩ := DataW.trod_array ht h
    rw [hc] at hl
    have hz : ∀ i, i < k → ∃ z : UInt8, cs[i]? = some (.int .u8 (z.toNat : Int)) := by
      intro i hi
      have h2 := hel i hi
      rw [h1, Nat.mul_one, List.getElem?_eq_getElem (by omega)] at h2
      obtain ⟨z, e1, _, hw⟩ := DataW.trod_int he h2
      have hb := bounds_u8 hw
      refine ⟨UInt8.ofNat z.toNat, ?_⟩
      have e2 : (cs.drop i)[0]? = some (.int .u8 z) := by
        have := congrArg (fun l => l[0]?) e1
        simpa using this
      rw [UInt8.toNat_ofNat']
      rw [List.getElem?_drop, Nat.add_zero] at e2
      rw [e2]
      congr 2
      omega
    obtain ⟨f, hf⟩ : ∃ f : Nat → UInt8, ∀ i, i < k → cs[i]? = some (.int .u8 ((f i).toNat : Int)) :=
      ⟨fun i => if h : i < k then Classical.choose (hz i h) else 0, fun i h => by simp only [dif_pos h]; exact Classical.choose_spec (hz i h)⟩
    refine ⟨(List.range k).map f, ?_, by simp⟩
    apply List.ext_getElem?
    intro i
    by_cases hi : i < k
    · rw [hf i hi]
      simp [bv, hi]
    · rw [List.getElem?_eq_none (by omega), List.getElem?_eq_none (by rw [bvL]; simp; omega)]

/-! structs -/
def Flds.nil : Flds Unit where
  shape := fun _ => []
  n := 0
  At := fun _ _ cs _ => cs = []
  len := fun h => by rw [h]; rfl
  one := fun h v hv => by rw [h] at hv; cases hv
  alike := fun h _ => h
  widen := fun h _ => h
theorem opens_nil {P : Program} : Flds.nil.Opens P where
  op := fun {H enc w sp hd fuel cs off} h _ => ⟨(), by
    have h : cs.length = off + 0 := h
    show cs.drop off = []
    rw [List.drop_eq_nil_iff]
    omega⟩
def Flds.cons {α β : Type} (L : Lay α) (F : Flds β) : Flds (α × β) where
  shape := fun off => (L.t, off) :: F.shape (off + L.n)
  n := L.n + F.n
  At := fun w B cs x => ∃ c1 c2, cs = c1 ++ c2 ∧ L.At w B c1 x.1 ∧ F.At w B c2 x.2
  len := fun ⟨c1, c2, e, h1, h2⟩ => by rw [e, List.length_append, L.len h1, F.len h2]
  one := fun ⟨c1, c2, e, h1, h2⟩ v hv => by
    rw [e, List.mem_append] at hv
    exact hv.elim (L.one h1 v) (F.one h2 v)
  alike := fun ⟨c1, c2, e, h1, h2⟩ ha => ⟨c1, c2, e, L.alike h1 ha, F.alike h2 ha⟩
  widen := fun ⟨c1, c2, e, h1, h2⟩ hb => ⟨c1, c2, e, L.widen h1 hb, F.widen h2 hb⟩
theorem opens_cons {P : Program} {α β : Type} {L : Lay α} {F : Flds β} (hL : L.Opens P) (hF : F.Opens P) : (Flds.cons L F).Opens P where
  op := fun {H enc w sp hd fuel cs off} hl h => by
    have hl : cs.length = off + (L.n + F.n) := hl
    obtain ⟨y, hy⟩ := h (L.t, off) (List.mem_cons_self ..)
    obtain ⟨x1, h1⟩ := hL.op hy
    obtain ⟨x2, h2⟩ := hF.op (off := off + L.n) (cs := cs) (by omega) (fun p hp => h p (List.mem_cons_of_mem _ hp))
    refine ⟨(x1, x2), _, _, ?_, h1, h2⟩
    rw [hL.cells, ← List.drop_drop, List.take_append_drop]
/-- a struct, read by its fields -/
def Lay.struct {γ β : Type} (t : TypeId) (F : Flds β) (f : γ → β) : Lay γ where
  t := t
  n := F.n
  At := fun w B cs x => F.At w B cs (f x)
  len := fun h => F.len h
  one := fun h => F.one h
  alike := fun h => F.alike h
  widen := fun h => F.widen h
theorem opens_struct {P : Program} {γ β : Type} {t : TypeId} {F : Flds β} {f : γ → β} {fs : Array Field} (mk : β → γ) (hmk : ∀ b, f (mk b) = b) (hF : F.Opens P) (ht : P.underlying t = some (.struct fs)) (hc : P.cellsOf t = F.n)
    (hs : fs.toList.map (fun g => (g.type, g.offset)) = F.shape 0) : (Lay.struct t F f).Opens P where
  cells := hc
  op := fun {H enc w sp hd fuel cs y} h => by
    obtain ⟨xs, n, _, _, hl, hxl, hel⟩ := DataW.trod_struct ht h
    obtain ⟨b, hb⟩ := hF.op (H := H) (enc := enc) (w := w) (sp := sp) (hd := hd) (fuel := n) (cs := cs) (off := 0) (by omega) (fun p hp => by
      rw [← hs] at hp
      obtain ⟨g, hg, rfl⟩ := List.mem_map.1 hp
      obtain ⟨i, hi, rfl⟩ := List.getElem_of_mem hg
      have hi2 : fs[i]? = some fs.toList[i] := by simp at hi; simp [hi]
      have h2 := hel i _ hi2
      rw [List.getElem?_eq_getElem (by simpa [hxl] using hi)] at h2
      exact ⟨_, h2⟩)
    refine ⟨mk b, ?_⟩
    show F.At w w.heap.size cs (f (mk b))
    rw [hmk]
    simpa using hb

/-! slices -/
/-- elements that lie one behind the other -/
def ElemsAt {α : Type} (L : Lay α) (w : World) (B b off : Nat) (l : List α) : Prop := ∀ j x, l[j]? = some x → ∃ cs, w.rangeAt b (off + j * L.n) cs ∧ L.At w B cs x
def Lay.slice {α : Type} (t : TypeId) (L : Lay α) : Lay (List α) where
  t := t
  n := 1
  At := fun w B cs l => ∃ A cap, cs = [.slice A l.length cap] ∧ l.length ≤ cap ∧ cap ≤ maxLen ∧ (A = none → cap = 0) ∧ (0 < l.length → ∃ b off, A = some ⟨b, off, none⟩ ∧ b < B ∧ ElemsAt L w B b off l)
  len := fun ⟨A, cap, e, _⟩ => by rw [e]; rfl
  one := fun ⟨A, cap, e, _⟩ v hv => by rw [e] at hv; simp only [List.mem_singleton] at hv; subst hv; rfl
  alike := fun ⟨A, cap, e, h1, h2, h3, h4⟩ ha => ⟨A, cap, e, h1, h2, h3, fun h0 => by
    obtain ⟨b, off, k1, k2, k3⟩ := h4 h0
    exact ⟨b, off, k1, k2, fun j x hj => by
      obtain ⟨cs, q1, q2⟩ := k3 j x hj
      exact ⟨cs, rangeAt_alike q1 ha k2, L.alike q2 ha⟩⟩⟩
  widen := fun ⟨A, cap, e, h1, h2, h3, h4⟩ hB => ⟨A, cap, e, h1, h2, h3, fun h0 => by
    obtain ⟨b, off, k1, k2, k3⟩ := h4 h0
    exact ⟨b, off, k1, by omega, fun j x hj => by
      obtain ⟨cs, q1, q2⟩ := k3 j x hj
      exact ⟨cs, q1, L.widen q2 hB⟩⟩⟩
theorem opens_slice {P : Program} {α : Type} {t : TypeId} {L : Lay α} (hL : L.Opens P) (hn : 0 < L.n) (ht : P.underlying t = some (.slice L.t)) (hc : P.cellsOf t = 1) : (Lay.slice t L).Opens P where
  cells := hc
  op := fun {H enc w sp hd fuel cs y} h => by
    rcases Go.Deep.open_slice ht h with ⟨rfl, _⟩ | ⟨a, len, cap, m, n, D, Pl, rfl, _, hl, hm, hmm, _, hi⟩
    · exact ⟨[], none, 0, rfl, Nat.le_refl _, Nat.zero_le _, fun _ => rfl, fun h => absurd h (by simp)⟩
    · rw [hL.cells] at hi
      have hml : len ≤ m := by rw [hmm]; split <;> omega
      have hel : ∀ i, i < len → ∃ (x : α) (cs : List Value), cs.length = L.n ∧ (∀ k, k < L.n → w.cell? ((a.add (i * L.n)).add k) = cs[k]?) ∧ L.At w w.heap.size cs x := by
        intro i hil
        obtain ⟨cs', hc', htr⟩ := hi i (by omega)
        obtain ⟨_, hcl, hat⟩ := World.cells?_some hc'
        obtain ⟨x, hx⟩ := hL.op htr
        exact ⟨x, cs', hcl, hat, hx⟩
      rcases Nat.eq_zero_or_pos len with rfl | hpos
      · exact ⟨[], some a, cap, rfl, Nat.zero_le _, hm, (fun h => by cases h), fun h => absurd h (by simp)⟩
      obtain ⟨x0, _⟩ := hel 0 hpos
      obtain ⟨f, hf⟩ : ∃ f : Nat → α, ∀ i, i < len → ∃ cs : List Value, cs.length = L.n ∧ (∀ k, k < L.n → w.cell? ((a.add (i * L.n)).add k) = cs[k]?) ∧ L.At w w.heap.size cs (f i) :=
        ⟨fun i => if h : i < len then Classical.choose (hel i h) else x0, fun i h => by simp only [dif_pos h]; exact Classical.choose_spec (hel i h)⟩
      clear hel
      have hll : ((List.range len).map f).length = len := by simp
      refine ⟨(List.range len).map f, some a, cap, by rw [hll], by omega, hm, (fun h => by cases h), fun _ => ?_⟩
      obtain ⟨c0, q0, q1, _⟩ := hf 0 hpos
      have hcell := q1 0 hn
      rw [List.getElem?_eq_getElem (by omega)] at hcell
      obtain ⟨b, off, sp'⟩ := a
      cases sp' with
      | some q =>
        have h2 : w.cell? ⟨b, off, some q⟩ = some c0[0] := by simpa [Addr.add] using hcell
        rw [cell_spot] at h2
        cases h2
      | none =>
        have h2 : w.cell? ⟨b, off, none⟩ = some c0[0] := by simpa [Addr.add] using hcell
        refine ⟨b, off, rfl, World.block_lt_of_cell? w _ h2, fun j x hj => ?_⟩
        obtain ⟨hj1, hj2⟩ := List.getElem?_eq_some_iff.1 hj
        rw [hll] at hj1
        have hj3 : f j = x := by simpa using hj2
        obtain ⟨cs, k1, k2, k3⟩ := hf j hj1
        rw [hj3] at k3
        refine ⟨cs, fun k v hk => ?_, k3⟩
        have hkn : k < L.n := by
          have := (List.getElem?_eq_some_iff.1 hk).1
          omega
        have := k2 k hkn
        rw [add_plain, add_plain, hk] at this
        exact this
end Go.Proofs.Ytfppddnfdinipaa
end
section
namespace Go.Proofs.Ytfppddnfdinipaa
open Go Go.RowKit
set_option maxRecDepth 100000
/-- runs behind a row of runs of one's own, be they none -/
theorem OwnRuns.appAny {base R : Nat} {w : World} {v u : Value} {l r : List Run} (h : OwnRuns base w v l) (hu : OwnRuns R w u r) (hbase : base ≤ w.heap.size) (hl : l.length + r.length ≤ 100000) :
    ∃ v' w', (Builtin.append_ #[73, 73] 73 #[v, u]).run Try.prog w = .ok v' w' ∧ OwnRuns base w' v' (l ++ r) ∧ Below base w w' ∧ w.grownBy w' v.ownBlock := by
  obtain ⟨i, hi, hz0, hz1, hz2⟩ := info_parts info_run
  obtain ⟨A, c, rfl, A', c', hv, hc, hnil, hA, h64⟩ := hu.m
  injection hv with e1 _ e2
  subst e1 e2
  cases A with
  | none =>
    have h0 : r.length = 0 := by have := hnil rfl; omega
    obtain rfl := List.length_eq_zero_iff.1 h0
    obtain rfl := hnil rfl
    refine ⟨_, w, run_append_owned_none (P := Try.prog) (w := w) base 73 73 88 i 2 Try.underlying73 hi _ l.length _ h.1, by rw [List.append_nil]; exact h, Below.refl _ _, ⟨rfl, rfl, rfl, Nat.le_refl _, fun _ _ _ => rfl⟩⟩
  | some ad =>
    have hcells : ∀ j u, (runCells r)[j]? = some u → w.cell? (ad.add j) = some u := by
      intro j u hj
      have hr0 : 0 < r.length := by
        have := (List.getElem?_eq_some_iff.1 hj).1
        rw [runCells_len] at this
        omega
      obtain ⟨b, off, e, _, hcs⟩ := hA hr0
      injection e with e
      subst e
      exact run_cells hcs j u hj
    obtain ⟨v', w', k1, k2, k3, _⟩ := run_append_own_at (P := Try.prog) (w := w) base 73 73 88 i _ 2 16 Try.underlying73 hi hz0 hz1 hz2 rfl (by omega) v l.length (runCells l) h.1 ad r.length c (runCells r) (runCells_len _) hcells (runCells_one r) (by simp only [maxLen]; omega) (by omega) hbase
    rw [← runCells_app] at k2
    refine ⟨v', w', k1, ⟨by rw [List.length_append]; exact k2, fun p hp => ?_⟩, (Below.refl base w).grown k3 hbase fun k hk => (owned_ltN h.1 hk).1, k3⟩
    rcases List.mem_append.1 hp with hp | hp
    · exact h.2 p hp
    · exact h64 p hp
/-- all stays but what GrowR lets grow, and that is one block -/
structure GrowG (G : Option Nat) (B : Nat) (F : List Value) (N : Nat) (w w' : World) : Prop where
  gr : GrowR B F N w w'
  only : ∀ k, k < w.heap.size → some k ≠ G → w'.heap[k]? = w.heap[k]?
instance {G : Option Nat} {B : Nat} {F : List Value} {N : Nat} : Fre.RelOk (GrowG G B F N) where
  refl w := ⟨.of_below (Below.refl _ w), fun _ _ _ => rfl⟩
  drew w := ⟨.of_below ((Below.refl _ w).drew), fun _ _ _ => rfl⟩
  trans a b c h1 h2 := ⟨Fre.RelOk.trans (X := GrowR B F N) a b c h1.gr h2.gr, fun k hk hG => (h2.only k (Nat.lt_of_lt_of_le hk h1.gr.size) hG).trans (h1.only k hk hG)⟩
theorem GrowG.of_below {G : Option Nat} {B : Nat} {F : List Value} {N : Nat} {w w' : World} (h : Below w.heap.size w w') : GrowG G B F N w w' := ⟨.of_below h, fun k hk _ => h.block k hk⟩
theorem app_held {u v : Value} {W : World} {B R : Nat} {rs fs : List Run} (h : OwnRuns B W u rs) (hB : B ≤ W.heap.size) (hf : OwnRuns R W v fs) (hl : rs.length + fs.length ≤ 100000) :
    ∃ v' w', (Builtin.append_ #[73, 73] 73 #[u, v]).run Try.prog W = .ok v' w' ∧ GrowG u.ownBlock B (runCells (rs ++ fs)) (rs.length * 2) W w' ∧ OwnRuns B w' v' (rs ++ fs) := by
  obtain ⟨v1, w1, r1, o1, _, g1⟩ := h.appAny hf hB hl
  refine ⟨v1, w1, r1, ⟨?_, fun k hk hG => g1.block k hk hG⟩, o1⟩
  rcases Nat.eq_zero_or_pos fs.length with h0 | h0
  · obtain rfl := List.length_eq_zero_iff.1 h0
    obtain ⟨i, hi, hz0, hz1, hz2⟩ := info_parts info_run
    rcases owned_formN h.1 with ⟨rfl, hr0, _⟩ | ⟨g, cap, cur, rfl, _, hc2, _⟩
    · exact .of_below ((Below.refl _ W).grown g1 (Nat.le_refl _) (fun k hk => by cases hk))
    · have : w1 = W := by
        obtain ⟨A, c, rfl, A', c', hv, hc, hnil, hA, h64⟩ := hf.m
        injection hv with e1 _ e2
        subst e1 e2
        rw [show ([] : List Run).length = 0 from rfl] at r1
        cases A with
        | none =>
          obtain rfl := hnil rfl
          have := run_append_owned_none (P := Try.prog) (w := W) B 73 73 88 i 2 Try.underlying73 hi _ rs.length _ h.1
          rw [this] at r1
          injection r1 with _ r1
          exact r1.symm
        | some ad =>
          have := run_append_room_cells (P := Try.prog) (w := W) 73 73 88 i Try.underlying73 hi g 0 rs.length cap ad 0 c [] (by simp) (fun j u hu => by simp at hu) (fun u hu => by cases hu) (by omega) (fun j hj => by simp at hj) (fun j hj => by simp at hj)
          rw [this] at r1
          injection r1 with _ r1
          exact r1.symm
      rw [this]
      exact .of_below (Below.refl _ _)
  · obtain ⟨A, c, rfl, hm⟩ := hf.m
    obtain ⟨v2, w2, r2, g2, _⟩ := app_more (B' := W.heap.size) h.1 hB hm h0 hl
    rw [r1] at r2
    injection r2 with _ r2
    rw [r2]
    exact g2
/-- rows of bytes, whole numbers: as arguments -/
def RowsArg (w : World) (R : Nat) (v : Value) (ls : List (List UInt8)) : Prop := ∃ A cap, v = .slice A ls.length cap ∧ (0 < ls.length → ∃ b off, A = some ⟨b, off, none⟩ ∧ b < R ∧ ∀ j l, ls[j]? = some l → ∃ u, w.cell? ⟨b, off + j, none⟩ = some u ∧ ByArg w R u l)
def IntsArg (w : World) (R : Nat) (v : Value) (zs : List Int) : Prop := ∃ A cap, v = .slice A zs.length cap ∧ (0 < zs.length → ∃ b off, A = some ⟨b, off, none⟩ ∧ b < R ∧ ∀ j z, zs[j]? = some z → w.cell? ⟨b, off + j, none⟩ = some (.int .i64 z)) ∧ ∀ z ∈ zs, -9223372036854775808 ≤ z ∧ z ≤ 9223372036854775807
theorem ByArg.alike {w w' : World} {R : Nat} {u : Value} {l : List UInt8} (h : ByArg w R u l) (ha : Alike R w w') : ByArg w' R u l := by
  obtain ⟨A, c, e, h1, h2⟩ := h
  exact ⟨A, c, e, h1.alike ha, h2⟩
theorem RowsArg.alike {w w' : World} {R : Nat} {v : Value} {ls : List (List UInt8)} (h : RowsArg w R v ls) (ha : Alike R w w') : RowsArg w' R v ls := by
  obtain ⟨A, cap, e, h1⟩ := h
  refine ⟨A, cap, e, fun h0 => ?_⟩
  obtain ⟨b, off, k1, k2, k3⟩ := h1 h0
  refine ⟨b, off, k1, k2, fun j l hj => ?_⟩
  obtain ⟨u, q1, q2⟩ := k3 j l hj
  exact ⟨u, (ha.cell (p := ⟨b, off + j, none⟩) k2).trans q1, q2.alike ha⟩
theorem IntsArg.alike {w w' : World} {R : Nat} {v : Value} {zs : List Int} (h : IntsArg w R v zs) (ha : Alike R w w') : IntsArg w' R v zs := by
  obtain ⟨A, cap, e, h1, h2⟩ := h
  refine ⟨A, cap, e, fun h0 => ?_, h2⟩
  obtain ⟨b, off, k1, k2, k3⟩ := h1 h0
  exact ⟨b, off, k1, k2, fun j z hj => (ha.cell (p := ⟨b, off + j, none⟩) k2).trans (k3 j z hj)⟩
/-- how long some rows are, all together -/
def lsum (l : List (List UInt8)) : Nat := (l.map List.length).sum
theorem lsum_take (ls : List (List UInt8)) (k : Nat) (b : List UInt8) (h : ls[k]? = some b) : lsum (ls.take (k + 1)) = lsum (ls.take k) + b.length := by
  obtain ⟨hi, he⟩ := List.getElem?_eq_some_iff.1 h
  unfold lsum
  rw [List.take_succ_eq_append_getElem hi, he, List.map_append, List.sum_append]
  simp
theorem lsum_le (ls : List (List UInt8)) (C : Nat) (h : ∀ b ∈ ls, b.length ≤ C) : ∀ k, lsum (ls.take k) ≤ k * C
  | 0 => by simp [lsum]
  | k + 1 => by
    have h1 := lsum_le ls C h k
    rw [Nat.succ_mul]
    cases hp : ls[k]? with
    | none =>
      have h2 : ls.length ≤ k := List.getElem?_eq_none_iff.1 hp
      rw [List.take_of_length_le (by omega)] at h1
      rw [List.take_of_length_le (by omega)]
      omega
    | some p =>
      have h3 := lsum_take ls k p hp
      have h4 := h p (List.mem_of_getElem? hp)
      omega
theorem lsum_get (ls : List (List UInt8)) (k : Nat) (b : List UInt8) (h : ls[k]? = some b) : b.length ≤ lsum ls := by
  have h1 := lsum_take ls k b h
  have h2 : lsum (ls.take (k + 1)) ≤ lsum ls := by
    have h : lsum ls = lsum (ls.take (k + 1)) + lsum (ls.drop (k + 1)) := by
      unfold lsum
      rw [← List.sum_append, ← List.map_append, List.take_append_drop]
    omega
  omega
theorem Cut.slice {w : World} {R n : Nat} {e : TypeId} {v : Value} {xs : List Value} (h : Cut w R e v n xs) : ∃ A cap, v = .slice A n cap := by
  rcases h.form with ⟨rfl, rfl, _⟩ | ⟨g, cap, cs, rfl, _⟩
  · exact ⟨none, 0, rfl⟩
  · exact ⟨_, cap, rfl⟩
def runsTo (st : List (List UInt8 × List Run)) (k : Nat) : List Run := (st.take k).flatMap (·.2)
theorem runsTo_succ {st : List (List UInt8 × List Run)} {k : Nat} {p : List UInt8 × List Run} (h : st[k]? = some p) : runsTo st (k + 1) = runsTo st k ++ p.2 := by
  obtain ⟨hi, he⟩ := List.getElem?_eq_some_iff.1 h
  unfold runsTo
  rw [List.take_succ_eq_append_getElem hi, he, List.flatMap_append]
  simp
theorem runsTo_len {l a d : Int} {st : List (List UInt8 × List Run)} (h : apartP l a d (st.flatMap (·.2))) (hd : d ≤ 64) (k : Nat) : (runsTo st k).length ≤ 64 := by
  have h1 : (runsTo st k).Sublist (st.flatMap (·.2)) := by
    have e : st.flatMap (·.2) = runsTo st k ++ (st.drop k).flatMap (·.2) := by
      unfold runsTo
      rw [← List.flatMap_append, List.take_append_drop]
    rw [e]
    exact List.sublist_append_left _ _
  have h2 := h1.length_le
  have h3 := pos_len_le _ fun r hr => (h.2.1 r hr).2.2.1
  have h4 := apart_count h
  omega
end Go.Proofs.Ytfppddnfdinipaa
end
section
namespace Go.Proofs.Ytfppddnfdinipaa
open Go.RowKit
set_option maxHeartbeats 400000 in
theorem pick_any (x n : Int) (w : World) (h1 : 1 ≤ n) (h2 : n ≤ 4294967296) (_hx : -9223372036854775808 ≤ x ∧ x ≤ 9223372036854775807) :
    Calls Try.prog 36 #[.int .i64 x, .int .i64 n] w fun e w' => e = .returned (.int .i64 (x % n)) ∧ w = w' := by
  have hlt : x % n < n := Int.emod_lt_of_pos _ (by omega)
  have hge : 0 ≤ x % n := Int.emod_nonneg _ (by omega)
  by_cases h : x.tmod n < 0
  · have hr : x.tmod n + n = x % n := by
      rw [Int.tmod_eq_emod]
      split
      · rename_i h3
        rw [Int.tmod_eq_emod, if_pos h3] at h; omega
      · rw [Int.natAbs_of_nonneg (by omega)]; omega
    go_enter Try.func36, Try.ntmps36
    go_wp2
    go_ret
    refine ⟨ret_int ?_, rfl⟩
    first | rfl | rw [hr] | (rw [hr]; exact IntWalk.wrap64_in _ (by omega))
  · have hr : x.tmod n = x % n := by
      rw [Int.tmod_eq_emod] at h ⊢
      split
      · omega
      · rename_i h3
        rw [if_neg h3, Int.natAbs_of_nonneg (by omega)] at h
        omega
    go_enter Try.func36, Try.ntmps36
    go_wp2
    go_ret
    exact ⟨ret_int (by first | rfl | exact hr), rfl⟩

end Go.Proofs.Ytfppddnfdinipaa
end
section
namespace Go.Proofs.Ytfppddnfdinipaa
open Go Go.RowKit
set_option maxRecDepth 100000
/-- only memory is made -/
def Blw (w w' : World) : Prop := Below w.heap.size w w'
instance : Fre.RelOk Blw where
  refl := fun w => Below.refl _ w
  trans := fun _ _ _ h k => Below.trans h (Below.mono k h.size)
  drew := fun w => (Below.refl _ w).drew
/-- what Find tells: runs, an error -/
def FoundT (B : Nat) (e : Int) (f : List Run) (u : Value) (w : World) : Prop := ∃ o, u = .tuple #[o, .int .i64 e] ∧ OwnRuns B w o f
def FoundV (B : Nat) (f : List Run) (u : Value) (w : World) : Prop := OwnRuns B w u f
theorem foundT_ok (B : Nat) (e : Int) (f : List Run) : Fre.MadeOk Blw (FoundT B e f) := ⟨fun u w w' ⟨o, h1, h2⟩ hx => by
  have hb : Below w.heap.size w w' := hx
  exact ⟨o, h1, h2.below hb⟩⟩
theorem foundV_ok (B : Nat) (f : List Run) : Fre.MadeOk Blw (FoundV B f) := ⟨fun u w w' h hx => by
  have hb : Below w.heap.size w w' := hx
  exact OwnRuns.below h hb⟩
/-- what Read tells -/
def ReadT (B : Nat) (l : List UInt8) (u : Value) (w : World) : Prop := ∃ o, u = .tuple #[o, .int .i64 0] ∧ w.ownsRow B 5 1 o l.length (bv l)
def ReadV (B : Nat) (l : List UInt8) (u : Value) (w : World) : Prop := w.ownsRow B 5 1 u l.length (bv l)
theorem readT_ok (B : Nat) (l : List UInt8) : Fre.MadeOk Blw (ReadT B l) := ⟨fun u w w' ⟨o, h1, h2⟩ hx => by
  have hb : Below w.heap.size w w' := hx
  exact ⟨o, h1, owned_keepN h2 fun k _ hl => hb.block k hl⟩⟩
theorem readV_ok (B : Nat) (l : List UInt8) : Fre.MadeOk Blw (ReadV B l) := ⟨fun u w w' h hx => by
  have hb : Below w.heap.size w w' := hx
  exact owned_keepN h fun k _ hl => hb.block k hl⟩
/-- a row of which one is struck -/
def CutV (R : Nat) (e : TypeId) (n : Nat) (xs : List Value) (u : Value) (w : World) : Prop := Cut w R e u n xs
theorem cutV_ok (R : Nat) (e : TypeId) (n : Nat) (xs : List Value) : Fre.MadeOk Blw (CutV R e n xs) := ⟨fun u w w' h hx => by
  have hb : Below w.heap.size w w' := hx
  exact Cut.keep h fun k _ hl => hb.block k hl⟩
theorem bytes_widen {w : World} {B B' : Nat} {v : Value} {l : List UInt8} (h : BytesAt w B v l) (hB : B ≤ B') : BytesAt w B' v l := by
  obtain ⟨A, c, e, hc, h0⟩ := h
  refine ⟨A, c, e, hc, fun h1 => ?_⟩
  obtain ⟨b, off, k1, k2, k3⟩ := h0 h1
  exact ⟨b, off, k1, by omega, k3⟩
theorem GrowR.belowB {B N : Nat} {F : List Value} {w w' : World} (h : GrowR B F N w w') (_hB : B ≤ w.heap.size) : Below B w w' :=
  ⟨h.os, h.tape, h.output, h.size, fun k hk => (h.block k (by omega)).elim id fun h => absurd h.1 (by omega)⟩
theorem wrapI6 (x : Int) (h : -9223372036854775808 ≤ x ∧ x ≤ 9223372036854775807) : IntKind.i64.wrap x = x := by
  simp [IntKind.wrap, IntKind.signed, IntKind.bits]
  omega
theorem run_slice3 {P : Program} (t e : TypeId) (ht : P.underlying t = some (.slice e)) (hs : (P.info? e).map (·.size) = some 1) (A : Option Addr) (len cap k : Nat) (hk : k ≤ cap) (w : World) :
    (Instr.sliceAt t (.slice A len cap) none (some (.int .i64 (k : Int))) (some (.int .i64 (k : Int)))).run P w = .ok (.slice A k k) w := by
  have e2 : P.elem t = e := by simp [Program.elem, ht]
  rw [run_sliceAt_slice w t _ _ _ _ (by rw [e2]; exact ht), run_slice_any w t A len cap (by rw [e2]; exact ht)]
  have hb : (Instr.sliceBounds true len cap none (some (.int .i64 (k : Int))) (some (.int .i64 (k : Int)))).run P w = .ok (0, k, k) w := by
    have h1 : (0 : Int) ≤ (k : Int) := by omega
    have h2 : (k : Int) ≤ (cap : Int) := by omega
    simp [Instr.sliceBounds, run_sliceBound, h1, h2]
  rw [hb, e2]
  cases hi : P.info? e with
  | none => simp [hi] at hs
  | some i =>
    have h1 : i.size = 1 := by simpa [hi] using hs
    have e0 : A.map (fun a => a.add 0) = A := by cases A <;> simp [Addr.add]
    simp [sizeOf, typeInfo, hi, h1, sliced, e0, Result.andThen]
set_option maxHeartbeats 8000000 in
theorem keeps_any (l a d : Int) (ls : List (List UInt8)) (hln : ls.length ≤ 140737488355328) (hll : ∀ b ∈ ls, b.length ≤ 140737488355328) (zs : List Int) (hzn : zs.length ≤ 140737488355328) (v1 v2 : Value) (w : World) (h1 : RowsArg w w.heap.size v1 ls) (h2 : IntsArg w w.heap.size v2 zs) :
    Calls Try.prog 8 #[.agg #[.int .i64 l, .int .i64 a, .int .i64 d], v1, v2] w fun e w' => e = .returned (.bool true) ∧ Below w.heap.size w w' := by
  obtain ⟨A1, cA, rfl, hA1⟩ := h1
  obtain ⟨A2, cZ, rfl, hA2, hz2⟩ := h2
  obtain ⟨w0, hw0⟩ : ∃ w0, w0 = w.alloc (.cells #[.int .i64 l, .int .i64 a, .int .i64 d] 64) := ⟨_, rfl⟩
  have hb0 : Below w.heap.size w w0 := by rw [hw0]; exact (Below.refl _ w).alloc (Nat.le_refl _) _
  have hsh : Blk w0 w.heap.size 64 #[.int .i64 l, .int .i64 a, .int .i64 d] := by rw [hw0]; exact Blk.new _ _ _
  have hs0 : w0.heap.size = w.heap.size + 1 := by rw [hw0, size_alloc]
  have HARG := hide (And.intro hA1 (And.intro hA2 hz2))
  have H0 := hide (And.intro hb0 hs0)
  have HSH := hide (fun (W : World) (hW : Below w0.heap.size w0 W) => hsh.below hW hsh.lt)
  have HLD := hide (lsum_le ls 140737488355328 hll)
  clear hA1 hA2 hz2 hb0 hsh hs0 hll
  go_enter Try.func8, Try.ntmps8
  go_wp2_with fail
  rw [← hw0]
  have HW0 := hide hw0
  clear hw0 HW0
  refine (awake7_any _).mono ?_
  rintro e w1 ⟨rfl, hb1⟩
  have H1 := hide hb1
  clear hb1
  dsimp only
  go_wp2_with fail
  go_loopw [7, 8] (fun m x wr => ∃ k : Nat, k ≤ ls.length ∧ k ≤ 60 ∧ x = .int .i64 (k : Int) ∧ m = .int .i64 ((lsum (ls.take k) : Nat) : Int) ∧ Below w0.heap.size w0 wr) (fun _ x _ => ls.length - (intOf x).toNat)
  case atStart => exact ⟨0, by omega, by omega, rfl, rfl, H1.out⟩
  case round =>
    obtain ⟨k, hk, hk60, rfl, rfl, hb⟩ := hrel
    have HB := hide hb
    have n2 : (0 : Int) ≤ (k : Int) := by omega
    have n5 : (k : Int) ≤ 60 := by omega
    have hml := HLD.out k
    have p0 : (0 : Int) ≤ ((lsum (ls.take k) : Nat) : Int) := by omega
    have p1 : ((lsum (ls.take k) : Nat) : Int) ≤ 8444249301319680 := by omega
    clear hb hml H1
    by_cases hk2 : k < ls.length
    · have n1 : (k : Int) < (ls.length : Int) := by omega
      by_cases hk3 : k < 60
      · have n3 : (k : Int) < 60 := by omega
        obtain ⟨b, hp⟩ : ∃ b, ls[k]? = some b := ⟨_, List.getElem?_eq_getElem hk2⟩
        obtain ⟨b1, off1, rfl, hlt1, hcs⟩ := HARG.out.1 (by omega)
        obtain ⟨u1, hc1, hby⟩ := hcs k b hp
        obtain ⟨Ab, cb, rfl, _⟩ := hby.cap
        have q0 : wr.cell? ⟨b1, off1 + k, none⟩ = some (.slice Ab b.length cb) := ((H0.out.1.trans (Below.mono HB.out (by have := H0.out.2; omega))).cell (p := ⟨b1, off1 + k, none⟩) hlt1).trans hc1
        have hbl : b1 < wr.heap.size := World.block_lt_of_cell? wr _ q0
        have hlt2 := lsum_take ls k b hp
        have hlg := HLD.out (k + 1)
        rw [hlt2] at hlg
        have p2 : (0 : Int) ≤ (b.length : Int) := by omega
        have p3 : (b.length : Int) ≤ 8584986789675008 := by omega
        have HL := hide hlt2
        generalize lsum (ls.take k) = M at p0 p1 HL ⊢
        clear hcs hc1 hby hp hlt2 hlg
        go_wp2_with fail
        refine ⟨⟨k + 1, by omega, by omega, by go_num, ?_, HB.out⟩, by simp [intOf]; omega⟩
        rw [HL.out]
        congr 1
      · obtain rfl : k = 60 := by omega
        have n4 : (60 : Int) < (ls.length : Int) := by omega
        generalize lsum (ls.take 60) = M at p0 p1
        go_wp2_with fail
        go_ret
        exact ⟨rfl, H0.out.1.trans (Below.mono HB.out (by have := H0.out.2; omega))⟩
    · obtain rfl : k = ls.length := by omega
      have n1 : ¬ ((ls.length : Nat) : Int) < (ls.length : Int) := by omega
      have p7 : ¬ (60 : Int) < (ls.length : Int) := by omega
      rw [List.take_length] at p0 p1 ⊢
      obtain ⟨M, hM0⟩ : ∃ M, M = lsum ls := ⟨_, rfl⟩
      rw [← hM0] at p0 p1 ⊢
      by_cases hM : 4000 < M
      · have q0 : (4000 : Int) < (M : Int) := by omega
        go_wp2_with fail
        go_ret
        exact ⟨rfl, H0.out.1.trans (Below.mono HB.out (by have := H0.out.2; omega))⟩
      · have q0 : ¬ (4000 : Int) < (M : Int) := by omega
        have hs3 := HSH.out _ HB.out
        have c0 := hs3.cell 0
        have c1 := hs3.cell 1
        have c2 := hs3.cell 2
        have hlt := hs3.lt
        clear hs3
        go_wp2_with fail
        refine (lright_any l a d _).mono ?_
        rintro e w2 ⟨rfl, rfl⟩
        by_cases hr : rightP l a d
        · rw [decide_eq_true hr]
          have HR0 := hide hr
          clear hr
          dsimp only
          go_wp2_with fail
          refine (lsecs_any l a d _).mono ?_
          rintro e w3 ⟨rfl, hb3⟩
          have H3 := hide ((HB.out.alloc HB.out.size _).next hb3)
          clear hb3 c0 c1 c2 hlt
          dsimp only
          by_cases hs60 : 60 < secs l a d
          · go_wp2_with fail
            go_ret
            exact ⟨rfl, H0.out.1.trans (Below.mono H3.out (by have := H0.out.2; omega))⟩
          · have hM4 : lsum ls ≤ 4000 := by omega
            have hs60 : secs l a d ≤ 60 := by omega
            clear p0 p1 hM q0 HLD
            have hs3 := HSH.out _ H3.out
            have c0 := hs3.cell 0
            have c1 := hs3.cell 1
            have c2 := hs3.cell 2
            have hlt := hs3.lt
            clear hs3
            have hr := HR0.out
            have h64 : rightP l a d → d ≤ 64 := fun h => by
              rw [secs, if_pos h] at hs60
              obtain ⟨⟨a1, a2⟩, ⟨b1, b2⟩, ⟨c1, c2⟩, h4⟩ := h
              omega
            go_wp2_with fail
            obtain ⟨N, hN⟩ : ∃ N : Nat, secs l a d = (N : Int) := ⟨(1 + l + 2 * a + d).toNat, by rw [secs, if_pos hr]; obtain ⟨⟨a1, a2⟩, ⟨b1, b2⟩, ⟨c1, c2⟩, h4⟩ := hr; omega⟩
            have hN1 : 1 ≤ N ∧ N ≤ 60 := by rw [hN] at hs60; have h := hN; rw [secs, if_pos hr] at h; obtain ⟨⟨a1, a2⟩, ⟨b1, b2⟩, ⟨c1, c2⟩, h4⟩ := hr; omega
            have HR := hide (And.intro hr (And.intro hN h64))
            clear hr h64 HR0 hs60
            refine (lsecs_any l a d _).mono ?_
            rintro e w4 ⟨rfl, hb4⟩
            have H4 := hide (H3.out.next hb4)
            clear hb4 c0 c1 c2 hlt
            rw [hN]
            dsimp only
            go_wp2_with fail
            refine (mineNew N (by omega) H4.out (Nat.le_refl _)).mono ?_
            rintro e w5 ⟨q, F0, rfl, hmine⟩
            have hKS : KAt w0.heap.size w0 w5 F0 q (Dv.new N) l a d (.slice none 0 0) (.slice none 0 0) [] [] := ⟨rfl, ⟨hmine, .inl (World.ownsRow_nil _ _ _ _), .inl (World.ownsRow_nil _ _ _ _), fun p hp => by cases hp⟩, fun j p u hp => by simp at hp, by have := Kp.start HR.out.1; rw [HR.out.2.1, Int.toNat_natCast] at this; exact this⟩
            have HKS := hide (show ∃ (i : Nat) (st : List (List UInt8 × List Run)) (us : List (Value × Value)) (F : Nat → Prop) (D : Dv), i ≤ ls.length ∧ st.length ≤ i ∧ D.de ≤ 100 * (i : Int) ∧ Value.int .i64 0 = .int .i64 (i : Int) ∧ KAt w0.heap.size w0 w5 F q D l a d (.slice none 0 0) (.slice none 0 0) st us from ⟨0, [], [], F0, Dv.new N, by omega, Nat.le_refl _, by show (0 : Int) ≤ _; omega, rfl, hKS⟩)
            clear hKS hmine H3 H4
            dsimp only
            go_wp2_with fail
            go_loopw [11, 12, 13] (fun vR vU x wr => ∃ (i : Nat) (st : List (List UInt8 × List Run)) (us : List (Value × Value)) (F : Nat → Prop) (D : Dv), i ≤ ls.length ∧ st.length ≤ i ∧ D.de ≤ 100 * (i : Int) ∧ x = .int .i64 (i : Int) ∧ KAt w0.heap.size w0 wr F q D l a d vR vU st us) (fun _ _ x _ => ls.length - (intOf x).toNat)
            case atStart => exact HKS.out
            case round =>
              obtain ⟨i, st, us, F, D, hi, hst, hde, rfl, hKA⟩ := hrel
              obtain ⟨W, rfl⟩ : ∃ W, W = wr := ⟨_, rfl⟩
              obtain ⟨AR, cR, rfl⟩ := hKA.par.rows.slice
              obtain ⟨AU, cU, rfl⟩ := hKA.par.runs.slice
              have HK := hide (And.intro hKA (And.intro hde (And.intro hKA.law.ap hst)))
              clear hKA hde hst HKS
              have i0 : (0 : Int) ≤ (i : Int) := by omega
              by_cases hi2 : i < ls.length
              · have i1 : (i : Int) < (ls.length : Int) := by omega
                obtain ⟨b, hb⟩ : ∃ b, ls[i]? = some b := ⟨_, List.getElem?_eq_getElem hi2⟩
                obtain ⟨b1, off1, rfl, hlt1, hcs⟩ := HARG.out.1 (by omega)
                obtain ⟨u1, hc1, hby⟩ := hcs i b hb
                have hbl : b.length ≤ 4000 := by have := lsum_get ls i b hb; omega
                obtain ⟨Ab, cb, rfl, hbA, hbn, hbc⟩ := hby.cap
                have HU := hide (fun (W' : World) (hW' : Below w0.heap.size w0 W') => (⟨((H0.out.1.trans (Below.mono hW' (by have := H0.out.2; omega))).cell (p := ⟨b1, off1 + i, none⟩) hlt1).trans hc1, hbA.alike fun k hk => (H0.out.1.trans (Below.mono hW' (by have := H0.out.2; omega))).block k hk⟩ : W'.cell? ⟨b1, off1 + i, none⟩ = some (.slice Ab b.length cb) ∧ BytesAt W' w.heap.size (.slice Ab b.length cb) b))
                have HBY := hide (And.intro hbn (And.intro hbc hby))
                obtain ⟨Nd, hNd, hNd2⟩ := needP_nat b.length
                have HN := hide hNd
                have hNd3 : Nd ≤ 64 := by have := hNd; unfold needP at this; split at this <;> omega
                clear hcs hc1 hby hbA hbn hbc hb hNd
                go_wp2_with fail
                have HH := hide (show ∃ k : Nat, k ≤ st.length ∧ Value.int .i64 0 = .int .i64 (k : Int) ∧ OwnRuns W.heap.size W (.slice none 0 0) (runsTo st k) ∧ Below W.heap.size W W from ⟨0, by omega, rfl, ownRuns_nil _ _, Below.refl _ _⟩)
                go_loopw [14, 15] (fun v x wx => ∃ k : Nat, k ≤ st.length ∧ x = .int .i64 (k : Int) ∧ OwnRuns W.heap.size wx v (runsTo st k) ∧ Below W.heap.size W wx) (fun _ x _ => st.length - (intOf x).toNat)
                case atStart => exact HH.out
                case round =>
                  obtain ⟨k, hk, rfl, hown, hb⟩ := hrel
                  have HO := hide (And.intro hown hb)
                  clear hown hb HH
                  have k0 : (0 : Int) ≤ (k : Int) := by omega
                  have hst60 : st.length ≤ 60 := by have := HK.out.2.2.2; omega
                  have k4 : (st.length : Int) ≤ 60 := by omega
                  by_cases hk2 : k < st.length
                  · have k1 : (k : Int) < (st.length : Int) := by omega
                    obtain ⟨p, hp⟩ : ∃ p, st[k]? = some p := ⟨_, List.getElem?_eq_getElem hk2⟩
                    obtain ⟨u, hu⟩ : ∃ u, us[k]? = some u := ⟨_, List.getElem?_eq_getElem (by rw [HK.out.1.len]; exact hk2)⟩
                    have hor := (HK.out.1.runs hp hu).below HO.out.2
                    obtain ⟨gU, cU', eU, hcU, hgU, _⟩ := HK.out.1.par.runs.cell (j := k) (x := u.2) (by rw [List.getElem?_map, hu]; rfl)
                    injection eU with eU _ eU2
                    subst eU eU2
                    have hcu := (HO.out.2.cell (p := ⟨gU, k, none⟩) hgU).trans hcU
                    have hgu2 : gU < wr.heap.size := by have := HO.out.2.size; omega
                    obtain ⟨v', w', ha1, ha2, ha3, _⟩ := HO.out.1.appAny hor HO.out.2.size (by rw [← List.length_append, ← runsTo_succ hp]; have := runsTo_len HK.out.2.2.1 (HR.out.2.2 HR.out.1) (k + 1); omega)
                    rw [← runsTo_succ hp] at ha2
                    have HA := hide (And.intro ha1 (And.intro ha2 (HO.out.2.trans ha3)))
                    obtain ⟨Au, cu, eu, _⟩ := hor.m
                    rw [eu] at hcu HA
                    clear ha1 ha2 ha3 hor hcU hp hu eu
                    go_wp2_with (at_builtin; refine wpList_value (o := ⟨some 87, _, _, _, _, _⟩) rfl v' w' (exec_append (o := ⟨some 87, _, _, _, _, _⟩) (.tmp 82) (.tmp 86) 73 rfl _ _ _ _ _ rfl rfl HA.out.1) ?_)
                    go_roundw
                    case rel => exact ⟨k + 1, by omega, by go_num, HA.out.2.1, HA.out.2.2⟩
                    case measure => simp [intOf]; omega
                  · obtain rfl : k = st.length := by omega
                    have k1 : ¬ ((st.length : Nat) : Int) < (st.length : Int) := by omega
                    have hown := HO.out.1
                    unfold runsTo at hown
                    rw [List.take_length] at hown
                    have hheld := runsTo_len HK.out.2.2.1 (HR.out.2.2 HR.out.1) st.length
                    unfold runsTo at hheld
                    rw [List.take_length] at hheld
                    obtain ⟨held, hhe⟩ : ∃ held, held = st.flatMap (·.2) := ⟨_, rfl⟩
                    rw [← hhe] at hown hheld
                    have HHE := hide hhe
                    obtain ⟨Ah, ch, rfl, hm⟩ := hown.m
                    obtain ⟨fr, hfr⟩ : ∃ fr, fr = (freeTo held d.toNat).length := ⟨_, rfl⟩
                    have hfr64 : fr ≤ 64 := by rw [hfr]; have := freeTo_len held d.toNat; have := HR.out.2.2 HR.out.1; omega
                    have hap : apartP l a d held := by rw [hhe]; exact HK.out.2.2.1
                    have hfn : freeN l a d held = (fr : Int) := by rw [freeN, if_pos hap, hfr]
                    have hfe : freeE l a d held = 0 := if_pos hap
                    have HK := hide (And.intro HK.out.1 (And.intro HK.out.2.1 (And.intro hap (And.intro HK.out.2.2.2 hfr))))
                    have HO := hide (And.intro hown HO.out.2)
                    have HM := hide hm
                    clear hown hm hhe hap hfr
                    have hW0 : Below w0.heap.size w0 wr := HK.out.1.par.mine.bel.trans (Below.mono HO.out.2 HK.out.1.par.mine.bel.size)
                    have hs3 := HSH.out _ hW0
                    have c0 := hs3.cell 0
                    have c1 := hs3.cell 1
                    have c2 := hs3.cell 2
                    have hlt := hs3.lt
                    clear hs3
                    have HW0 := hide hW0
                    clear hW0
                    go_wp2_with fail
                    refine (lfree_any l a d HR.out.2.2 _ held (by omega) _ HM.out).mono ?_
                    rintro e W4 ⟨rfl, hb4⟩
                    rw [hfn, hfe]
                    have H4 := hide (And.intro (HO.out.1.below hb4) (HW0.out.next hb4))
                    have HB4 := hide (HO.out.2.trans (Below.mono hb4 HO.out.2.size))
                    clear hb4 c0 c1 c2 hlt hfn hfe
                    dsimp only
                    go_wp2_with fail
                    by_cases hfull : fr < Nd
                    · have hfr := HK.out.2.2.2.2
                      have hE7 : findE l a d held Nd = 7 := by unfold findE; rw [if_pos ⟨HK.out.2.2.1, by omega⟩, if_pos (by rw [← hfr]; omega)]
                      have hR7 : findR l a d held Nd = [] := by unfold findR; rw [hE7]; rfl
                      have HE := hide (And.intro hE7 hR7)
                      clear hfr hE7 hR7
                      refine Fre.wp_made (X := Blw) 13 [(103, FoundT W4.heap.size 7 ([])), (94, FoundT W4.heap.size 7 ([])), (104, FoundV W4.heap.size ([])), (18, FoundV W4.heap.size ([]))] (by kernel_rfl) (by kernel_rfl) (by simp only [List.forall_mem_cons]; exact ⟨foundT_ok _ _ _, foundT_ok _ _ _, foundV_ok _ _, foundV_ok _ _, fun p hp => by cases hp⟩) (by simp) (by simp) ?_
                      simp only [List.take_succ_cons, List.take_zero, List.drop_succ_cons, List.drop_zero]
                      refine Fre.made_val (.agg #[.int .i64 l, .int .i64 a, .int .i64 d]) (by kernel_rfl) (by kernel_rfl) (by kernel_rfl) (fun W9 hW9 => exec_load_blk (o := ⟨some 95, _, _, _, _, _⟩) 64 (.tmp 3) rfl w.heap.size rfl 64 _ _ W9 (HSH.out W9 (H4.out.2.trans (Below.mono hW9 H4.out.2.size))) Try.underlying64 rfl (by kernel_rfl)) ?_
                      simp only [Act.put, List.setIfInBounds_toArray, List.set_cons_zero, List.set_cons_succ]
                      refine Fre.made_val (.slice (some ⟨b1, off1, none⟩) ls.length cA) (by kernel_rfl) (by kernel_rfl) (by kernel_rfl) (fun _ _ => by kernel_rfl) ?_
                      simp only [Act.put, List.setIfInBounds_toArray, List.set_cons_zero, List.set_cons_succ]
                      refine Fre.made_val (.int .i64 (i : Int)) (by kernel_rfl) (by kernel_rfl) (by kernel_rfl) (fun _ _ => by kernel_rfl) ?_
                      simp only [Act.put, List.setIfInBounds_toArray, List.set_cons_zero, List.set_cons_succ]
                      refine Fre.made_val (.pointer (some ⟨b1, off1 + (i : Int).toNat * 1, none⟩)) (by kernel_rfl) (by kernel_rfl) (by kernel_rfl) (fun W9 _ => exec_index_off (o := ⟨some 98, _, _, _, _, _⟩) 65 66 (.tmp 96) (.tmp 97) rfl b1 off1 ls.length cA (i : Int) .i64 rfl rfl ⟨i0, i1⟩ 1 Try.underlying65 (by kernel_rfl) W9) ?_
                      simp only [Act.put, List.setIfInBounds_toArray, List.set_cons_zero, List.set_cons_succ]
                      rw [show off1 + (i : Int).toNat * 1 = off1 + i by omega]
                      refine Fre.made_val (.slice Ab b.length cb) (by kernel_rfl) (by kernel_rfl) (by kernel_rfl) (fun W9 hW9 => exec_load_slice (o := ⟨some 99, _, _, _, _, _⟩) 66 5 (.tmp 98) rfl ⟨b1, off1 + i, none⟩ rfl _ W9 Try.underlying66 (HU.out W9 (H4.out.2.trans (Below.mono hW9 H4.out.2.size))).1) ?_
                      simp only [Act.put, List.setIfInBounds_toArray, List.set_cons_zero, List.set_cons_succ]
                      refine Fre.made_val (.int .i64 (b.length : Int)) (by kernel_rfl) (by kernel_rfl) (by kernel_rfl) (fun W9 hW9 => ?hs1) ?_
                      case hs1 =>
                        go_simp
                      simp only [Act.put, List.setIfInBounds_toArray, List.set_cons_zero, List.set_cons_succ]
                      refine Fre.made_call (.int .i64 (Nd : Int)) 34 #[.int .i64 (b.length : Int)] (by kernel_rfl) (by kernel_rfl) (by kernel_rfl) (fun W9 => by kernel_rfl) (fun W9 hW9 => (need_any (b.length : Int) (by omega) W9).mono fun e w' ⟨h1, h2⟩ => ⟨by rw [h1, HN.out], by rw [h2]; exact Fre.Ext.refl W9⟩) ?_
                      simp only [Act.put, List.setIfInBounds_toArray, List.set_cons_zero, List.set_cons_succ]
                      refine Fre.made_val (.slice Ah held.length ch) (by kernel_rfl) (by kernel_rfl) (by kernel_rfl) (fun _ _ => by kernel_rfl) ?_
                      simp only [Act.put, List.setIfInBounds_toArray, List.set_cons_zero, List.set_cons_succ]
                      refine Fre.made_newcall 103 _ 33 #[.agg #[.int .i64 l, .int .i64 a, .int .i64 d], .int .i64 (Nd : Int), .slice Ah held.length ch] (by kernel_rfl) (by kernel_rfl) rfl rfl (fun _ => by kernel_rfl) (fun W9 hW9 => ?hfind) ?_
                      case hfind =>
                        have hb9 : Below W4.heap.size W4 W9 := hW9
                        refine (lfind_any l a d HR.out.2.2 _ held (by omega) (Nd : Int) W9 (by have h := (H4.out.1.below hb9); obtain ⟨A', c', e, hm⟩ := h.m; rw [← e] at hm; exact hm)).mono ?_
                        rintro e w' ⟨o, h1, h2, h3⟩
                        rw [HE.out.1] at h1
                        rw [HE.out.2] at h2
                        exact ⟨_, h1, h3, o, rfl, ⟨owned_baseN h2.1 fun g hg => by have := (owned_ltN h2.1 hg).1; have := hb9.size; omega, h2.2⟩⟩
                      simp only [Act.put, List.setIfInBounds_toArray, List.set_cons_zero, List.set_cons_succ]
                      refine Fre.made_new1 103 _ 94 _ (by kernel_rfl) rfl (by kernel_rfl) rfl rfl (fun u W9 hW9 hu => ⟨u, W9, by kernel_rfl, Fre.Ext.refl W9, hu⟩) ?_
                      simp only [Act.put, List.setIfInBounds_toArray, List.set_cons_zero, List.set_cons_succ]
                      refine Fre.made_new1 94 _ 104 _ (by kernel_rfl) rfl (by kernel_rfl) rfl rfl (fun u W9 hW9 hu => by obtain ⟨o, rfl, ho⟩ := hu; exact ⟨o, W9, by kernel_rfl, Fre.Ext.refl W9, ho⟩) ?_
                      simp only [Act.put, List.setIfInBounds_toArray, List.set_cons_zero, List.set_cons_succ]
                      refine Fre.made_val1 94 _ (.int .i64 7) (by kernel_rfl) rfl (by kernel_rfl) (by kernel_rfl) (fun u W9 hW9 hu => by obtain ⟨o, rfl, ho⟩ := hu; kernel_rfl) ?_
                      simp only [Act.put, List.setIfInBounds_toArray, List.set_cons_zero, List.set_cons_succ]
                      refine Fre.made_new1 104 _ 18 _ (by kernel_rfl) rfl (by kernel_rfl) rfl rfl (fun u W9 hW9 hu => ⟨u, W9, by kernel_rfl, Fre.Ext.refl W9, hu⟩) ?_
                      simp only [Act.put, List.setIfInBounds_toArray, List.set_cons_zero, List.set_cons_succ]
                      show ∀ w', _ → _
                      intro W5 hb5
                      simp only [Fre.ended]
                      intro u103 _ u94 _ u104 _ u18 hu18
                      simp only [Act.put, List.setIfInBounds_toArray, List.set_cons_zero, List.set_cons_succ]
                      have hb5 : Below W4.heap.size W4 W5 := hb5
                      have H5 := hide (And.intro (show OwnRuns W4.heap.size W5 u18 _ from hu18) (And.intro (H4.out.1.below hb5) (And.intro (H4.out.2.trans (Below.mono hb5 H4.out.2.size)) hb5)))
                      clear hu18 hb5
                      have q1 : ¬ (Nd : Int) ≤ (fr : Int) := by omega
                      have hcu := (HU.out W5 H5.out.2.2.1).1
                      go_wp2_with fail
                      refine (need_any (b.length : Int) (by omega) _).mono ?_
                      rintro e W6 ⟨rfl, rfl⟩
                      rw [HN.out]
                      clear hcu
                      dsimp only
                      go_wp2_with fail
                      go_roundw
                      case rel => exact ⟨i + 1, st, us, F, D, by omega, by have := HK.out.2.2.2.1; omega, by have := HK.out.2.1; omega, by go_num, HK.out.1.grow (Nat.le_refl _) (HB4.out.trans (Below.mono H5.out.2.2.2 HB4.out.size))⟩
                      case measure => simp [intOf]; omega
                    · have hfr := HK.out.2.2.2.2
                      obtain ⟨fo1, fo2, fo3⟩ := found_ok HK.out.2.2.1 Nd (by rw [← hfr]; omega)
                      have hE0 : findE l a d held Nd = 0 := by unfold findE; rw [if_pos ⟨HK.out.2.2.1, by omega⟩, if_neg (by rw [← hfr]; omega)]
                      have hR0 : findR l a d held Nd = findP held d.toNat Nd := by unfold findR; rw [hE0, Int.toNat_natCast]; rfl
                      obtain ⟨f, hf⟩ : ∃ f, f = findP held d.toNat Nd := ⟨_, rfl⟩
                      rw [← hf] at fo1 fo2 fo3 hR0
                      have HE := hide (And.intro hE0 hR0)
                      have hf64 : f.length ≤ 64 := by have h1 := pos_len_le f (fun r hr => (fo1.2.1 r (by simp [hr])).2.2.1); omega
                      have HF := hide (And.intro fo1 (And.intro fo2 (And.intro (show freeN l a d (held ++ f) = (fr : Int) - (Nd : Int) by rw [freeN, if_pos fo1]; omega) (show freeE l a d (held ++ f) = 0 from if_pos fo1))))
                      clear hfr hE0 hR0 fo1 fo2 fo3 hf
                      refine Fre.wp_made (X := Blw) 13 [(103, FoundT W4.heap.size 0 (f)), (94, FoundT W4.heap.size 0 (f)), (104, FoundV W4.heap.size (f)), (18, FoundV W4.heap.size (f))] (by kernel_rfl) (by kernel_rfl) (by simp only [List.forall_mem_cons]; exact ⟨foundT_ok _ _ _, foundT_ok _ _ _, foundV_ok _ _, foundV_ok _ _, fun p hp => by cases hp⟩) (by simp) (by simp) ?_
                      simp only [List.take_succ_cons, List.take_zero, List.drop_succ_cons, List.drop_zero]
                      refine Fre.made_val (.agg #[.int .i64 l, .int .i64 a, .int .i64 d]) (by kernel_rfl) (by kernel_rfl) (by kernel_rfl) (fun W9 hW9 => exec_load_blk (o := ⟨some 95, _, _, _, _, _⟩) 64 (.tmp 3) rfl w.heap.size rfl 64 _ _ W9 (HSH.out W9 (H4.out.2.trans (Below.mono hW9 H4.out.2.size))) Try.underlying64 rfl (by kernel_rfl)) ?_
                      simp only [Act.put, List.setIfInBounds_toArray, List.set_cons_zero, List.set_cons_succ]
                      refine Fre.made_val (.slice (some ⟨b1, off1, none⟩) ls.length cA) (by kernel_rfl) (by kernel_rfl) (by kernel_rfl) (fun _ _ => by kernel_rfl) ?_
                      simp only [Act.put, List.setIfInBounds_toArray, List.set_cons_zero, List.set_cons_succ]
                      refine Fre.made_val (.int .i64 (i : Int)) (by kernel_rfl) (by kernel_rfl) (by kernel_rfl) (fun _ _ => by kernel_rfl) ?_
                      simp only [Act.put, List.setIfInBounds_toArray, List.set_cons_zero, List.set_cons_succ]
                      refine Fre.made_val (.pointer (some ⟨b1, off1 + (i : Int).toNat * 1, none⟩)) (by kernel_rfl) (by kernel_rfl) (by kernel_rfl) (fun W9 _ => exec_index_off (o := ⟨some 98, _, _, _, _, _⟩) 65 66 (.tmp 96) (.tmp 97) rfl b1 off1 ls.length cA (i : Int) .i64 rfl rfl ⟨i0, i1⟩ 1 Try.underlying65 (by kernel_rfl) W9) ?_
                      simp only [Act.put, List.setIfInBounds_toArray, List.set_cons_zero, List.set_cons_succ]
                      rw [show off1 + (i : Int).toNat * 1 = off1 + i by omega]
                      refine Fre.made_val (.slice Ab b.length cb) (by kernel_rfl) (by kernel_rfl) (by kernel_rfl) (fun W9 hW9 => exec_load_slice (o := ⟨some 99, _, _, _, _, _⟩) 66 5 (.tmp 98) rfl ⟨b1, off1 + i, none⟩ rfl _ W9 Try.underlying66 (HU.out W9 (H4.out.2.trans (Below.mono hW9 H4.out.2.size))).1) ?_
                      simp only [Act.put, List.setIfInBounds_toArray, List.set_cons_zero, List.set_cons_succ]
                      refine Fre.made_val (.int .i64 (b.length : Int)) (by kernel_rfl) (by kernel_rfl) (by kernel_rfl) (fun W9 hW9 => ?hs6) ?_
                      case hs6 =>
                        go_simp
                      simp only [Act.put, List.setIfInBounds_toArray, List.set_cons_zero, List.set_cons_succ]
                      refine Fre.made_call (.int .i64 (Nd : Int)) 34 #[.int .i64 (b.length : Int)] (by kernel_rfl) (by kernel_rfl) (by kernel_rfl) (fun W9 => by kernel_rfl) (fun W9 hW9 => (need_any (b.length : Int) (by omega) W9).mono fun e w' ⟨h1, h2⟩ => ⟨by rw [h1, HN.out], by rw [h2]; exact Fre.Ext.refl W9⟩) ?_
                      simp only [Act.put, List.setIfInBounds_toArray, List.set_cons_zero, List.set_cons_succ]
                      refine Fre.made_val (.slice Ah held.length ch) (by kernel_rfl) (by kernel_rfl) (by kernel_rfl) (fun _ _ => by kernel_rfl) ?_
                      simp only [Act.put, List.setIfInBounds_toArray, List.set_cons_zero, List.set_cons_succ]
                      refine Fre.made_newcall 103 _ 33 #[.agg #[.int .i64 l, .int .i64 a, .int .i64 d], .int .i64 (Nd : Int), .slice Ah held.length ch] (by kernel_rfl) (by kernel_rfl) rfl rfl (fun _ => by kernel_rfl) (fun W9 hW9 => ?hfind) ?_
                      case hfind =>
                        have hb9 : Below W4.heap.size W4 W9 := hW9
                        refine (lfind_any l a d HR.out.2.2 _ held (by omega) (Nd : Int) W9 (by have h := (H4.out.1.below hb9); obtain ⟨A', c', e, hm⟩ := h.m; rw [← e] at hm; exact hm)).mono ?_
                        rintro e w' ⟨o, h1, h2, h3⟩
                        rw [HE.out.1] at h1
                        rw [HE.out.2] at h2
                        exact ⟨_, h1, h3, o, rfl, ⟨owned_baseN h2.1 fun g hg => by have := (owned_ltN h2.1 hg).1; have := hb9.size; omega, h2.2⟩⟩
                      simp only [Act.put, List.setIfInBounds_toArray, List.set_cons_zero, List.set_cons_succ]
                      refine Fre.made_new1 103 _ 94 _ (by kernel_rfl) rfl (by kernel_rfl) rfl rfl (fun u W9 hW9 hu => ⟨u, W9, by kernel_rfl, Fre.Ext.refl W9, hu⟩) ?_
                      simp only [Act.put, List.setIfInBounds_toArray, List.set_cons_zero, List.set_cons_succ]
                      refine Fre.made_new1 94 _ 104 _ (by kernel_rfl) rfl (by kernel_rfl) rfl rfl (fun u W9 hW9 hu => by obtain ⟨o, rfl, ho⟩ := hu; exact ⟨o, W9, by kernel_rfl, Fre.Ext.refl W9, ho⟩) ?_
                      simp only [Act.put, List.setIfInBounds_toArray, List.set_cons_zero, List.set_cons_succ]
                      refine Fre.made_val1 94 _ (.int .i64 0) (by kernel_rfl) rfl (by kernel_rfl) (by kernel_rfl) (fun u W9 hW9 hu => by obtain ⟨o, rfl, ho⟩ := hu; kernel_rfl) ?_
                      simp only [Act.put, List.setIfInBounds_toArray, List.set_cons_zero, List.set_cons_succ]
                      refine Fre.made_new1 104 _ 18 _ (by kernel_rfl) rfl (by kernel_rfl) rfl rfl (fun u W9 hW9 hu => ⟨u, W9, by kernel_rfl, Fre.Ext.refl W9, hu⟩) ?_
                      simp only [Act.put, List.setIfInBounds_toArray, List.set_cons_zero, List.set_cons_succ]
                      show ∀ w', _ → _
                      intro W5 hb5
                      simp only [Fre.ended]
                      intro u103 _ u94 _ u104 _ u18 hu18
                      simp only [Act.put, List.setIfInBounds_toArray, List.set_cons_zero, List.set_cons_succ]
                      have hb5 : Below W4.heap.size W4 W5 := hb5
                      have H5 := hide (And.intro (show OwnRuns W4.heap.size W5 u18 _ from hu18) (And.intro (H4.out.1.below hb5) (And.intro (H4.out.2.trans (Below.mono hb5 H4.out.2.size)) hb5)))
                      clear hu18 hb5
                      have q1 : (Nd : Int) ≤ (fr : Int) := by omega
                      have hcu := (HU.out W5 H5.out.2.2.1).1
                      go_wp2_with fail
                      refine (need_any (b.length : Int) (by omega) _).mono ?_
                      rintro e W6 ⟨rfl, hw⟩
                      obtain rfl := hw.symm
                      clear hw
                      rw [HN.out]
                      clear hcu
                      dsimp only
                      go_wp2_with fail
                      have hWW5 : Below W.heap.size W W5 := HB4.out.trans (Below.mono H5.out.2.2.2 HB4.out.size)
                      have hw0W : w0.heap.size ≤ W.heap.size := HK.out.1.par.mine.bel.size
                      have HBW5 := hide (And.intro hWW5 hw0W)
                      have HSH5 := hide (fun (W9 : World) (hx : GrowG (Value.ownBlock (.slice Ah held.length ch)) W.heap.size (runCells (held ++ f)) (held.length * 2) W5 W9) => grow_blk (HSH.out W5 H5.out.2.2.1) (by have := H0.out.2; omega) hx.gr)
                      have HG := hide (fun (W9 : World) (hx : GrowG (Value.ownBlock (.slice Ah held.length ch)) W.heap.size (runCells (held ++ f)) (held.length * 2) W5 W9) => (⟨⟨own_first H5.out.2.1.1 (by rw [runCells_app, List.take_left' (runCells_len held)]) rfl hx.gr, H5.out.2.1.2⟩, H5.out.1.keep (fun k hk hl => hx.only k hl fun e => by have h1 := (owned_ltN H5.out.1.1 hk).1; have h2 := (owned_ltN H4.out.1.1 e.symm).2; omega), by have := hWW5.size; have := hx.gr.size; omega⟩ : OwnRuns W.heap.size W9 (.slice Ah held.length ch) held ∧ OwnRuns W4.heap.size W9 u18 f ∧ W.heap.size ≤ W9.heap.size))
                      clear hWW5 hw0W
                      let V135 : Value → World → Prop := fun u w' => OwnRuns W.heap.size w' u (held ++ f)
                      have hL : ∀ p ∈ ([(135, V135)] : Fre.MadeL), Fre.MadeOk (GrowG (Value.ownBlock (.slice Ah held.length ch)) W.heap.size (runCells (held ++ f)) (held.length * 2)) p.2 := by
                        intro p hp
                        obtain rfl := List.mem_singleton.1 hp
                        refine ⟨fun u W1 W2 hu hx => ⟨?_, hu.2⟩⟩
                        have hx2 : GrowG (Value.ownBlock (.slice Ah held.length ch)) W.heap.size (runCells (held ++ f)) (held.length * 2) W1 W2 := hx
                        have hu1 : W1.ownsRow W.heap.size 88 2 u (held ++ f).length (runCells (held ++ f)) := hu.1
                        exact own_last hu1 hx2.gr
                      refine Fre.wp_made (X := GrowG (Value.ownBlock (.slice Ah held.length ch)) W.heap.size (runCells (held ++ f)) (held.length * 2)) 9 [(135, V135)] (by kernel_rfl) (by kernel_rfl) hL (by simp) (by simp) ?_
                      simp only [List.take_succ_cons, List.take_zero, List.drop_succ_cons, List.drop_zero]
                      refine Fre.made_val (.agg #[.int .i64 l, .int .i64 a, .int .i64 d]) (by kernel_rfl) (by kernel_rfl) (by kernel_rfl) (fun W9 hW9 => exec_load_blk (o := ⟨some 132, _, _, _, _, _⟩) 64 (.tmp 3) rfl w.heap.size rfl 64 _ _ W9 (HSH5.out W9 (by have hx : GrowG (Value.ownBlock (.slice Ah held.length ch)) W.heap.size (runCells (held ++ f)) (held.length * 2) W5 W9 := hW9; exact hx)) Try.underlying64 rfl (by kernel_rfl)) ?_
                      simp only [Act.put, List.setIfInBounds_toArray, List.set_cons_zero, List.set_cons_succ]
                      refine Fre.made_val (.slice Ah held.length ch) (by kernel_rfl) (by kernel_rfl) (by kernel_rfl) (fun _ _ => by kernel_rfl) ?_
                      simp only [Act.put, List.setIfInBounds_toArray, List.set_cons_zero, List.set_cons_succ]
                      refine Fre.made_val (u18) (by kernel_rfl) (by kernel_rfl) (by kernel_rfl) (fun _ _ => by kernel_rfl) ?_
                      simp only [Act.put, List.setIfInBounds_toArray, List.set_cons_zero, List.set_cons_succ]
                      refine Fre.made_new 135 V135 (by kernel_rfl) (by kernel_rfl) rfl rfl (fun W9 hW9 => ?happ) ?_
                      case happ =>
                        have hx9 : GrowG (Value.ownBlock (.slice Ah held.length ch)) W.heap.size (runCells (held ++ f)) (held.length * 2) W5 W9 := hW9
                        obtain ⟨v', w', r1, r2, r3⟩ := app_held (B := W.heap.size) (HG.out W9 hx9).1 (HG.out W9 hx9).2.2 (HG.out W9 hx9).2.1 (by omega)
                        exact ⟨v', w', exec_append (o := ⟨some 135, _, _, _, _, _⟩) (.tmp 133) (.tmp 134) 73 rfl _ _ _ _ _ rfl rfl r1, r2, r3⟩
                      simp only [Act.put, List.setIfInBounds_toArray, List.set_cons_zero, List.set_cons_succ]
                      refine Fre.made_call1 135 V135 (.tuple #[.int .i64 ((fr : Int) - (Nd : Int)), .int .i64 0]) 32 (fun u => #[.agg #[.int .i64 l, .int .i64 a, .int .i64 d], u]) (by kernel_rfl) rfl (by kernel_rfl) (by kernel_rfl) (fun u W9 => by kernel_rfl) (fun u W9 hW9 hu => ?hfree) ?_
                      case hfree =>
                        have hu2 : OwnRuns W.heap.size W9 u (held ++ f) := hu
                        obtain ⟨A', c', rfl, hm'⟩ := hu2.m
                        refine (lfree_any l a d HR.out.2.2 _ (held ++ f) (by rw [List.length_append]; omega) W9 hm').mono ?_
                        rintro e w' ⟨rfl, h2⟩
                        rw [HF.out.2.2.1, HF.out.2.2.2]
                        exact ⟨rfl, GrowG.of_below h2⟩
                      simp only [Act.put, List.setIfInBounds_toArray, List.set_cons_zero, List.set_cons_succ]
                      refine Fre.made_val (.tuple #[.int .i64 ((fr : Int) - (Nd : Int)), .int .i64 0]) (by kernel_rfl) (by kernel_rfl) (by kernel_rfl) (fun _ _ => by kernel_rfl) ?_
                      simp only [Act.put, List.setIfInBounds_toArray, List.set_cons_zero, List.set_cons_succ]
                      refine Fre.made_val (.int .i64 ((fr : Int) - (Nd : Int))) (by kernel_rfl) (by kernel_rfl) (by kernel_rfl) (fun _ _ => by kernel_rfl) ?_
                      simp only [Act.put, List.setIfInBounds_toArray, List.set_cons_zero, List.set_cons_succ]
                      refine Fre.made_val (.int .i64 0) (by kernel_rfl) (by kernel_rfl) (by kernel_rfl) (fun _ _ => by kernel_rfl) ?_
                      simp only [Act.put, List.setIfInBounds_toArray, List.set_cons_zero, List.set_cons_succ]
                      refine Fre.made_val (.int .i64 ((fr : Int) - (Nd : Int))) (by kernel_rfl) (by kernel_rfl) (by kernel_rfl) (fun _ _ => by kernel_rfl) ?_
                      simp only [Act.put, List.setIfInBounds_toArray, List.set_cons_zero, List.set_cons_succ]
                      show ∀ w', _ → _
                      intro W6 hx6
                      simp only [Fre.ended]
                      intro u135 _
                      simp only [Act.put, List.setIfInBounds_toArray, List.set_cons_zero, List.set_cons_succ]
                      have hx6 : GrowG (Value.ownBlock (.slice Ah held.length ch)) W.heap.size (runCells (held ++ f)) (held.length * 2) W5 W6 := hx6
                      have hb6 := hx6.gr.belowB HBW5.out.1.size
                      have H6 := hide (And.intro (H5.out.2.2.1.trans (Below.mono hb6 HBW5.out.2)) (And.intro (HBW5.out.1.trans hb6) (HG.out W6 hx6).2.1))
                      obtain ⟨A18, c18, rfl, hm18⟩ := H6.out.2.2.m
                      clear hm18 hb6 hx6
                      go_wp2_with fail
                      refine Fre.wp_made (X := Blw) 22 [] (by kernel_rfl) (by kernel_rfl) (by simp) (by simp) (by simp) ?_
                      simp only [List.take_succ_cons, List.take_zero, List.drop_succ_cons, List.drop_zero]
                      refine Fre.made_val (.int .i64 0) (by kernel_rfl) (by kernel_rfl) (by kernel_rfl) (fun _ _ => by kernel_rfl) ?_
                      simp only [Act.put, List.setIfInBounds_toArray, List.set_cons_zero, List.set_cons_succ]
                      refine Fre.made_val (.bool false) (by kernel_rfl) (by kernel_rfl) (by kernel_rfl) (fun _ _ => by kernel_rfl) ?_
                      simp only [Act.put, List.setIfInBounds_toArray, List.set_cons_zero, List.set_cons_succ]
                      refine Fre.made_val (.bool false) (by kernel_rfl) (by kernel_rfl) (by kernel_rfl) (fun _ _ => by kernel_rfl) ?_
                      simp only [Act.put, List.setIfInBounds_toArray, List.set_cons_zero, List.set_cons_succ]
                      refine Fre.made_val (.int .i64 ((fr : Int) - (Nd : Int))) (by kernel_rfl) (by kernel_rfl) (by kernel_rfl) (fun _ _ => by kernel_rfl) ?_
                      simp only [Act.put, List.setIfInBounds_toArray, List.set_cons_zero, List.set_cons_succ]
                      refine Fre.made_val (.int .i64 (fr : Int)) (by kernel_rfl) (by kernel_rfl) (by kernel_rfl) (fun _ _ => by kernel_rfl) ?_
                      simp only [Act.put, List.setIfInBounds_toArray, List.set_cons_zero, List.set_cons_succ]
                      refine Fre.made_val (.slice (some ⟨b1, off1, none⟩) ls.length cA) (by kernel_rfl) (by kernel_rfl) (by kernel_rfl) (fun _ _ => by kernel_rfl) ?_
                      simp only [Act.put, List.setIfInBounds_toArray, List.set_cons_zero, List.set_cons_succ]
                      refine Fre.made_val (.int .i64 (i : Int)) (by kernel_rfl) (by kernel_rfl) (by kernel_rfl) (fun _ _ => by kernel_rfl) ?_
                      simp only [Act.put, List.setIfInBounds_toArray, List.set_cons_zero, List.set_cons_succ]
                      refine Fre.made_val (.pointer (some ⟨b1, off1 + (i : Int).toNat * 1, none⟩)) (by kernel_rfl) (by kernel_rfl) (by kernel_rfl) (fun W9 _ => exec_index_off (o := ⟨some 146, _, _, _, _, _⟩) 65 66 (.tmp 144) (.tmp 145) rfl b1 off1 ls.length cA (i : Int) .i64 rfl rfl ⟨i0, i1⟩ 1 Try.underlying65 (by kernel_rfl) W9) ?_
                      simp only [Act.put, List.setIfInBounds_toArray, List.set_cons_zero, List.set_cons_succ]
                      rw [show off1 + (i : Int).toNat * 1 = off1 + i by omega]
                      refine Fre.made_val (.slice Ab b.length cb) (by kernel_rfl) (by kernel_rfl) (by kernel_rfl) (fun W9 hW9 => exec_load_slice (o := ⟨some 147, _, _, _, _, _⟩) 66 5 (.tmp 146) rfl ⟨b1, off1 + i, none⟩ rfl _ W9 Try.underlying66 (HU.out W9 (H6.out.1.trans (Below.mono hW9 H6.out.1.size))).1) ?_
                      simp only [Act.put, List.setIfInBounds_toArray, List.set_cons_zero, List.set_cons_succ]
                      refine Fre.made_val (.int .i64 (b.length : Int)) (by kernel_rfl) (by kernel_rfl) (by kernel_rfl) (fun W9 hW9 => ?hs7) ?_
                      case hs7 =>
                        go_simp
                      simp only [Act.put, List.setIfInBounds_toArray, List.set_cons_zero, List.set_cons_succ]
                      refine Fre.made_call (.int .i64 (Nd : Int)) 34 #[.int .i64 (b.length : Int)] (by kernel_rfl) (by kernel_rfl) (by kernel_rfl) (fun W9 => by kernel_rfl) (fun W9 hW9 => (need_any (b.length : Int) (by omega) W9).mono fun e w' ⟨h1, h2⟩ => ⟨by rw [h1, HN.out], by rw [h2]; exact Fre.Ext.refl W9⟩) ?_
                      simp only [Act.put, List.setIfInBounds_toArray, List.set_cons_zero, List.set_cons_succ]
                      refine Fre.made_val (.int .i64 ((fr : Int) - (Nd : Int))) (by kernel_rfl) (by kernel_rfl) (by kernel_rfl) (fun W9 hW9 => ?hs8) ?_
                      case hs8 =>
                        go_simp
                        exact wrapI6 ((fr : Int) - (Nd : Int)) (by omega)
                      simp only [Act.put, List.setIfInBounds_toArray, List.set_cons_zero, List.set_cons_succ]
                      refine Fre.made_val (.bool false) (by kernel_rfl) (by kernel_rfl) (by kernel_rfl) (fun W9 hW9 => ?hs9) ?_
                      case hs9 =>
                        go_simp
                      simp only [Act.put, List.setIfInBounds_toArray, List.set_cons_zero, List.set_cons_succ]
                      refine Fre.made_val (.bool false) (by kernel_rfl) (by kernel_rfl) (by kernel_rfl) (fun _ _ => by kernel_rfl) ?_
                      simp only [Act.put, List.setIfInBounds_toArray, List.set_cons_zero, List.set_cons_succ]
                      refine Fre.made_val (.bool false) (by kernel_rfl) (by kernel_rfl) (by kernel_rfl) (fun _ _ => by kernel_rfl) ?_
                      simp only [Act.put, List.setIfInBounds_toArray, List.set_cons_zero, List.set_cons_succ]
                      refine Fre.made_val (.pointer (some ⟨q, 0, none⟩)) (by kernel_rfl) (by kernel_rfl) (by kernel_rfl) (fun _ _ => by kernel_rfl) ?_
                      simp only [Act.put, List.setIfInBounds_toArray, List.set_cons_zero, List.set_cons_succ]
                      refine Fre.made_val (.agg #[.int .i64 l, .int .i64 a, .int .i64 d]) (by kernel_rfl) (by kernel_rfl) (by kernel_rfl) (fun W9 hW9 => exec_load_blk (o := ⟨some 155, _, _, _, _, _⟩) 64 (.tmp 3) rfl w.heap.size rfl 64 _ _ W9 (HSH.out W9 (H6.out.1.trans (Below.mono hW9 H6.out.1.size))) Try.underlying64 rfl (by kernel_rfl)) ?_
                      simp only [Act.put, List.setIfInBounds_toArray, List.set_cons_zero, List.set_cons_succ]
                      refine Fre.made_val (.slice (some ⟨b1, off1, none⟩) ls.length cA) (by kernel_rfl) (by kernel_rfl) (by kernel_rfl) (fun _ _ => by kernel_rfl) ?_
                      simp only [Act.put, List.setIfInBounds_toArray, List.set_cons_zero, List.set_cons_succ]
                      refine Fre.made_val (.int .i64 (i : Int)) (by kernel_rfl) (by kernel_rfl) (by kernel_rfl) (fun _ _ => by kernel_rfl) ?_
                      simp only [Act.put, List.setIfInBounds_toArray, List.set_cons_zero, List.set_cons_succ]
                      refine Fre.made_val (.pointer (some ⟨b1, off1 + (i : Int).toNat * 1, none⟩)) (by kernel_rfl) (by kernel_rfl) (by kernel_rfl) (fun W9 _ => exec_index_off (o := ⟨some 158, _, _, _, _, _⟩) 65 66 (.tmp 156) (.tmp 157) rfl b1 off1 ls.length cA (i : Int) .i64 rfl rfl ⟨i0, i1⟩ 1 Try.underlying65 (by kernel_rfl) W9) ?_
                      simp only [Act.put, List.setIfInBounds_toArray, List.set_cons_zero, List.set_cons_succ]
                      rw [show off1 + (i : Int).toNat * 1 = off1 + i by omega]
                      refine Fre.made_val (.slice Ab b.length cb) (by kernel_rfl) (by kernel_rfl) (by kernel_rfl) (fun W9 hW9 => exec_load_slice (o := ⟨some 159, _, _, _, _, _⟩) 66 5 (.tmp 158) rfl ⟨b1, off1 + i, none⟩ rfl _ W9 Try.underlying66 (HU.out W9 (H6.out.1.trans (Below.mono hW9 H6.out.1.size))).1) ?_
                      simp only [Act.put, List.setIfInBounds_toArray, List.set_cons_zero, List.set_cons_succ]
                      refine Fre.made_val (.slice A18 f.length c18) (by kernel_rfl) (by kernel_rfl) (by kernel_rfl) (fun _ _ => by kernel_rfl) ?_
                      simp only [Act.put, List.setIfInBounds_toArray, List.set_cons_zero, List.set_cons_succ]
                      show ∀ w', _ → _
                      intro W7 hb7
                      simp only [Fre.ended]
                      have hb7 : Below W6.heap.size W6 W7 := hb7
                      have H7 := hide (And.intro (H6.out.1.trans (Below.mono hb7 H6.out.1.size)) (And.intro (H6.out.2.1.trans (Below.mono hb7 H6.out.2.1.size)) (OwnRuns.below H6.out.2.2 hb7)))
                      clear hb7
                      have HK7 := hide (HK.out.1.grow (Nat.le_refl _) H7.out.2.1)
                      go_wp2_with fail
                      refine (bwrite_any l a d HR.out.2.2 b (by omega) Ab cb HBY.out.2.1 A18 c18 f (by omega) W7 HK7.out.par.mine.dev (by have := HK.out.2.1; omega) (by rw [HK7.out.law.pend]; simp) (by obtain ⟨A', c', e, h⟩ := H7.out.2.2.m; rw [e]; exact h) (fun ad had h0 => ?hsep) (bv_src (HU.out W7 H7.out.1).2 HBY.out.1) (fun ad had h0 hF => ?hsb)).mono ?_
                      case hsep =>
                        obtain ⟨cs, hb⟩ := runs_own_blk H7.out.2.2 (k := ad.block) (by rw [had]; rfl)
                        exact HK7.out.par.mine.dev.not hb (by decide) (by decide) (by decide)
                      case hsb =>
                        obtain ⟨A', c', e, _, hA'⟩ := (HU.out W7 H7.out.1).2
                        injection e with e _ _
                        obtain ⟨b', off', e', hlt', _⟩ := hA' h0
                        rw [e, e'] at had
                        injection had with had
                        subst had
                        have h7 : w0.heap.size ≤ b' := HK7.out.par.mine.low _ hF
                        have h8 := H0.out.2
                        omega
                      rintro e W8 ⟨rfl, hleft⟩
                      obtain ⟨hp1, hp2, hp3⟩ := HK.out.1.law.put b f (by have h := HF.out.1; rw [HHE.out] at h; exact h) (by rw [HF.out.2.1, HN.out])
                      rw [hp1]
                      obtain ⟨F8, hP8⟩ := (HK7.out.par.more (⟨owned_baseN H7.out.2.2.1 (fun g hg => by have := (owned_ltN H7.out.2.2.1 hg).1; have := H4.out.2.size; omega), H7.out.2.2.2⟩ : OwnRuns w0.heap.size W7 _ f)).left (Nat.le_refl _) hleft
                      obtain ⟨D8, hD8⟩ : ∃ D8, D8 = (D.put l a d b f).2 := ⟨_, rfl⟩
                      rw [← hD8] at hp2 hp3 hP8
                      have hde8 : D8.de ≤ 100 * ((i : Int) + 1) := by rw [hp3, HF.out.2.1]; have := HK.out.2.1; omega
                      have hB8 : Below w0.heap.size w0 W8 := hP8.mine.bel
                      obtain ⟨v31, W9, r31, hP9⟩ := hP8.pushRow (Nat.le_refl _) (by have := HK.out.2.2.2.1; omega) (.slice Ab b.length cb) rfl
                      obtain ⟨v32, W10, r32, hP10⟩ := hP9.pushRuns (Nat.le_refl _) (by have := HK.out.2.2.2.1; omega) (.slice A18 f.length c18) rfl
                      have hK10 := HK7.out.added (u2 := .slice A18 f.length c18) (⟨Ab, cb, rfl, bytes_widen (HU.out w0 (Below.refl _ _)).2 H0.out.1.size, HBY.out.1⟩ : ByArg w0 w0.heap.size (.slice Ab b.length cb) b) hP10 hp2
                      obtain ⟨A31, c31, rfl⟩ := hP9.rows.slice
                      obtain ⟨A32, c32, rfl⟩ := hP10.runs.slice
                      have HAA := hide (And.intro r31 r32)
                      have HK10 := hide (And.intro hK10 (And.intro hde8 hB8))
                      have hcu := (HU.out W8 hB8).1
                      clear r31 r32 hP8 hP9 hP10 hp1 hp2 hp3 hK10 hde8 hB8 hleft hD8
                      have st1 : (st.length : Int) ≤ 60 := by have := HK.out.2.2.2.1; omega
                      have st0 : (0 : Int) ≤ (st.length : Int) := by omega
                      have st2 : (0 : Int) < (st.length : Int) + 1 := by omega
                      have st3 : (0 : Int) < ((st.length + 1 : Nat) : Int) := by omega
                      dsimp only
                      by_cases hz : i < zs.length
                      · have z1 : (i : Int) < (zs.length : Int) := by omega
                        obtain ⟨z, hzz⟩ : ∃ z, zs[i]? = some z := ⟨_, List.getElem?_eq_getElem hz⟩
                        have hzb := HARG.out.2.2 z (List.mem_of_getElem? hzz)
                        obtain ⟨b2, off2, rfl, hlt2, hcs2⟩ := HARG.out.2.1 (by omega)
                        have hcz := ((H0.out.1.trans (Below.mono HK10.out.1.par.mine.bel (by have := H0.out.2; omega))).cell (p := ⟨b2, off2 + i, none⟩) hlt2).trans (hcs2 i z hzz)
                        clear hcs2 hzz
                        by_cases hz3 : z.tmod 3 = 0
                        · go_wp2_with (first | (at_builtin; refine wpList_value (o := ⟨some 170, _, _, _, _, _⟩) rfl (.slice A31 (st.length + 1) c31) W9 (exec_append (o := ⟨some 170, _, _, _, _, _⟩) (.tmp 164) (.tmp 169) 65 rfl _ _ _ _ _ rfl rfl HAA.out.1) ?_) | (at_builtin; refine wpList_value (o := ⟨some 174, _, _, _, _, _⟩) rfl (.slice A32 (st.length + 1) c32) W10 (exec_append (o := ⟨some 174, _, _, _, _, _⟩) (.tmp 171) (.tmp 173) 72 rfl _ _ _ _ _ rfl rfl HAA.out.2) ?_))
                          refine (pick_any z ((st.length : Int) + 1) _ (by omega) (by omega) hzb).mono ?_
                          rintro e W10b ⟨rfl, hw⟩
                          obtain rfl := hw
                          obtain ⟨kn, hkn, hkn2⟩ : ∃ kn : Nat, z % ((st.length : Int) + 1) = (kn : Int) ∧ kn < st.length + 1 := ⟨(z % ((st.length : Int) + 1)).toNat, by have := Int.emod_nonneg z (show ((st.length : Int) + 1) ≠ 0 by omega); omega, by have := Int.emod_lt_of_pos z (show 0 < (st.length : Int) + 1 by omega); have := Int.emod_nonneg z (show ((st.length : Int) + 1) ≠ 0 by omega); omega⟩
                          rw [hkn]
                          clear hcz
                          dsimp only
                          go_wp2_with fail
                          obtain ⟨g31, rfl, hc31⟩ : ∃ g, A31 = some ⟨g, 0, none⟩ ∧ st.length + 1 ≤ c31 := by
                            rcases HK10.out.1.par.rows.form with ⟨h, _⟩ | ⟨g, cap, cs, h, _, _, h2, _⟩
                            · injection h with _ h _; omega
                            · injection h with h1 h3 h4; exact ⟨g, h1, by simp at h2; omega⟩
                          obtain ⟨g32, rfl, hc32⟩ : ∃ g, A32 = some ⟨g, 0, none⟩ ∧ st.length + 1 ≤ c32 := by
                            rcases HK10.out.1.par.runs.form with ⟨h, _⟩ | ⟨g, cap, cs, h, _, _, h2, _⟩
                            · injection h with _ h _; omega
                            · injection h with h1 h3 h4; exact ⟨g, h1, by simp at h2; omega⟩
                          have HPR := hide (show Cut W10 w0.heap.size 66 (.slice (some ⟨g31, 0, none⟩) (st.length + 1) c31) (st.length + 1) ((us ++ [(Value.slice Ab b.length cb, Value.slice A18 f.length c18)]).map (·.1)) from by have h := HK10.out.1.par.rows; rw [show (st ++ [(b, f)]).length = st.length + 1 by simp] at h; exact h)
                          have HPU := hide (show Cut W10 w0.heap.size 73 (.slice (some ⟨g32, 0, none⟩) (st.length + 1) c32) (st.length + 1) ((us ++ [(Value.slice Ab b.length cb, Value.slice A18 f.length c18)]).map (·.2)) from by have h := HK10.out.1.par.runs; rw [show (st ++ [(b, f)]).length = st.length + 1 by simp] at h; exact h)
                          obtain ⟨ax199, hax199⟩ : ∃ ax : Option Addr, ax = if c31 = kn + 1 then some ⟨g31, 0, none⟩ else (some (⟨g31, 0, none⟩ : Addr)).map (·.add (kn + 1)) := ⟨_, rfl⟩
                          have HX199 := hide hax199
                          clear hax199
                          refine Fre.wp_made (X := Blw) 9 [(207, CutV w0.heap.size 66 (st.length + 1 - 1) (((us ++ [(Value.slice Ab b.length cb, Value.slice A18 f.length c18)]).map (·.1)).eraseIdx kn))] (by kernel_rfl) (by kernel_rfl) (by simp only [List.forall_mem_cons]; exact ⟨cutV_ok _ _ _ _, fun p hp => by cases hp⟩) (by simp) (by simp) ?_
                          simp only [List.take_succ_cons, List.take_zero, List.drop_succ_cons, List.drop_zero]
                          refine Fre.made_val (.slice (some ⟨g31, 0, none⟩) (st.length + 1) c31) (by kernel_rfl) (by kernel_rfl) (by kernel_rfl) (fun _ _ => by kernel_rfl) ?_
                          simp only [Act.put, List.setIfInBounds_toArray, List.set_cons_zero, List.set_cons_succ]
                          refine Fre.made_val (.int .i64 (kn : Int)) (by kernel_rfl) (by kernel_rfl) (by kernel_rfl) (fun _ _ => by kernel_rfl) ?_
                          simp only [Act.put, List.setIfInBounds_toArray, List.set_cons_zero, List.set_cons_succ]
                          refine Fre.made_val (.int .i64 (kn : Int)) (by kernel_rfl) (by kernel_rfl) (by kernel_rfl) (fun _ _ => by kernel_rfl) ?_
                          simp only [Act.put, List.setIfInBounds_toArray, List.set_cons_zero, List.set_cons_succ]
                          refine Fre.made_val (.slice (some ⟨g31, 0, none⟩) kn kn) (by kernel_rfl) (by kernel_rfl) (by kernel_rfl) (fun W9 _ => exec_slice (o := ⟨some 202, _, _, _, _, _⟩) 65 (.tmp 199) none (some (.tmp 200)) (some (.tmp 201)) rfl (.slice (some ⟨g31, 0, none⟩) kn kn) (fun W9 => run_slice3 65 66 Try.underlying65 (by kernel_rfl) (some ⟨g31, 0, none⟩) (st.length + 1) c31 kn (by omega) W9) W9) ?_
                          simp only [Act.put, List.setIfInBounds_toArray, List.set_cons_zero, List.set_cons_succ]
                          refine Fre.made_val (.slice (some ⟨g31, 0, none⟩) (st.length + 1) c31) (by kernel_rfl) (by kernel_rfl) (by kernel_rfl) (fun _ _ => by kernel_rfl) ?_
                          simp only [Act.put, List.setIfInBounds_toArray, List.set_cons_zero, List.set_cons_succ]
                          refine Fre.made_val (.int .i64 (kn : Int)) (by kernel_rfl) (by kernel_rfl) (by kernel_rfl) (fun _ _ => by kernel_rfl) ?_
                          simp only [Act.put, List.setIfInBounds_toArray, List.set_cons_zero, List.set_cons_succ]
                          refine Fre.made_val (.int .i64 ((kn + 1 : Nat) : Int)) (by kernel_rfl) (by kernel_rfl) (by kernel_rfl) (fun W9 hW9 => ?hs2) ?_
                          case hs2 =>
                            go_simp
                            exact wrapI6 ((kn : Int) + 1) (by omega)
                          simp only [Act.put, List.setIfInBounds_toArray, List.set_cons_zero, List.set_cons_succ]
                          refine Fre.made_val (.slice ax199 (st.length + 1 - (kn + 1)) (c31 - (kn + 1))) (by kernel_rfl) (by kernel_rfl) (by kernel_rfl) (fun W9 _ => exec_slice (o := ⟨some 206, _, _, _, _, _⟩) 65 (.tmp 203) (some (.tmp 205)) none none rfl _ (fun W9 => by rw [HX199.out]; exact run_sliceAt_from 65 66 Try.underlying65 (by kernel_rfl) (some ⟨g31, 0, none⟩) (st.length + 1) c31 (kn + 1) (by omega) W9) W9) ?_
                          simp only [Act.put, List.setIfInBounds_toArray, List.set_cons_zero, List.set_cons_succ]
                          refine Fre.made_new 207 _ (by kernel_rfl) (by kernel_rfl) rfl rfl (fun W9 hW9 => ?hdel3) ?_
                          case hdel3 =>
                            have hb9 : Below W10.heap.size W10 W9 := hW9
                            have hcut := (HPR.out).keep (w' := W9) fun k _ hl => hb9.block k hl
                            obtain ⟨v', w', r1, r2, r3⟩ := hcut.del (t := 65) (ty := 65) Try.underlying65 info_sb (k := kn) (by omega) (by omega) (A := ax199) (c2 := c31 - (kn + 1)) (fun h => by rw [HX199.out, if_neg (by omega), Option.map_some, Addr.add_mid, Nat.zero_add]) (by rw [HX199.out]; split <;> simp)
                            exact ⟨v', w', exec_append (o := ⟨some 207, _, _, _, _, _⟩) (.tmp 202) (.tmp 206) 65 rfl _ _ _ _ _ rfl rfl r1, (Below.refl _ W9).grown r3 (Nat.le_refl _) (fun k hk => by cases hk), r2⟩
                          simp only [Act.put, List.setIfInBounds_toArray, List.set_cons_zero, List.set_cons_succ]
                          show ∀ w', _ → _
                          intro W11 hb11
                          simp only [Fre.ended]
                          intro u207 hu207
                          simp only [Act.put, List.setIfInBounds_toArray, List.set_cons_zero, List.set_cons_succ]
                          have hb11 : Below W10.heap.size W10 W11 := hb11
                          have H11 := hide (And.intro (show Cut W11 w0.heap.size 66 u207 (st.length + 1 - 1) _ from hu207) hb11)
                          clear hu207
                          have HPU11 := hide (HPU.out.keep (w' := W11) fun k _ hl => hb11.block k hl)
                          clear hb11
                          go_wp2_with fail
                          obtain ⟨ax208, hax208⟩ : ∃ ax : Option Addr, ax = if c32 = kn + 1 then some ⟨g32, 0, none⟩ else (some (⟨g32, 0, none⟩ : Addr)).map (·.add (kn + 1)) := ⟨_, rfl⟩
                          have HX208 := hide hax208
                          clear hax208
                          refine Fre.wp_made (X := Blw) 9 [(216, CutV w0.heap.size 73 (st.length + 1 - 1) (((us ++ [(Value.slice Ab b.length cb, Value.slice A18 f.length c18)]).map (·.2)).eraseIdx kn))] (by kernel_rfl) (by kernel_rfl) (by simp only [List.forall_mem_cons]; exact ⟨cutV_ok _ _ _ _, fun p hp => by cases hp⟩) (by simp) (by simp) ?_
                          simp only [List.take_succ_cons, List.take_zero, List.drop_succ_cons, List.drop_zero]
                          refine Fre.made_val (.slice (some ⟨g32, 0, none⟩) (st.length + 1) c32) (by kernel_rfl) (by kernel_rfl) (by kernel_rfl) (fun _ _ => by kernel_rfl) ?_
                          simp only [Act.put, List.setIfInBounds_toArray, List.set_cons_zero, List.set_cons_succ]
                          refine Fre.made_val (.int .i64 (kn : Int)) (by kernel_rfl) (by kernel_rfl) (by kernel_rfl) (fun _ _ => by kernel_rfl) ?_
                          simp only [Act.put, List.setIfInBounds_toArray, List.set_cons_zero, List.set_cons_succ]
                          refine Fre.made_val (.int .i64 (kn : Int)) (by kernel_rfl) (by kernel_rfl) (by kernel_rfl) (fun _ _ => by kernel_rfl) ?_
                          simp only [Act.put, List.setIfInBounds_toArray, List.set_cons_zero, List.set_cons_succ]
                          refine Fre.made_val (.slice (some ⟨g32, 0, none⟩) kn kn) (by kernel_rfl) (by kernel_rfl) (by kernel_rfl) (fun W9 _ => exec_slice (o := ⟨some 211, _, _, _, _, _⟩) 72 (.tmp 208) none (some (.tmp 209)) (some (.tmp 210)) rfl (.slice (some ⟨g32, 0, none⟩) kn kn) (fun W9 => run_slice3 72 73 Try.underlying72 (by kernel_rfl) (some ⟨g32, 0, none⟩) (st.length + 1) c32 kn (by omega) W9) W9) ?_
                          simp only [Act.put, List.setIfInBounds_toArray, List.set_cons_zero, List.set_cons_succ]
                          refine Fre.made_val (.slice (some ⟨g32, 0, none⟩) (st.length + 1) c32) (by kernel_rfl) (by kernel_rfl) (by kernel_rfl) (fun _ _ => by kernel_rfl) ?_
                          simp only [Act.put, List.setIfInBounds_toArray, List.set_cons_zero, List.set_cons_succ]
                          refine Fre.made_val (.int .i64 (kn : Int)) (by kernel_rfl) (by kernel_rfl) (by kernel_rfl) (fun _ _ => by kernel_rfl) ?_
                          simp only [Act.put, List.setIfInBounds_toArray, List.set_cons_zero, List.set_cons_succ]
                          refine Fre.made_val (.int .i64 ((kn + 1 : Nat) : Int)) (by kernel_rfl) (by kernel_rfl) (by kernel_rfl) (fun W9 hW9 => ?hs4) ?_
                          case hs4 =>
                            go_simp
                            exact wrapI6 ((kn : Int) + 1) (by omega)
                          simp only [Act.put, List.setIfInBounds_toArray, List.set_cons_zero, List.set_cons_succ]
                          refine Fre.made_val (.slice ax208 (st.length + 1 - (kn + 1)) (c32 - (kn + 1))) (by kernel_rfl) (by kernel_rfl) (by kernel_rfl) (fun W9 _ => exec_slice (o := ⟨some 215, _, _, _, _, _⟩) 72 (.tmp 212) (some (.tmp 214)) none none rfl _ (fun W9 => by rw [HX208.out]; exact run_sliceAt_from 72 73 Try.underlying72 (by kernel_rfl) (some ⟨g32, 0, none⟩) (st.length + 1) c32 (kn + 1) (by omega) W9) W9) ?_
                          simp only [Act.put, List.setIfInBounds_toArray, List.set_cons_zero, List.set_cons_succ]
                          refine Fre.made_new 216 _ (by kernel_rfl) (by kernel_rfl) rfl rfl (fun W9 hW9 => ?hdel5) ?_
                          case hdel5 =>
                            have hb9 : Below W11.heap.size W11 W9 := hW9
                            have hcut := (HPU11.out).keep (w' := W9) fun k _ hl => hb9.block k hl
                            obtain ⟨v', w', r1, r2, r3⟩ := hcut.del (t := 72) (ty := 72) Try.underlying72 info_sr (k := kn) (by omega) (by omega) (A := ax208) (c2 := c32 - (kn + 1)) (fun h => by rw [HX208.out, if_neg (by omega), Option.map_some, Addr.add_mid, Nat.zero_add]) (by rw [HX208.out]; split <;> simp)
                            exact ⟨v', w', exec_append (o := ⟨some 216, _, _, _, _, _⟩) (.tmp 211) (.tmp 215) 72 rfl _ _ _ _ _ rfl rfl r1, (Below.refl _ W9).grown r3 (Nat.le_refl _) (fun k hk => by cases hk), r2⟩
                          simp only [Act.put, List.setIfInBounds_toArray, List.set_cons_zero, List.set_cons_succ]
                          show ∀ w', _ → _
                          intro W12 hb12
                          simp only [Fre.ended]
                          intro u216 hu216
                          simp only [Act.put, List.setIfInBounds_toArray, List.set_cons_zero, List.set_cons_succ]
                          have hb12 : Below W11.heap.size W11 W12 := hb12
                          have hu216 : Cut W12 w0.heap.size 73 u216 (st.length + 1 - 1) _ := hu216
                          have hW12 : Below W10.heap.size W10 W12 := H11.out.2.trans (Below.mono hb12 H11.out.2.size)
                          have hP12 := HK10.out.1.par.grow (Nat.le_refl _) hW12
                          have hrow := H11.out.1.keep (w' := W12) fun k _ hl => hb12.block k hl
                          have hK12 := HK10.out.1.struck (k := kn) (by simp; omega) (w' := W12) (vR' := u207) (vU' := u216) (xs := _) (ys := _) ⟨hP12.mine, by rw [show (st ++ [(b, f)]).length - 1 = st.length + 1 - 1 by simp]; exact hrow, by rw [show (st ++ [(b, f)]).length - 1 = st.length + 1 - 1 by simp]; exact hu216, hP12.own⟩ rfl rfl
                          have HK12 := hide hK12
                          clear hK12 hP12 hrow hu216 hb12 hW12
                          go_wp2_with fail
                          go_roundw
                          case rel => exact ⟨i + 1, _, _, F8, D8, by omega, by rw [List.length_eraseIdx]; have := HK.out.2.2.2.1; split <;> simp <;> omega, by have := HK10.out.2.1; omega, by go_num, HK12.out⟩
                          case measure => simp [intOf]; omega
                        · go_wp2_with (first | (at_builtin; refine wpList_value (o := ⟨some 170, _, _, _, _, _⟩) rfl (.slice A31 (st.length + 1) c31) W9 (exec_append (o := ⟨some 170, _, _, _, _, _⟩) (.tmp 164) (.tmp 169) 65 rfl _ _ _ _ _ rfl rfl HAA.out.1) ?_) | (at_builtin; refine wpList_value (o := ⟨some 174, _, _, _, _, _⟩) rfl (.slice A32 (st.length + 1) c32) W10 (exec_append (o := ⟨some 174, _, _, _, _, _⟩) (.tmp 171) (.tmp 173) 72 rfl _ _ _ _ _ rfl rfl HAA.out.2) ?_))
                          go_roundw
                          case rel => exact ⟨i + 1, st ++ [(b, f)], us ++ [(.slice Ab b.length cb, .slice A18 f.length c18)], F8, D8, by omega, by rw [List.length_append]; have := HK.out.2.2.2.1; simp; omega, by have := HK10.out.2.1; omega, by go_num, HK10.out.1⟩
                          case measure => simp [intOf]; omega
                      · have z1 : ¬ (i : Int) < (zs.length : Int) := by omega
                        go_wp2_with (first | (at_builtin; refine wpList_value (o := ⟨some 170, _, _, _, _, _⟩) rfl (.slice A31 (st.length + 1) c31) W9 (exec_append (o := ⟨some 170, _, _, _, _, _⟩) (.tmp 164) (.tmp 169) 65 rfl _ _ _ _ _ rfl rfl HAA.out.1) ?_) | (at_builtin; refine wpList_value (o := ⟨some 174, _, _, _, _, _⟩) rfl (.slice A32 (st.length + 1) c32) W10 (exec_append (o := ⟨some 174, _, _, _, _, _⟩) (.tmp 171) (.tmp 173) 72 rfl _ _ _ _ _ rfl rfl HAA.out.2) ?_))
                        go_roundw
                        case rel => exact ⟨i + 1, st ++ [(b, f)], us ++ [(.slice Ab b.length cb, .slice A18 f.length c18)], F8, D8, by omega, by rw [List.length_append]; have := HK.out.2.2.2.1; simp; omega, by have := HK10.out.2.1; omega, by go_num, HK10.out.1⟩
                        case measure => simp [intOf]; omega
              · obtain rfl : i = ls.length := by omega
                have i1 : ¬ ((ls.length : Nat) : Int) < (ls.length : Int) := by omega
                go_wp2_with fail
                refine (crashDev_any W HK.out.1.par.mine.dev).mono ?_
                rintro e W1 ⟨rfl, hl1⟩
                obtain ⟨F1, hP1⟩ := HK.out.1.par.left (Nat.le_refl _) hl1
                have H1 := hide hP1
                clear hl1 hP1
                dsimp only
                go_wp2_with fail
                refine (wake_any 0 W1 H1.out.mine.dev (by unfold Dv.crash; rw [if_neg (by rw [HK.out.1.law.dn]; simp)]; dsimp only; rw [HK.out.1.law.pend]; simp)).mono ?_
                rintro e W2 ⟨rfl, hl2⟩
                obtain ⟨F2, hP2⟩ := H1.out.left (Nat.le_refl _) hl2
                obtain ⟨D2, hD2⟩ : ∃ D2, D2 = (D.crash.2.wake 0).2 := ⟨_, rfl⟩
                have hk2 := HK.out.1.law.woken 0
                rw [← hD2] at hk2 hP2
                have hst : st.length ≤ ls.length := HK.out.2.2.2
                have HKS2 := hide (show ∃ k : Nat, k ≤ st.length ∧ Value.int .i64 0 = .int .i64 (k : Int) ∧ KAt w0.heap.size w0 W2 F2 q D2 l a d (.slice AR st.length cR) (.slice AU st.length cU) st us from ⟨0, by omega, rfl, HK.out.1.len, hP2, HK.out.1.args, hk2⟩)
                have st1 : (st.length : Int) ≤ 60 := by omega
                have st0 : (0 : Int) ≤ (st.length : Int) := by omega
                clear hl2 hP2 hk2 hD2 H1 HK
                dsimp only
                go_wp2_with fail
                go_loopw [23] (fun x wx => ∃ k : Nat, k ≤ st.length ∧ x = .int .i64 (k : Int) ∧ KAt w0.heap.size w0 wx F2 q D2 l a d (.slice AR st.length cR) (.slice AU st.length cU) st us) (fun x _ => st.length - (intOf x).toNat)
                case atStart => exact HKS2.out
                case round =>
                  obtain ⟨k, hk, rfl, hKA⟩ := hrel
                  have HK := hide hKA
                  clear hKA HKS2
                  have k0 : (0 : Int) ≤ (k : Int) := by omega
                  by_cases hk2 : k < st.length
                  · have k1 : (k : Int) < (st.length : Int) := by omega
                    obtain ⟨p, hp⟩ : ∃ p, st[k]? = some p := ⟨_, List.getElem?_eq_getElem hk2⟩
                    obtain ⟨u, hu⟩ : ∃ u, us[k]? = some u := ⟨_, List.getElem?_eq_getElem (by rw [HK.out.len]; exact hk2)⟩
                    obtain ⟨gR, cR', eR, hcR, hgR, _⟩ := HK.out.par.rows.cell (j := k) (x := u.1) (by rw [List.getElem?_map, hu]; rfl)
                    injection eR with eR _ eR2
                    subst eR eR2
                    obtain ⟨gU, cU', eU, hcU, hgU, _⟩ := HK.out.par.runs.cell (j := k) (x := u.2) (by rw [List.getElem?_map, hu]; rfl)
                    injection eU with eU _ eU2
                    subst eU eU2
                    obtain ⟨Ab, cb, eb, hbb, hbn, hbc⟩ := (HK.out.args k p u hp hu).cap
                    obtain ⟨Au, cu, eu, hmu⟩ := (HK.out.runs hp hu).m
                    rw [eb] at hcR
                    rw [eu] at hcU
                    have hget := HK.out.law.get (List.mem_of_getElem? hp)
                    obtain ⟨hpl, hrl⟩ := HK.out.law.small (HR.out.2.2 HR.out.1) (List.mem_of_getElem? hp)
                    have HX := hide (And.intro hget (And.intro hmu hbb))
                    clear hp hu eb eu hget hmu hbb
                    go_wp2_with fail
                    have HB0 := hide HK.out.par.mine.bel
                    refine Fre.wp_made (X := Blw) 16 [(239, ReadT wr.heap.size p.1), (227, ReadT wr.heap.size p.1), (240, ReadV wr.heap.size p.1), (24, ReadV wr.heap.size p.1)] (by kernel_rfl) (by kernel_rfl) (by simp only [List.forall_mem_cons]; exact ⟨readT_ok _ _, readT_ok _ _, readV_ok _ _, readV_ok _ _, fun p hp => by cases hp⟩) (by simp) (by simp) ?_
                    simp only [List.take_succ_cons, List.take_zero, List.drop_succ_cons, List.drop_zero]
                    refine Fre.made_val (.pointer (some ⟨q, 0, none⟩)) (by kernel_rfl) (by kernel_rfl) (by kernel_rfl) (fun _ _ => by kernel_rfl) ?_
                    simp only [Act.put, List.setIfInBounds_toArray, List.set_cons_zero, List.set_cons_succ]
                    refine Fre.made_val (.agg #[.int .i64 l, .int .i64 a, .int .i64 d]) (by kernel_rfl) (by kernel_rfl) (by kernel_rfl) (fun W9 hW9 => exec_load_blk (o := ⟨some 229, _, _, _, _, _⟩) 64 (.tmp 3) rfl w.heap.size rfl 64 _ _ W9 (HSH.out W9 (HB0.out.trans (Below.mono hW9 HB0.out.size))) Try.underlying64 rfl (by kernel_rfl)) ?_
                    simp only [Act.put, List.setIfInBounds_toArray, List.set_cons_zero, List.set_cons_succ]
                    refine Fre.made_val (.slice (some ⟨gR, 0, none⟩) st.length cR) (by kernel_rfl) (by kernel_rfl) (by kernel_rfl) (fun _ _ => by kernel_rfl) ?_
                    simp only [Act.put, List.setIfInBounds_toArray, List.set_cons_zero, List.set_cons_succ]
                    refine Fre.made_val (.int .i64 (k : Int)) (by kernel_rfl) (by kernel_rfl) (by kernel_rfl) (fun _ _ => by kernel_rfl) ?_
                    simp only [Act.put, List.setIfInBounds_toArray, List.set_cons_zero, List.set_cons_succ]
                    refine Fre.made_val (.pointer (some ⟨gR, 0 + (k : Int).toNat * 1, none⟩)) (by kernel_rfl) (by kernel_rfl) (by kernel_rfl) (fun W9 _ => exec_index_off (o := ⟨some 232, _, _, _, _, _⟩) 65 66 (.tmp 230) (.tmp 231) rfl gR 0 st.length cR (k : Int) .i64 rfl rfl ⟨k0, k1⟩ 1 Try.underlying65 (by kernel_rfl) W9) ?_
                    simp only [Act.put, List.setIfInBounds_toArray, List.set_cons_zero, List.set_cons_succ]
                    rw [show 0 + (k : Int).toNat * 1 = k by omega]
                    refine Fre.made_val (.slice Ab p.1.length cb) (by kernel_rfl) (by kernel_rfl) (by kernel_rfl) (fun W9 hW9 => exec_load_slice (o := ⟨some 233, _, _, _, _, _⟩) 66 5 (.tmp 232) rfl ⟨gR, k, none⟩ rfl _ W9 Try.underlying66 (((show Below wr.heap.size wr W9 from hW9).cell (p := ⟨gR, k, none⟩) hgR).trans hcR)) ?_
                    simp only [Act.put, List.setIfInBounds_toArray, List.set_cons_zero, List.set_cons_succ]
                    refine Fre.made_val (.int .i64 (p.1.length : Int)) (by kernel_rfl) (by kernel_rfl) (by kernel_rfl) (fun W9 hW9 => ?hs10) ?_
                    case hs10 =>
                      go_simp
                    simp only [Act.put, List.setIfInBounds_toArray, List.set_cons_zero, List.set_cons_succ]
                    refine Fre.made_val (.slice (some ⟨gU, 0, none⟩) st.length cU) (by kernel_rfl) (by kernel_rfl) (by kernel_rfl) (fun _ _ => by kernel_rfl) ?_
                    simp only [Act.put, List.setIfInBounds_toArray, List.set_cons_zero, List.set_cons_succ]
                    refine Fre.made_val (.int .i64 (k : Int)) (by kernel_rfl) (by kernel_rfl) (by kernel_rfl) (fun _ _ => by kernel_rfl) ?_
                    simp only [Act.put, List.setIfInBounds_toArray, List.set_cons_zero, List.set_cons_succ]
                    refine Fre.made_val (.pointer (some ⟨gU, 0 + (k : Int).toNat * 1, none⟩)) (by kernel_rfl) (by kernel_rfl) (by kernel_rfl) (fun W9 _ => exec_index_off (o := ⟨some 237, _, _, _, _, _⟩) 72 73 (.tmp 235) (.tmp 236) rfl gU 0 st.length cU (k : Int) .i64 rfl rfl ⟨k0, k1⟩ 1 Try.underlying72 (by kernel_rfl) W9) ?_
                    simp only [Act.put, List.setIfInBounds_toArray, List.set_cons_zero, List.set_cons_succ]
                    rw [show 0 + (k : Int).toNat * 1 = k by omega]
                    refine Fre.made_val (.slice Au p.2.length cu) (by kernel_rfl) (by kernel_rfl) (by kernel_rfl) (fun W9 hW9 => exec_load_slice (o := ⟨some 238, _, _, _, _, _⟩) 73 88 (.tmp 237) rfl ⟨gU, k, none⟩ rfl _ W9 Try.underlying73 (((show Below wr.heap.size wr W9 from hW9).cell (p := ⟨gU, k, none⟩) hgU).trans hcU)) ?_
                    simp only [Act.put, List.setIfInBounds_toArray, List.set_cons_zero, List.set_cons_succ]
                    refine Fre.made_newcall 239 _ 39 #[.pointer (some ⟨q, 0, none⟩), .agg #[.int .i64 l, .int .i64 a, .int .i64 d], .int .i64 (p.1.length : Int), .slice Au p.2.length cu] (by kernel_rfl) (by kernel_rfl) rfl rfl (fun _ => by kernel_rfl) (fun W9 hW9 => ?hread) ?_
                    case hread =>
                      have hb9 : Below wr.heap.size wr W9 := hW9
                      have hK9 := HK.out.grow (Nat.le_refl _) hb9
                      refine (bread_any l a d p.1.length HR.out.2.2 (by omega) Au cu p.2 (by omega) W9 hK9.par.mine.dev (by rw [hK9.law.pend]; simp) (RunsM.below HX.out.2.1 hb9)).mono ?_
                      rintro e w' ⟨o, h1, h2, h3⟩
                      rw [HX.out.1] at h1 h2
                      exact ⟨_, h1, h3, o, rfl, owned_baseN h2 fun g hg => by have := (owned_ltN h2 hg).1; have := hb9.size; omega⟩
                    simp only [Act.put, List.setIfInBounds_toArray, List.set_cons_zero, List.set_cons_succ]
                    refine Fre.made_new1 239 _ 227 _ (by kernel_rfl) rfl (by kernel_rfl) rfl rfl (fun u W9 hW9 hu => ⟨u, W9, by kernel_rfl, Fre.Ext.refl W9, hu⟩) ?_
                    simp only [Act.put, List.setIfInBounds_toArray, List.set_cons_zero, List.set_cons_succ]
                    refine Fre.made_new1 227 _ 240 _ (by kernel_rfl) rfl (by kernel_rfl) rfl rfl (fun u W9 hW9 hu => by obtain ⟨o, rfl, ho⟩ := hu; exact ⟨o, W9, by kernel_rfl, Fre.Ext.refl W9, ho⟩) ?_
                    simp only [Act.put, List.setIfInBounds_toArray, List.set_cons_zero, List.set_cons_succ]
                    refine Fre.made_val1 227 _ (.int .i64 0) (by kernel_rfl) rfl (by kernel_rfl) (by kernel_rfl) (fun u W9 hW9 hu => by obtain ⟨o, rfl, ho⟩ := hu; kernel_rfl) ?_
                    simp only [Act.put, List.setIfInBounds_toArray, List.set_cons_zero, List.set_cons_succ]
                    refine Fre.made_new1 240 _ 24 _ (by kernel_rfl) rfl (by kernel_rfl) rfl rfl (fun u W9 hW9 hu => ⟨u, W9, by kernel_rfl, Fre.Ext.refl W9, hu⟩) ?_
                    simp only [Act.put, List.setIfInBounds_toArray, List.set_cons_zero, List.set_cons_succ]
                    show ∀ w', _ → _
                    intro W5 hb5
                    simp only [Fre.ended]
                    intro u239 _ u227 _ u240 _ u24 hu24
                    simp only [Act.put, List.setIfInBounds_toArray, List.set_cons_zero, List.set_cons_succ]
                    have hb5 : Below wr.heap.size wr W5 := hb5
                    have hcR5 := (hb5.cell (p := ⟨gR, k, none⟩) hgR).trans hcR
                    have hgR5 : gR < W5.heap.size := by have := hb5.size; omega
                    have H5 := hide (And.intro (show W5.ownsRow wr.heap.size 5 1 u24 p.1.length (bv p.1) from hu24) (And.intro (HK.out.grow (Nat.le_refl _) hb5) (HX.out.2.2.alike fun k hk => (HB0.out.trans (Below.mono hb5 HB0.out.size)).block k hk)))
                    clear hu24 hb5 hcR hgR hcU hgU
                    go_wp2_with fail
                    refine (sameBytes_any p.1 p.1 (by omega) (by omega) u24 (.slice Ab p.1.length cb) W5.heap.size W5 (bytesAt_owned H5.out.1) (bytes_widen H5.out.2.2 H5.out.2.1.par.mine.bel.size)).mono ?_
                    rintro e W6 ⟨rfl, nd, rfl⟩
                    rw [decide_eq_true rfl]
                    clear hcR5 hgR5
                    dsimp only
                    go_wp2_with fail
                    go_roundw
                    case rel => exact ⟨k + 1, by omega, by go_num, H5.out.2.1.grow (Nat.le_refl _) (below_drewN (Below.refl _ W5) nd)⟩
                    case measure => simp [intOf]; omega
                  · obtain rfl : k = st.length := by omega
                    have k1 : ¬ ((st.length : Nat) : Int) < (st.length : Int) := by omega
                    go_wp2_with fail
                    go_ret
                    exact ⟨rfl, H0.out.1.trans (Below.mono HK.out.par.mine.bel (by have := H0.out.2; omega))⟩
        · rw [decide_eq_false hr]
          dsimp only
          go_wp2_with fail
          go_ret
          exact ⟨rfl, H0.out.1.trans (Below.mono (HB.out.alloc HB.out.size _) (by have := H0.out.2; omega))⟩
end Go.Proofs.Ytfppddnfdinipaa
end
section
namespace Go.Proofs.Ytfppddnfdinipaa
open Go.RowKit Go.WideShapes Go.ChangeShapes
section
variable {H : Type} {enc : TypeId × Value → H} {P : Program}
theorem weightsAll_mem {e : TypeId} : ∀ {l : List (DataW H)} {d : DataW H}, d ∈ l → ∀ n ∈ d.weights P e, n ∈ DataW.weightsAll P e l
  | [], _, h, _, _ => by cases h
  | x :: l, d, h, n, hn => by
    rw [DataW.weightsAll, List.mem_append]
    rcases List.mem_cons.1 h with rfl | h
    · exact .inl hn
    · exact .inr (weightsAll_mem h n hn)
/-- a cell that holds a slice of bytes -/
theorem bslice_of {t e : TypeId} {w : World} {sp : Nat → Bool} {hd : Bool} {fuel : Nat} {u : Value} {x : DataW H × List MemPlace} (ht : P.underlying t = some (.slice e)) (he : P.underlying e = some (.int .u8)) (hc : P.cellsOf e = 1)
    (h : DataW.trod enc P w 0 sp hd fuel t [u] = some x) :
    ∃ (A : Option Addr) (cap : Nat) (l : List UInt8), u = .slice A l.length cap ∧ BytesAt w w.heap.size u l ∧ (A = none → cap = 0) ∧ ((x.1 = .nil ∧ l = []) ∨ ∃ elems spare, x.1 = .slice elems spare ∧ elems.length = l.length) := by
  rcases open_ints ht he hc h with ⟨hcs, hx⟩ | ⟨a, len, cap, zs, hcs, _, hl, hm, hz, hx, hcell, hwz⟩
  · injection hcs with hcs
    subst hcs hx
    exact ⟨none, 0, [], rfl, ⟨none, 0, rfl, Nat.le_refl _, fun h => absurd h (by simp)⟩, (fun _ => rfl), .inl ⟨rfl, rfl⟩⟩
  · injection hcs with hcs
    subst hcs hx
    have hlz : len ≤ zs.length := by rw [hz]; split <;> omega
    let l : List UInt8 := (zs.take len).map fun z => UInt8.ofNat z.toNat
    have hll : l.length = len := by simp [l]; omega
    have hcl : ∀ j, j < len → w.cell? (a.add j) = some (.int .u8 ((l.getD j 0).toNat : Int)) := by
      intro j hj
      rw [hcell j (by omega)]
      have hmem : zs.getD j 0 ∈ zs := by
        rw [List.getD_eq_getElem?_getD, List.getElem?_eq_getElem (by omega)]
        exact List.getElem_mem _
      have hb := bounds_u8 (hwz _ hmem)
      have e : l.getD j 0 = UInt8.ofNat (zs.getD j 0).toNat := by
        simp only [l, List.getD_eq_getElem?_getD, List.getElem?_map, List.getElem?_take_of_lt hj]
        rw [List.getElem?_eq_getElem (by omega)]
        rfl
      rw [e, UInt8.toNat_ofNat']
      congr 2
      omega
    refine ⟨some a, cap, l, by rw [hll], ⟨some a, cap, by rw [hll], by omega, fun h0 => ?_⟩, (fun h => by cases h), .inr ⟨_, _, rfl, ?_⟩⟩
    · have h1 := hcl 0 (by omega)
      have hlt := World.block_lt_of_cell? w _ h1
      obtain ⟨b, off, m⟩ := a
      cases m with
      | none =>
        refine ⟨b, off, rfl, by simpa [Addr.add] using hlt, fun j hj => ?_⟩
        have h2 := hcl j (by omega)
        rwa [add_plain] at h2
      | some m => exact absurd (show w.cell? ⟨b, off, some m⟩ = _ from h1) (by rw [cell_spot]; simp)
    · rw [hll]
      simp [lits, hlz]
end
theorem bounds_i64' {z : Int} (h : (Lit.int .i64 z).wf = true) : i64 z := bounds_i64 h
end Go.Proofs.Ytfppddnfdinipaa
end
section
namespace Go.Proofs.Ytfppddnfdinipaa
open Go Go.ChangeShapes Go.WideShapes Go.ChangeAt Go.RowKit
theorem Try.ownKK : ownKnob Try.prog.godebug = none := by kernel_rfl
set_option maxRecDepth 100000
theorem open_rowsArg {H : Type} {enc : TypeId × Value → H} {w : World} {r : Reach} {b0 : Nat} {hd : Bool} {v : Value} {d : DataW H} {ps : List MemPlace}
    (hval : Value.okWide Try.prog w r b0 65 v) (h : DataW.Trod enc Try.prog w 0 (fun _ => true) hd 65 v d ps) (hsz : ∀ n ∈ d.weights Try.prog 65, n ≤ reachBytes) :
    ∃ (ls : List (List UInt8)), RowsArg w w.heap.size v ls ∧ ls.length ≤ 140737488355328 ∧ ∀ l ∈ ls, l.length ≤ 140737488355328 := by
  have hr := reachBytes_lt
  have ce : Try.prog.cellsOf 66 = 1 := by kernel_rfl
  have c3 : Try.prog.cellsOf 5 = 1 := by kernel_rfl
  have bs : Try.prog.bytesOf 66 = 24 := by kernel_rfl
  have b8 : Try.prog.bytesOf 5 = 1 := by kernel_rfl
  obtain ⟨a0, len, cap, rfl⟩ := okWide_slice Try.underlying65 hval
  obtain ⟨fuel, hf⟩ := h
  rcases Go.Deep.open_slice Try.underlying65 hf with ⟨hcs, hx⟩ | ⟨a, len', cap', m, n, D, Pl, hcs, _, hl, hm, hmm, hx, hi⟩
  · simp [Value.cells] at hcs
    obtain ⟨rfl, rfl, rfl⟩ := hcs
    exact ⟨[], ⟨none, 0, rfl, fun h => absurd h (by simp)⟩, by simp, by simp⟩
  · simp [Value.cells] at hcs
    obtain ⟨rfl, rfl, rfl⟩ := hcs
    simp only [Prod.mk.injEq] at hx
    obtain ⟨rfl, _⟩ := hx
    simp only [if_true] at hmm
    rw [ce] at hi
    have hel : ∀ i, i < len → ∃ p : List UInt8, (∃ A c, w.cell? (a.add (i * 1)) = some (.slice A p.length c) ∧ BytesAt w w.heap.size (.slice A p.length c) p ∧ (A = none → c = 0)) ∧ p.length ≤ 140737488355328 := by
      intro i hil
      obtain ⟨cs', hc, htr⟩ := hi i (by omega)
      obtain ⟨_, hcl, hat⟩ := World.cells?_some hc
      match cs', hcl with
      | [u0], _ =>
        obtain ⟨A, c, l, rfl, hby, hnil, hd3⟩ := bslice_of Try.underlying66 Try.underlying5 c3 htr
        have k0 := hat 0 (by omega)
        refine ⟨l, ⟨A, c, by simpa [Addr.add] using k0, hby, hnil⟩, ?_⟩
        rcases hd3 with ⟨_, rfl⟩ | ⟨elems, spare, hd3, hle⟩
        · simp
        · have hmem : D i ∈ (List.range len).map D := List.mem_map.2 ⟨i, List.mem_range.2 hil, rfl⟩
          have hw : (elems.length + spare.length) * Try.prog.bytesOf 5 ∈ (D i).weights Try.prog 66 := by
            rw [show D i = .slice elems spare from hd3]
            simp only [DataW.weights, Try.underlying66]
            exact List.mem_cons_self
          have h5 := hsz ((elems.length + spare.length) * Try.prog.bytesOf 5) (by
            simp only [DataW.weights, Try.underlying65]
            exact List.mem_cons_of_mem _ (List.mem_append_left _ (weightsAll_mem hmem _ hw)))
          rw [b8] at h5
          omega
    have hlen : len ≤ 140737488355328 := by
      have h5 := hsz (((List.range len).map D).length * 24 + ((List.range (m - len)).map fun j => D (len + j)).length * 24) (by
        simp only [DataW.weights, Try.underlying65]
        rw [bs, ← Nat.add_mul]
        exact List.mem_cons_self)
      simp only [List.length_map, List.length_range] at h5
      omega
    obtain ⟨f, hfp⟩ : ∃ f : Nat → List UInt8, ∀ i, i < len → (∃ A c, w.cell? (a.add (i * 1)) = some (.slice A (f i).length c) ∧ BytesAt w w.heap.size (.slice A (f i).length c) (f i) ∧ (A = none → c = 0)) ∧ (f i).length ≤ 140737488355328 := by
      refine ⟨fun i => if h : i < len then Classical.choose (hel i h) else [], fun i h => ?_⟩
      simp only [dif_pos h]
      exact Classical.choose_spec (hel i h)
    clear hel
    have hll : ((List.range len).map f).length = len := by simp
    refine ⟨(List.range len).map f, ⟨some a, cap, by rw [hll], fun h0 => ?_⟩, by omega, fun p hp => ?_⟩
    · rw [hll] at h0
      obtain ⟨⟨A, c, h1, _⟩, _⟩ := hfp 0 h0
      obtain ⟨b, off, sp⟩ := a
      cases sp with
      | none =>
        have hlt := World.block_lt_of_cell? w _ h1
        refine ⟨b, off, rfl, by simpa [Addr.add] using hlt, fun j l hj => ?_⟩
        obtain ⟨hj1, hj2⟩ := List.getElem?_eq_some_iff.1 hj
        rw [hll] at hj1
        have hj3 : f j = l := by simpa using hj2
        obtain ⟨⟨A, c, k0, k4, k5⟩, _⟩ := hfp j hj1
        rw [Nat.mul_one, add_plain, hj3] at k0
        rw [hj3] at k4
        exact ⟨_, k0, A, c, rfl, k4, k5⟩
      | some q =>
        have h2 : w.cell? ⟨b, off, some q⟩ = some (.slice A (f 0).length c) := by simpa [Addr.add] using h1
        rw [cell_spot] at h2
        cases h2
    · obtain ⟨i, hi2, rfl⟩ := List.mem_map.1 hp
      exact (hfp i (List.mem_range.1 hi2)).2
def intsLay : Lay (List Int) := Lay.slice 33 (Lay.int 3 .i64)
theorem intsLay_opens : intsLay.Opens Try.prog := opens_slice (opens_int Try.underlying3 (by kernel_rfl)) (by decide) Try.underlying33 (by kernel_rfl)
theorem open_intsArg {H : Type} {enc : TypeId × Value → H} {w : World} {r : Reach} {b0 : Nat} {hd : Bool} {v : Value} {d : DataW H} {ps : List MemPlace}
    (hval : Value.okWide Try.prog w r b0 33 v) (h : DataW.Trod enc Try.prog w 0 (fun _ => true) hd 33 v d ps) (hsz : ∀ n ∈ d.weights Try.prog 33, n ≤ reachBytes) :
    ∃ (zs : List Int), IntsArg w w.heap.size v zs ∧ zs.length ≤ 140737488355328 := by
  have hr := reachBytes_lt
  obtain ⟨a0, len, cap, rfl⟩ := okWide_slice Try.underlying33 hval
  obtain ⟨fuel, hf⟩ := h
  obtain ⟨zs, hz⟩ := intsLay_opens.op hf
  obtain ⟨A, cap', e, hlc, _, _, hA⟩ := hz
  simp only [Value.cells, List.cons.injEq, and_true] at e
  obtain ⟨rfl, rfl, rfl⟩ := (by simpa using e : a0 = A ∧ len = zs.length ∧ cap = cap')
  refine ⟨zs, ⟨a0, cap, rfl, fun h0 => ?_, fun z hz => ?_⟩, ?_⟩
  · obtain ⟨b, off, k1, k2, k3⟩ := hA h0
    refine ⟨b, off, k1, k2, fun j z hj => ?_⟩
    obtain ⟨cs, q1, q2, _⟩ := k3 j z hj
    subst q2
    have := q1 0 _ rfl
    simpa [Lay.int] using this
  · obtain ⟨j, hj⟩ := List.getElem?_of_mem hz
    have h0 : 0 < zs.length := by have := (List.getElem?_eq_some_iff.1 hj).1; omega
    obtain ⟨b, off, k1, k2, k3⟩ := hA h0
    obtain ⟨cs, q1, q2, q3⟩ := k3 j z hj
    exact bounds_i64 q3
  · rcases Go.Deep.open_slice Try.underlying33 hf with ⟨hcs, hx⟩ | ⟨a, len', cap', m, n, D, Pl, hcs, _, hl, hm, hmm, hx, hi⟩
    · simp [Value.cells] at hcs
      omega
    · simp [Value.cells] at hcs
      obtain ⟨rfl, rfl, rfl⟩ := hcs
      simp only [Prod.mk.injEq] at hx
      obtain ⟨rfl, _⟩ := hx
      have bs : Try.prog.bytesOf 3 = 8 := by kernel_rfl
      have h5 := hsz (((List.range zs.length).map D).length * 8 + ((List.range (m - zs.length)).map fun j => D (zs.length + j)).length * 8) (by
        simp only [DataW.weights, Try.underlying33]
        rw [bs, ← Nat.add_mul]
        exact List.mem_cons_self)
      simp only [List.length_map, List.length_range] at h5
      omega
theorem blobKeeps_lifted (os : Os) (started : os.Started) (H : Type) (enc : TypeId × Value → H) :
    ReturnsInHanded {} Try.checked os 8 .any (Rows.blobKeepsSpec.pre6 enc Try.prog Try.f8 Rows.blobKeepsRow.domain false) (Rows.blobKeepsSpec.post enc Try.prog Try.f8 false true false false) := by
  refine returnsInHanded_of_change_sized (C := Try.checked) Try.ownKK started (by kernel_rfl) Try.func8
    (ChangeSpec.witness6 (enc := enc) (C := Try.checked) false ⟨#[], #[.agg #[.int .i64 0, .int .i64 0, .int .i64 0], .slice none 0 0, .slice none 0 0], []⟩ 8 (by kernel_rfl) (by kernel_rfl) (by kernel_rfl) (by kernel_rfl)) ?_
  intro W base args ds gs before hval0 hW _ hsz0 _
  have hval : ∀ (j : Nat) t v, Try.f8.params[j]? = some t → args[j]? = some v → Value.okWide Try.prog W .any base t v := hval0
  have hsz : (DataW.weightsEach Try.prog (Try.f8.params.toList ++ []) (ds ++ gs)).all (· ≤ reachBytes) = true := hsz0
  have hW' := hW
  obtain ⟨p, q, hA0, hV, rfl, hfz, hnd⟩ := hW
  have hA : DataW.TrodAll enc Try.prog W 0 (fun _ => true) true Try.f8.params.toList args.toList ds p := hA0
  rw [Try.params8] at hA hval hsz
  obtain ⟨v0, v1, v2, d0, d1, d2, p0, p1, p2, rfl, rfl, rfl, h0, h1, h2⟩ := trodAll_three hA
  obtain ⟨rfl, rfl⟩ := trodVars_none hV
  obtain ⟨c0, c1, c2, y0, y1, y2, m, rfl, rfl, rfl, hy0, hy1, hy2⟩ := Joins.open_agg3 Try.underlying64 (by kernel_rfl) (by kernel_rfl) (hval 0 64 v0 rfl rfl) h0
  obtain ⟨l, e0, _, wl⟩ := DataW.trod_int Try.underlying3 hy0
  obtain ⟨a, e1, _, wa⟩ := DataW.trod_int Try.underlying3 hy1
  obtain ⟨d, e2, _, wd⟩ := DataW.trod_int Try.underlying3 hy2
  simp at e0 e1 e2
  subst e0 e1 e2
  have hs1 : ∀ n ∈ d1.weights Try.prog 65, n ≤ reachBytes := fun n hn => by
    have h := List.all_eq_true.1 hsz n (DataW.weights_mem_each (j := 1) (t := 65) (d := d1) rfl rfl n hn)
    simpa using h
  have hs2 : ∀ n ∈ d2.weights Try.prog 33, n ≤ reachBytes := fun n hn => by
    have h := List.all_eq_true.1 hsz n (DataW.weights_mem_each (j := 2) (t := 33) (d := d2) rfl rfl n hn)
    simpa using h
  obtain ⟨ls, hls, hll, hlb⟩ := open_rowsArg (hval 1 65 v1 rfl rfl) h1 hs1
  obtain ⟨zs, hzs, hzl⟩ := open_intsArg (hval 2 33 v2 rfl rfl) h2 hs2
  have fin : ∀ e W', e = Ending.returned (.bool true) ∧ Below W.heap.size W W' → ∃ v, e = .returned v ∧ Rows.blobKeepsSpec.post enc Try.prog Try.f8 false true false false W #[.agg #[.int .i64 l, .int .i64 a, .int .i64 d], v1, v2] v W' := by
    rintro e W' ⟨rfl, hb⟩
    exact ⟨_, rfl, law_end laidOut hW' rfl rfl (by kernel_rfl) Try.underlying4 (by kernel_rfl) hb⟩
  exact (keeps_any l a d ls hll hlb zs hzl v1 v2 W hls hzs).mono fin
theorem blobKeeps_holds : Rows.BlobKeepsSaid :=
  OpenClaim.holds_of_wide 8 Try.f8 rfl rfl rfl rfl rfl rfl rfl ⟨rfl, rfl, rfl, rfl, rfl⟩ rfl rfl rfl rfl rfl (by kernel_rfl) Try.func8 (by kernel_rfl)
    (of_decide_eq_true (by kernel_rfl)) (by unfold Func.isWrapper; first | (rw [if_pos (by decide +kernel)]; kernel_rfl) | (rw [if_neg (by decide +kernel)]; exact ⟨rfl, rfl⟩))
    (fun os started H enc _ => blobKeeps_lifted os started H enc)
#print axioms blobKeeps_holds
end Go.Proofs.Ytfppddnfdinipaa
end
