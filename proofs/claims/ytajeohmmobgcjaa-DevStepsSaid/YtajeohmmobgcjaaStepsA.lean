/- DevSteps: rows of deeds, just made. -/
import Derived.Test.YtajeohmmobgcjaaDevDoes
import Derived.Test.YtajeohmmobgcjaaDevNone2
namespace Go.Proofs.Ytajeohmmobgcjaa
open Go Go.RowKit
/-- deeds, each with the slice that holds its bytes -/
abbrev DV := List (Deed × Value)
def dcells (p : Deed × Value) : List Value := [.int .i64 p.1.what, .int .i64 p.1.n, .int .i64 p.1.most, p.2]
def flatD (l : DV) : List Value := l.flatMap dcells
def onlyD (l : DV) : List Deed := l.map (·.1)
structure DeedOk (w : World) (B : Nat) (p : Deed × Value) : Prop where
  b : ∃ A c, p.2 = .slice A p.1.b.length c ∧ BytesAt w B (.slice A p.1.b.length c) p.1.b ∧ (A = none → c = 0)
  k0 : i64 p.1.what
  k1 : i64 p.1.n
  k2 : i64 p.1.most
theorem BytesAt.widen {w : World} {B B' : Nat} {v : Value} {l : List UInt8} (h : BytesAt w B v l) (hB : B ≤ B') : BytesAt w B' v l := by
  obtain ⟨A, cap, hv, hc, hA⟩ := h
  exact ⟨A, cap, hv, hc, fun h0 => by
    obtain ⟨b, off, h1, h2, h3⟩ := hA h0
    exact ⟨b, off, h1, by omega, h3⟩⟩
theorem DeedOk.alike {w w' : World} {B B' : Nat} {p : Deed × Value} (h : DeedOk w B p) (ha : Alike B w w') (hB : B ≤ B') : DeedOk w' B' p := by
  obtain ⟨⟨A, c, h1, h2, h3⟩, k0, k1, k2⟩ := h
  exact ⟨⟨A, c, h1, (h2.alike ha).widen hB, h3⟩, k0, k1, k2⟩
theorem flatD_len (l : DV) : (flatD l).length = l.length * 4 := by
  induction l with
  | nil => rfl
  | cons p l ih =>
    show (dcells p ++ flatD l).length = _
    rw [List.length_append, ih, List.length_cons]
    show 4 + _ = _
    omega
theorem flatD_app (a b : DV) : flatD (a ++ b) = flatD a ++ flatD b := by simp [flatD]
theorem flatD_at : ∀ (l : DV) (j : Nat) (p : Deed × Value), l[j]? = some p → ∀ i, i < 4 → (flatD l)[j * 4 + i]? = (dcells p)[i]?
  | [], j, p, h, i, hi => by simp at h
  | q :: l, 0, p, h, i, hi => by
    simp only [List.getElem?_cons_zero, Option.some.injEq] at h
    subst h
    show (dcells q ++ flatD l)[0 * 4 + i]? = _
    rw [Nat.zero_mul, Nat.zero_add, List.getElem?_append_left (by show i < 4; omega)]
  | q :: l, j + 1, p, h, i, hi => by
    show (dcells q ++ flatD l)[(j + 1) * 4 + i]? = _
    rw [List.getElem?_append_right (by show 4 ≤ _; omega)]
    have e : (j + 1) * 4 + i - (dcells q).length = j * 4 + i := by show (j + 1) * 4 + i - 4 = _; omega
    rw [e]
    exact flatD_at l j p (by simpa using h) i hi
theorem deedsM_row {w : World} {B g cap : Nat} (l : DV) (hg : g < B) (h : ∀ p ∈ l, DeedOk w B p) (hc : ∀ j u, (flatD l)[j]? = some u → w.cell? ⟨g, j, none⟩ = some u) (hcap : l.length ≤ cap) :
    DeedsM w B (.slice (some ⟨g, 0, none⟩) (onlyD l).length cap) (onlyD l) := by
  have hlen : (onlyD l).length = l.length := by simp [onlyD]
  refine ⟨_, cap, rfl, by omega, fun _ => ⟨g, 0, rfl, hg, fun j hj => ?_⟩⟩
  rw [hlen] at hj
  have hp : l[j]? = some l[j] := List.getElem?_eq_getElem hj
  have hd : (onlyD l).getD j ⟨0, 0, 0, []⟩ = (l[j]).1 := by simp [onlyD, List.getD, hj]
  rw [hd, Nat.zero_add]
  have ho := h l[j] (List.getElem_mem hj)
  have hat := flatD_at l j _ hp
  obtain ⟨A, c, h1, h2, h3⟩ := ho.b
  refine ⟨hc _ _ (hat 0 (by omega)), hc _ _ (hat 1 (by omega)), hc _ _ (hat 2 (by omega)), ⟨A, c, ?_, h2, h3⟩, ho.k0, ho.k1, ho.k2⟩
  have := hc _ _ (hat 3 (by omega))
  rw [this, h1]
/-- bytes, just made -/
theorem bytes_new (w : World) (l : List UInt8) (e : TypeId) : BytesAt (w.alloc (.cells (bv l).toArray e)) (w.heap.size + 1) (.slice (some ⟨w.heap.size, 0, none⟩) l.length l.length) l := by
  refine ⟨_, l.length, rfl, Nat.le_refl _, fun _ => ⟨w.heap.size, 0, rfl, by omega, fun j hj => ?_⟩⟩
  rw [Nat.zero_add, (Blk.new w e (bv l).toArray).cell, bv_get l j hj]
theorem bytes_none (w : World) (B : Nat) : BytesAt w B (.slice none 0 0) [] := ⟨none, 0, rfl, Nat.le_refl _, fun h => by cases h⟩
theorem ok_none (w : World) (B : Nat) (a b c : Int) (ha : i64 a) (hb : i64 b) (hc : i64 c) : DeedOk w B (⟨a, b, c, []⟩, .slice none 0 0) := ⟨⟨none, 0, rfl, bytes_none w B, fun _ => rfl⟩, ha, hb, hc⟩
theorem ok_some {w : World} {B g n cap : Nat} {l : List UInt8} (h : BytesAt w B (.slice (some ⟨g, 0, none⟩) n cap) l) (hn : n = l.length) (a b c : Int) (ha : i64 a) (hb : i64 b) (hc : i64 c) : DeedOk w B (⟨a, b, c, l⟩, .slice (some ⟨g, 0, none⟩) n cap) := by
  subst hn
  exact ⟨⟨_, _, rfl, h, fun h => by cases h⟩, ha, hb, hc⟩
/-- a row of deeds, made in one: DevDoes takes it -/
theorem does_row (s : Int) (l : DV) (w : World) (n cap : Nat) (hn : n = l.length) (hcap : cap = l.length) (hl : l.length ≤ 1000) (hb : ∀ p ∈ l, p.1.b.length ≤ 1000) (h : ∀ p ∈ l, DeedOk w w.heap.size p) :
    Calls Try.prog 7 #[.int .i64 s, .slice (some ⟨w.heap.size, 0, none⟩) n cap] (w.alloc (.cells (flatD l).toArray 50)) fun e w' => e = .returned (.bool true) ∧ Below w.heap.size w w' := by
  subst hn hcap
  have hlen : (onlyD l).length = l.length := by simp [onlyD]
  have hal : Below w.heap.size w (w.alloc (.cells (flatD l).toArray 50)) := (Below.refl _ w).alloc (Nat.le_refl _) _
  have hd := deedsM_row (w := w.alloc (.cells (flatD l).toArray 50)) (B := w.heap.size + 1) (g := w.heap.size) (cap := l.length) l (by omega) (fun p hp => (h p hp).alike hal.block (by omega)) (fun j u hu => by
    rw [(Blk.new w 50 (flatD l).toArray).cell]
    simpa using hu) (Nat.le_refl _)
  have hsz : (w.alloc (.cells (flatD l).toArray 50)).heap.size = w.heap.size + 1 := size_alloc _ _
  rw [← hsz] at hd
  have h2 := devDoes_any s (onlyD l) (some ⟨w.heap.size, 0, none⟩) l.length _ (by omega) (fun p hp => by
    obtain ⟨q, hq, rfl⟩ := List.mem_map.1 hp
    have := hb q hq
    omega) hd
  rw [hlen] at h2
  refine h2.mono ?_
  rintro e w' ⟨rfl, hb2⟩
  exact ⟨rfl, hal.trans (Below.mono hb2 (by omega))⟩
/-- four rows of bytes, just made -/
def by1 (w : World) : World := w.alloc (.cells #[.int .u8 9] 5)
def by2 (w : World) : World := (by1 w).alloc (.cells #[.int .u8 1] 5)
def by3 (w : World) : World := (by2 w).alloc (.cells #[.int .u8 2] 5)
def by4 (w : World) : World := (by3 w).alloc (.cells #[.int .u8 3, .int .u8 4] 5)
theorem by4_facts (w : World) : (by4 w).heap.size = w.heap.size + 4 ∧ Below w.heap.size w (by4 w) ∧ BytesAt (by4 w) (w.heap.size + 4) (.slice (some ⟨w.heap.size, 0, none⟩) 1 1) [9] ∧
    BytesAt (by4 w) (w.heap.size + 4) (.slice (some ⟨w.heap.size + 1, 0, none⟩) 1 1) [1] ∧ BytesAt (by4 w) (w.heap.size + 4) (.slice (some ⟨w.heap.size + 2, 0, none⟩) 1 1) [2] ∧ BytesAt (by4 w) (w.heap.size + 4) (.slice (some ⟨w.heap.size + 3, 0, none⟩) 2 2) [3, 4] := by
  have s1 : (by1 w).heap.size = w.heap.size + 1 := size_alloc _ _
  have s2 : (by2 w).heap.size = w.heap.size + 2 := (size_alloc _ _).trans (by rw [s1])
  have s3 : (by3 w).heap.size = w.heap.size + 3 := (size_alloc _ _).trans (by rw [s2])
  have s4 : (by4 w).heap.size = w.heap.size + 4 := (size_alloc _ _).trans (by rw [s3])
  have h1 : BytesAt (by1 w) (w.heap.size + 1) (.slice (some ⟨w.heap.size, 0, none⟩) 1 1) [9] := bytes_new w [9] 5
  have h2 : BytesAt (by2 w) ((by1 w).heap.size + 1) (.slice (some ⟨(by1 w).heap.size, 0, none⟩) 1 1) [1] := bytes_new (by1 w) [1] 5
  have h3 : BytesAt (by3 w) ((by2 w).heap.size + 1) (.slice (some ⟨(by2 w).heap.size, 0, none⟩) 1 1) [2] := bytes_new (by2 w) [2] 5
  have h4 : BytesAt (by4 w) ((by3 w).heap.size + 1) (.slice (some ⟨(by3 w).heap.size, 0, none⟩) 2 2) [3, 4] := bytes_new (by3 w) [3, 4] 5
  have b1 : Below w.heap.size w (by1 w) := (Below.refl _ w).alloc (Nat.le_refl _) _
  have b2 : Below (by1 w).heap.size (by1 w) (by2 w) := (Below.refl _ _).alloc (Nat.le_refl _) _
  have b3 : Below (by2 w).heap.size (by2 w) (by3 w) := (Below.refl _ _).alloc (Nat.le_refl _) _
  have b4 : Below (by3 w).heap.size (by3 w) (by4 w) := (Below.refl _ _).alloc (Nat.le_refl _) _
  rw [s1] at h2 b2
  rw [s2] at h3 b3
  rw [s3] at h4 b4
  have k34 : Alike (w.heap.size + 3) (by3 w) (by4 w) := b4.block
  have k24 : Alike (w.heap.size + 2) (by2 w) (by4 w) := fun k hk => (k34 k (by omega)).trans (b3.block k (by omega))
  have k14 : Alike (w.heap.size + 1) (by1 w) (by4 w) := fun k hk => (k24 k (by omega)).trans (b2.block k (by omega))
  exact ⟨s4, b1.trans ((Below.mono b2 (by omega)).trans ((Below.mono b3 (by omega)).trans (Below.mono b4 (by omega)))), (h1.alike k14).widen (by omega), (h2.alike k24).widen (by omega), (h3.alike k34).widen (by omega), h4⟩
def ds1 (n : Int) (R : Nat) : DV := [(⟨1, 1, 0, [9]⟩, .slice (some ⟨R, 0, none⟩) 1 1), (⟨3, 0, 0, []⟩, .slice none 0 0), (⟨1, 0, 0, [1]⟩, .slice (some ⟨R + 1, 0, none⟩) 1 1), (⟨1, 1, 0, [2]⟩, .slice (some ⟨R + 2, 0, none⟩) 1 1), (⟨2, 0, 0, [3, 4]⟩, .slice (some ⟨R + 3, 0, none⟩) 2 2),
  (⟨1, 1, 0, []⟩, .slice none 0 0), (⟨5, 0, 0, []⟩, .slice none 0 0), (⟨7, 1, n * 31, []⟩, .slice none 0 0), (⟨6, n, 0, []⟩, .slice none 0 0), (⟨6, 0, 0, []⟩, .slice none 0 0), (⟨3, 0, 0, []⟩, .slice none 0 0)]
theorem small_i64 {z : Int} (h : -100000 ≤ z ∧ z ≤ 100000) : i64 z := ⟨by omega, by omega⟩
theorem ds1_does (n : Int) (hn : -1 ≤ n ∧ n < 17) (w : World) :
    Calls Try.prog 7 #[.int .i64 2, .slice (some ⟨(by4 w).heap.size, 0, none⟩) 11 11] ((by4 w).alloc (.cells (flatD (ds1 n w.heap.size)).toArray 50)) fun e w' => e = .returned (.bool true) ∧ Below w.heap.size w w' := by
  obtain ⟨s4, b4, h1, h2, h3, h4⟩ := by4_facts w
  rw [← s4] at h1 h2 h3 h4
  have c : ∀ z : Int, -100 ≤ z ∧ z < 1000 → i64 z := fun z h => small_i64 (by omega)
  have hok : ∀ p ∈ ds1 n w.heap.size, DeedOk (by4 w) (by4 w).heap.size p := by
    unfold ds1
    simp only [List.forall_mem_cons]
    refine ⟨ok_some h1 rfl _ _ _ (c _ (by omega)) (c _ (by omega)) (c _ (by omega)), ok_none _ _ _ _ _ (c _ (by omega)) (c _ (by omega)) (c _ (by omega)), ok_some h2 rfl _ _ _ (c _ (by omega)) (c _ (by omega)) (c _ (by omega)), ok_some h3 rfl _ _ _ (c _ (by omega)) (c _ (by omega)) (c _ (by omega)), ok_some h4 rfl _ _ _ (c _ (by omega)) (c _ (by omega)) (c _ (by omega)),
      ok_none _ _ _ _ _ (c _ (by omega)) (c _ (by omega)) (c _ (by omega)), ok_none _ _ _ _ _ (c _ (by omega)) (c _ (by omega)) (c _ (by omega)), ok_none _ _ _ _ _ (c _ (by omega)) (c _ (by omega)) (c _ (by omega)), ok_none _ _ _ _ _ (c _ (by omega)) (c _ (by omega)) (c _ (by omega)), ok_none _ _ _ _ _ (c _ (by omega)) (c _ (by omega)) (c _ (by omega)), ok_none _ _ _ _ _ (c _ (by omega)) (c _ (by omega)) (c _ (by omega)), fun p hp => by cases hp⟩
  refine (does_row 2 (ds1 n w.heap.size) (by4 w) 11 11 rfl rfl (by show 11 ≤ 1000; omega) ?_ hok).mono ?_
  · unfold ds1
    simp
  · rintro e w' ⟨rfl, hb⟩
    exact ⟨rfl, b4.trans (Below.mono hb (by omega))⟩
end Go.Proofs.Ytajeohmmobgcjaa
