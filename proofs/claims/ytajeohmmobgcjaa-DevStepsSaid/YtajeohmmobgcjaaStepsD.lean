/- DevSteps: the second loop's deeds. -/
import Derived.Test.YtajeohmmobgcjaaStepsA
import Derived.Test.YtajeohmmobgcjaaFreMade
namespace Go.Proofs.Ytajeohmmobgcjaa
open Go Go.RowKit
/-- only memory is made -/
def Blo (w w' : World) : Prop := Below w.heap.size w w'
instance : Fre.RelOk Blo where
  refl := fun w => Below.refl _ w
  trans := fun _ _ _ h k => Below.trans h (Below.mono k h.size)
  drew := fun w => (Below.refl _ w).drew
theorem DeedAt.widen {w : World} {B B' b o : Nat} {p : Deed} (h : DeedAt w B b o p) (hB : B ≤ B') : DeedAt w B' b o p := by
  obtain ⟨A, c, h1, h2, h3⟩ := h.c3
  exact ⟨h.c0, h.c1, h.c2, ⟨A, c, h1, h2.widen hB, h3⟩, h.k0, h.k1, h.k2⟩
theorem DeedsM.widen {w : World} {B B' : Nat} {v : Value} {ls : List Deed} (h : DeedsM w B v ls) (hB : B ≤ B') : DeedsM w B' v ls := by
  obtain ⟨A, cap, hv, hc, hA⟩ := h
  exact ⟨A, cap, hv, hc, fun h0 => by
    obtain ⟨b, off, h1, h2, h3⟩ := hA h0
    exact ⟨b, off, h1, by omega, fun j hj => (h3 j hj).widen hB⟩⟩
/-- a row of deeds, made in one -/
theorem row_new (l : DV) (w : World) (h : ∀ p ∈ l, DeedOk w w.heap.size p) : DeedsM (w.alloc (.cells (flatD l).toArray 50)) (w.heap.size + 1) (.slice (some ⟨w.heap.size, 0, none⟩) (onlyD l).length l.length) (onlyD l) := by
  have hal : Below w.heap.size w (w.alloc (.cells (flatD l).toArray 50)) := (Below.refl _ w).alloc (Nat.le_refl _) _
  exact deedsM_row (w := w.alloc (.cells (flatD l).toArray 50)) (B := w.heap.size + 1) (g := w.heap.size) (cap := l.length) l (by omega) (fun p hp => (h p hp).alike hal.block (by omega)) (fun j u hu => by
    rw [(Blk.new w 50 (flatD l).toArray).cell]
    simpa using hu) (Nat.le_refl _)
/-- DevDoes takes any deeds -/
theorem does_m (s : Int) (ls : List Deed) {w : World} {B n cap : Nat} {A : Option Addr} (h : DeedsM w B (.slice A n cap) ls) (hB : B ≤ w.heap.size) (hn : n = ls.length) (hl : ls.length ≤ 1000) (hb : ∀ p ∈ ls, p.b.length ≤ 1000) :
    Calls Try.prog 7 #[.int .i64 s, .slice A n cap] w fun e w' => e = .returned (.bool true) ∧ Below w.heap.size w w' := by
  subst hn
  exact devDoes_any s ls A cap w (by omega) (fun p hp => by have := hb p hp; omega) (h.widen hB)
/-- a row of bytes, wherever it lies -/
def SlcV (l : List UInt8) (u : Value) (w : World) : Prop := ∃ r, u = .slice (some ⟨r, 0, none⟩) l.length l.length ∧ BytesAt w w.heap.size u l
/-- a deed with one -/
def AggV (a b c : Int) (l : List UInt8) (u : Value) (w : World) : Prop := ∃ s, u = .agg #[.int .i64 a, .int .i64 b, .int .i64 c, s] ∧ SlcV l s w
theorem SlcV.stays {l : List UInt8} {u : Value} {w w' : World} (h : SlcV l u w) (hx : Fre.Ext Blo w w') : SlcV l u w' := by
  obtain ⟨r, h1, h2⟩ := h
  have hb : Below w.heap.size w w' := hx
  exact ⟨r, h1, (h2.alike hb.block).widen hb.size⟩
theorem slc_ok (l : List UInt8) : Fre.MadeOk Blo (SlcV l) := ⟨fun _ _ _ h hx => h.stays hx⟩
theorem agg_ok (a b c : Int) (l : List UInt8) : Fre.MadeOk Blo (AggV a b c l) := ⟨fun _ _ _ ⟨s, h1, h2⟩ hx => ⟨s, h1, h2.stays hx⟩⟩
theorem free_slc (l : List UInt8) {w0 : World} {R : World → Result Next} (hrun : ∀ w, R w = .ok (.value (.slice (some ⟨w.heap.size, 0, none⟩) l.length l.length)) (w.alloc (.cells (bv l).toArray 5))) :
    ∀ w, Fre.Ext Blo w0 w → ∃ u w', R w = .ok (.value u) w' ∧ Fre.Ext Blo w w' ∧ SlcV l u w' := fun w _ =>
  ⟨_, _, hrun w, (Below.refl _ w).alloc (Nat.le_refl _) _, w.heap.size, rfl, (bytes_new w l 5).widen (by rw [size_alloc]; exact Nat.le_refl _)⟩
theorem free_agg (a b c : Int) (l : List UInt8) {w0 : World} {R : Value → World → Result Next} (hrun : ∀ r w, R (.slice (some ⟨r, 0, none⟩) l.length l.length) w = .ok (.value (.agg #[.int .i64 a, .int .i64 b, .int .i64 c, .slice (some ⟨r, 0, none⟩) l.length l.length])) w) :
    ∀ u w, Fre.Ext Blo w0 w → SlcV l u w → ∃ u' w', R u w = .ok (.value u') w' ∧ Fre.Ext Blo w w' ∧ AggV a b c l u' w' := by
  rintro u w _ ⟨r, rfl, hb⟩
  exact ⟨_, w, hrun r w, Fre.Ext.refl w, _, rfl, r, rfl, hb⟩
def byteI (n : Int) : UInt8 := UInt8.ofNat (n % 256).toNat
theorem byteI_val (n : Int) : ((byteI n).toNat : Int) = n % 256 := by
  unfold byteI
  rw [UInt8.toNat_ofNat']
  omega
theorem bv_byte (n z : Int) (h : z = n % 256) : (#[.int .u8 z] : Array Value) = (bv [byteI n]).toArray := by
  rw [h, ← byteI_val]
  rfl
def ds2 (n : Int) (v1 v2 v3 v4 : Value) : DV := [(⟨4, n, 0, []⟩, .slice none 0 0), (⟨1, 0, 0, [1]⟩, v1), (⟨1, 7, 0, []⟩, .slice none 0 0), (⟨3, 0, 0, []⟩, .slice none 0 0), (⟨1, 1, 0, List.replicate 64 0⟩, v2), (⟨1, 1, 0, List.replicate 65 0⟩, v3),
  (⟨4, n - 3, 0, []⟩, .slice none 0 0), (⟨3, 0, 0, []⟩, .slice none 0 0), (⟨0, 0, 0, []⟩, .slice none 0 0), (⟨6, 1, 0, []⟩, .slice none 0 0), (⟨1, n, 0, [byteI n]⟩, v4), (⟨7, n, 510 + n, []⟩, .slice none 0 0)]
theorem ok_slc {w : World} {l : List UInt8} {u : Value} (h : SlcV l u w) (a b c : Int) (ha : i64 a) (hb : i64 b) (hc : i64 c) : DeedOk w w.heap.size (⟨a, b, c, l⟩, u) := by
  obtain ⟨r, rfl, h⟩ := h
  exact ok_some h rfl _ _ _ ha hb hc
theorem ds2_ok (n : Int) (hn : -1 ≤ n ∧ n < 9) {w : World} {v1 v2 v3 v4 : Value} (h1 : SlcV [1] v1 w) (h2 : SlcV (List.replicate 64 0) v2 w) (h3 : SlcV (List.replicate 65 0) v3 w) (h4 : SlcV [byteI n] v4 w) : ∀ p ∈ ds2 n v1 v2 v3 v4, DeedOk w w.heap.size p := by
  have c : ∀ z : Int, -100 ≤ z ∧ z < 1000 → i64 z := fun z h => small_i64 (by omega)
  unfold ds2
  simp only [List.forall_mem_cons]
  refine ⟨ok_none _ _ _ _ _ (c _ (by omega)) (c _ (by omega)) (c _ (by omega)), ok_slc h1 _ _ _ (c _ (by omega)) (c _ (by omega)) (c _ (by omega)), ok_none _ _ _ _ _ (c _ (by omega)) (c _ (by omega)) (c _ (by omega)), ok_none _ _ _ _ _ (c _ (by omega)) (c _ (by omega)) (c _ (by omega)),
    ok_slc h2 _ _ _ (c _ (by omega)) (c _ (by omega)) (c _ (by omega)), ok_slc h3 _ _ _ (c _ (by omega)) (c _ (by omega)) (c _ (by omega)), ok_none _ _ _ _ _ (c _ (by omega)) (c _ (by omega)) (c _ (by omega)), ok_none _ _ _ _ _ (c _ (by omega)) (c _ (by omega)) (c _ (by omega)),
    ok_none _ _ _ _ _ (c _ (by omega)) (c _ (by omega)) (c _ (by omega)), ok_none _ _ _ _ _ (c _ (by omega)) (c _ (by omega)) (c _ (by omega)), ok_slc h4 _ _ _ (c _ (by omega)) (c _ (by omega)) (c _ (by omega)), ok_none _ _ _ _ _ (c _ (by omega)) (c _ (by omega)) (c _ (by omega)), fun p hp => by cases hp⟩
theorem ds2_small (n : Int) (v1 v2 v3 v4 : Value) : ∀ p ∈ onlyD (ds2 n v1 v2 v3 v4), p.b.length ≤ 1000 := by
  unfold ds2 onlyD
  simp only [List.map_cons, List.map_nil, List.forall_mem_cons, List.length_nil, List.length_cons, List.length_replicate]
  refine ⟨by omega, by omega, by omega, by omega, by omega, by omega, by omega, by omega, by omega, by omega, by omega, by omega, fun p hp => by cases hp⟩
end Go.Proofs.Ytajeohmmobgcjaa
