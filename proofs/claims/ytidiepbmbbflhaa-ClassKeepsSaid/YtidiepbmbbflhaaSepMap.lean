/- Maps as things in memory (XSep). -/
import Derived.Test.YtidiepbmbbflhaaSep2
import Derived.Test.YtidiepbmbbflhaaMapM
namespace Go.Proofs.Ytidiepbmbbflhaa
open Go Go.RowKit Go.Maps
section
variable {K V : Type} {ek : K → Value} {ok : K → Prop} {ev : V → Value} {P : Program} {w0 w w' : World} {L : List Ent}
def mapE (ek : K → Value) (ok : K → Prop) (ev : V → Value) (g : Nat) (m : List (K × V)) : Ent := ⟨fun b => b = g, fun w => MapIs ek ok ev w g m⟩
theorem mapE_ok (g : Nat) (m : List (K × V)) : (mapE ek ok ev g m).Ok := fun _ _ h hk => h.of_eq (hk g rfl h.lt)
theorem Mem.map {g : Nat} {m : List (K × V)} (h : Mem w0 w L) (i : Nat) (hi : L[i]? = some (mapE ek ok ev g m)) : MapIs ek ok ev w g m := h.get i hi
/-- a world with one map more, of nothing -/
structure NewMap (ek : K → Value) (ok : K → Prop) (ev : V → Value) (w w' : World) : Prop where
  map : MapIs ek ok ev w' w.heap.size []
  below : Below w.heap.size w w'
  size : w'.heap.size = w.heap.size + 1
theorem Mem.newMap (h : Mem w0 w L) (hn : NewMap ek ok ev w w') : Mem w0 w' (mapE ek ok ev w.heap.size [] :: L) :=
  h.new hn.below (mapE_ok _ _) hn.map fun b hf => by have := hn.size; have e : b = w.heap.size := hf; omega
theorem Mem.putMap {g : Nat} {m m' : List (K × V)} (h : Mem w0 w L) (i : Nat) (hi : L[i]? = some (mapE ek ok ev g m)) (hm : MapIs ek ok ev w' g m') (ht : Turn1 w w' g) : Mem w0 w' (L.set i (mapE ek ok ev g m')) :=
  h.upd i hi ht.grown (fun _ hb => (Option.some.inj hb).symm) (mapE_ok _ _) hm fun _ hf => .inl hf
variable {ops : Array Oper} {rest : List Oper} {o : Oper} {a : Act} {Q : Exit → Act → World → Prop}
theorem at_makeMap (n : Nat) {t : TypeId} {ty} {p} {af} {g} (h : wpList P ops Q (⟨some n, .makeMap t none, ty, p, af, g⟩ :: rest) a w) : wpList P ops Q (⟨some n, .makeMap t none, ty, p, af, g⟩ :: rest) a w := h
theorem at_mapUpdate (x y : Nat) {t : TypeId} {z : Operand} {ty} {p} {af} {g} (h : wpList P ops Q (⟨none, .mapUpdate t (.tmp x) (.tmp y) z, ty, p, af, g⟩ :: rest) a w) : wpList P ops Q (⟨none, .mapUpdate t (.tmp x) (.tmp y) z, ty, p, af, g⟩ :: rest) a w := h
theorem wpList_makeMapN (ek : K → Value) (ok : K → Prop) (ev : V → Value) (hg : o.guard = none) (t : TypeId) (ho : o.op = .makeMap t none) (h : ∀ w', NewMap ek ok ev w w' → wpList P ops Q rest (a.put o.dst (.map (some w.heap.size))) w') : wpList P ops Q (o :: rest) a w := by
  refine wpList_value hg (.map (some w.heap.size)) (w.alloc (.map #[] 0)) ?_ (h _ ⟨mapIs_new w, (Below.refl _ w).alloc (Nat.le_refl _) _, by rw [size_alloc]⟩)
  unfold execOp
  simp only [ho]
  rfl
theorem wpList_mapPut [DecidableEq K] (hg : o.guard = none) (t : TypeId) (x y z : Operand) (ho : o.op = .mapUpdate t x y z) {k e : TypeId} (E : KeyEnc P k ek ok) {b : Nat} {m : List (K × V)} (hm : MapIs ek ok ev w b m) {key : K} (hk : ok key) (ht : P.underlying t = some (.map k e)) (v : V) (hx : a.eval x = .map (some b)) (hy : a.eval y = ek key) (hz : a.eval z = ev v)
    (h : ∀ w', MapIs ek ok ev w' b (mput m key v) → Turn1 w w' b → wpList P ops Q rest (a.put o.dst undef) w') : wpList P ops Q (o :: rest) a w := by
  obtain ⟨w', h1, h2, h3⟩ := hm.update E hk ht v
  refine wpList_plain hg fun K hK => ?_
  unfold Oper.wp execOp
  simp only [ho, hx, hy, hz, Sem.run_bind, h1, Result.andThen_ok, Sem.run_pure]
  exact hK _ _ (h w' h2 h3)
end
end Go.Proofs.Ytidiepbmbbflhaa
